/-
  What can be chosen in each cell: the program, each list. No condition.
-/
import Derived.Test.YtkfmjjoalkoncaaGreatZC7
import Derived.Test.YtkfmjjoalkoncaaGreatZC2
import Derived.Test.YtkfmjjoalkoncaaGreatZS5l
namespace Go.Proofs.YtkfmjjoalkoncaaGreat
open Go.AI
set_option maxRecDepth 8000
set_option maxHeartbeats 3200000
open Classical in
/-- The applicable rules of each cell that has some, and all packings. -/
noncomputable def cellsL (s : System) (t : State) : Nat → List (List Int × List (List Int))
  | 0 => []
  | c + 1 => if ndC s t c = [] then cellsL s t c else cellsL s t c ++ [(cIx s t (c : Int) s.rules.length, pkC s t c)]
theorem cellsL_len (s : System) (t : State) : ∀ c, (cellsL s t c).length ≤ c
  | 0 => Nat.le_refl _
  | c + 1 => by
    have ih := cellsL_len s t c
    rw [cellsL]
    split
    · omega
    · rw [List.length_append, List.length_singleton]; omega
def encCel (x : List Int × List (List Int)) : List A := [.sl (x.1.map Go.AI.encI), .sl (x.2.map (encS Go.AI.encI))]
theorem o_byCellsX (s : System) (t : State) (hv : s.Ok) (ht : s.StateOk t) : Does Tryz.prog 46 [.agg (encSystem s), .agg (encState t)] []
    (fun v h' => (¬ (Big16 s t s.parents.length ∨ Big2 s t s.parents.length) → v = .tup [.sl ((cellsL s t s.parents.length).map encCel), .int 0] ∧ h' = []) ∧
      ((Big16 s t s.parents.length ∨ Big2 s t s.parents.length) → v = .tup [.os none 0 0, .int 3] ∧ h' = [])) := by
  refine fn_of_runD tyOk ztOk mix Tryz.func46 rfl (by decide) Tryz.ntmps46 (fun w0 F => ?_)
  change Run _ _ _ _ _ F
  have h6 := hv.1.2.1
  have h16 := hv.2.1
  have hbl := ht.2.1
  have il := idxL_len s t s.rules.length
  repeat' (first
      | (refine j_go ?_; first
        | refine j_op0 rfl rfl rfl rfl ?_ | (refine j_kLen rfl ?_; first | refine j_len rfl rfl rfl rfl rfl rfl ?_) | refine j_box rfl rfl rfl rfl rfl rfl ?_)
      | refine j_nil ?_
      | (refine r_go ?_; first | refine run_seq ?_ | refine run_region ?_)
      | refine seqQ_normal ?_)
  refine j_make (m := s.parents.length) rfl rfl rfl rfl rfl rfl rfl rfl (by omega) rfl rfl (fun bo => ?_)
  repeat' (first
      | (refine j_go ?_; first
        | refine j_op0 rfl rfl rfl rfl ?_ | (refine j_kLen rfl ?_; first | refine j_len rfl rfl rfl rfl rfl rfl ?_) | (refine j_kCall rfl rfl rfl rfl ?_; first | refine jc (c_applicable _ _ hv ht) (LeL.refl _) rfl rfl ?_))
      | refine j_nil ?_
      | (refine r_go ?_; first | refine run_seq ?_ | refine run_region ?_ | refine run_block ?_)
      | refine seqQ_normal ?_)
  refine run_loop (fun x : Nat × List A × List Heap => [(2, .ip (encSystem s)), (3, .ip (encState t)), (6, .os (some bo) s.parents.length s.parents.length), (24, .sl ((idxL s t s.rules.length).map Go.AI.encI)), (25, .int (idxL s t s.rules.length).length), (26, .int (x.1 : Int))])
    (fun x => ⟨some bo, 24, s.parents.length * 1, (x.2.1.map fun a => [a]).flatten⟩ :: (x.2.2.flatten ++ F))
    (fun x => x.1 ≤ (idxL s t s.rules.length).length ∧ x.2.1.length = s.parents.length ∧ x.2.2.length = s.parents.length ∧ (∀ d (h1 : d < x.2.1.length) (h2 : d < x.2.2.length), RW (ownC s t d x.1) x.2.1[d] x.2.2[d]) ∧ ∀ i (h : i < (idxL s t s.rules.length).length), i < x.1 → tot (t.bags.getD (cellOf s (idxL s t s.rules.length)[i]).toNat []) ≤ 16)
    (fun x => (idxL s t s.rules.length).length - x.1) (0, List.replicate s.parents.length (.os none 0 0), List.replicate s.parents.length []) ⟨rfl, rfl, rfl, rfl, rfl, rfl, trivial⟩ (by simp only [List.map_replicate, List.flatten_replicate_nil]; rfl)
    ⟨Nat.zero_le _, by simp, by simp, fun d h1 h2 => by simp only [List.getElem_replicate]; exact .inl ⟨by simp [ownC], rfl, rfl⟩, fun _ _ q => absurd q (Nat.not_lt_zero _)⟩ (fun ⟨j, vs, hs⟩ ⟨jl, g2, g3, gr, g5⟩ => ?_)
  dsimp only at jl g2 g3 gr g5 ⊢
  by_cases hj : j < (idxL s t s.rules.length).length
  · obtain ⟨i, ei, _, hi, ha⟩ := idxL_mem.1 (List.getElem_mem hj)
    have x0 : 0 ≤ (idxL s t s.rules.length)[j] := by rw [ei]; omega
    have xk : (idxL s t s.rules.length)[j].toNat < s.rules.length := by rw [ei]; exact hi
    have xA : App s t (s.rules[(idxL s t s.rules.length)[j].toNat]'xk) := by simp only [ei, Int.toNat_natCast]; exact ha
    have xi : (idxL s t s.rules.length)[j] = (((idxL s t s.rules.length)[j].toNat : Nat) : Int) := by omega
    have xc := (hv.2.2 _ xk).1.1
    have ec : cellOf s (idxL s t s.rules.length)[j] = (s.rules[(idxL s t s.rules.length)[j].toNat]'xk).cell := by unfold cellOf; rw [getD_get xk]
    have hcb : (s.rules[(idxL s t s.rules.length)[j].toNat]'xk).cell.toNat < t.bags.length := by omega
    have bk := bag_bgk hv ht hcb
    have hsm : Small t.bags[(s.rules[(idxL s t s.rules.length)[j].toNat]'xk).cell.toNat] := Bag.small (Ptk.bagk bk)
    have ecn : cellOf s (idxL s t s.rules.length)[j] = (((s.rules[(idxL s t s.rules.length)[j].toNat]'xk).cell.toNat : Nat) : Int) := by rw [ec]; omega
    repeat' (first
      | (refine j_go ?_; first
        | refine j_op0 rfl rfl rfl rfl ?_ | (refine j_kIdx rfl ?_; first | refine j_idx rfl rfl rfl rfl rfl (by omega) rfl rfl rfl ?_ | refine j_idxz rfl rfl rfl rfl rfl ⟨by omega, by omega⟩ rfl rfl rfl ?_ | refine j_midxz rfl rfl rfl rfl rfl (by first | omega | (simp only [List.length_append, List.length_cons, List.length_nil]; omega)) rfl rfl ?_) | (refine j_kCall rfl rfl rfl rfl ?_; first | refine jc (c_bagSize _ hsm) (LeL.refl _) rfl rfl ?_))
      | refine j_nil ?_
      | (refine r_go ?_; first | refine run_seq ?_ | refine run_region ?_ | (refine (run_if rfl (fun hb => ?_) (fun hb => ?_)) <;> first | (exfalso; omega) | skip) | refine run_block ?_ | refine run_ret ?_ | refine run_skip ?_)
      | refine seqQ_normal ?_ | refine seqQ_ret ?_ | refine blockQ_ret ?_ | refine loopQ_ret ?_)
    · have hB : Big16 s t s.parents.length := ⟨(s.rules[(idxL s t s.rules.length)[j].toNat]'xk).cell.toNat, by omega, nd_ne.2 (List.ne_nil_of_mem (mem_cIx xk ⟨xA, by omega⟩ _ xk)), by rw [getD_get hcb]; omega⟩
      refine endD_view (view_sub (h0 := F) (List.Sublist.cons _ (List.sublist_append_right _ _))) ?_
      exact endD_ret (h1 := []) rfl (.cons (.tmp rfl) (.cons (.tmp rfl) .nil)) (Le.refl _) ⟨fun q => absurd (.inl hB) q, fun _ => ⟨rfl, rfl⟩⟩ (.inl rfl)
    have hcv : (s.rules[(idxL s t s.rules.length)[j].toNat]'xk).cell.toNat < vs.length := by omega
    have hch : (s.rules[(idxL s t s.rules.length)[j].toNat]'xk).cell.toNat < hs.length := by omega
    have ey := ownC_y (c := (s.rules[(idxL s t s.rules.length)[j].toNat]'xk).cell.toNat) hj ecn
    have en : ∀ d, d ≠ (s.rules[(idxL s t s.rules.length)[j].toNat]'xk).cell.toNat → ownC s t d (j + 1) = ownC s t d j := fun d hd => ownC_n hj (fun q => hd (by omega))
    have g5' : ∀ i (h : i < (idxL s t s.rules.length).length), i < j + 1 → tot (t.bags.getD (cellOf s (idxL s t s.rules.length)[i]).toNat []) ≤ 16 := fun i h1 h2 => by
      by_cases e : i = j
      · subst e; rw [ecn, Int.toNat_natCast, getD_get hcb]; omega
      · exact g5 i h1 (by omega)
    refine j_mloadE 0 (s.rules[(idxL s t s.rules.length)[j].toNat]'xk).cell.toNat (g := fun a => [a]) (L := vs) (z := 1) rfl rfl rfl rfl (fun _ => rfl) rfl hcv (fun _ => rfl) rfl rfl ?_
    have gc := gr (s.rules[(idxL s t s.rules.length)[j].toNat]'xk).cell.toNat hcv hch
    have olen : (ownC s t (s.rules[(idxL s t s.rules.length)[j].toNat]'xk).cell.toNat j).length ≤ j := by
      unfold ownC
      exact Nat.le_trans (List.length_filter_le _ _) (by rw [List.length_take]; omega)
    rcases gc with ⟨e1, e2, e3⟩ | ⟨ob, cap, e2, e3⟩
    · rw [e2]
      rw [e1, List.nil_append] at ey
      repeat' (first
      | (refine j_go ?_; first
        | refine j_op0 rfl rfl rfl rfl ?_ | (refine j_kBsl rfl ?_; first | refine j_bsl rfl rfl rfl rfl rfl rfl rfl rfl rfl rfl rfl ?_)))
      refine j_append0 (g := Go.AI.encI) [(idxL s t s.rules.length)[j]] rfl rfl rfl rfl rfl rfl rfl rfl (fun _ => rfl) (fun _ hy => by simp only [List.mem_singleton] at hy; subst hy; rfl) ⟨by simp only [List.length_cons, List.length_nil]; omega, by simp only [List.length_cons, List.length_nil]; omega⟩ rfl rfl (fun ob' cap' => ?_)
      repeat' (first
      | (refine j_go ?_; first
        | (refine j_kIdx rfl ?_; first | refine j_midxz rfl rfl rfl rfl rfl (by first | omega | (simp only [List.length_append, List.length_cons, List.length_nil]; omega)) rfl rfl ?_)))
      refine j_storeE 1 (s.rules[(idxL s t s.rules.length)[j].toNat]'xk).cell.toNat (g := fun a => [a]) (L := vs) (A.os ob' [(idxL s t s.rules.length)[j]].length cap') rfl rfl rfl rfl rfl rfl rfl rfl rfl (fun _ => rfl) rfl hcv ?_
      repeat' (first
      | (refine j_go ?_; first
        | refine j_op0 rfl rfl rfl rfl ?_ | (refine j_kBin rfl ?_; first | refine j_in rfl rfl ⟨by omega, by omega⟩ rfl rfl ?_))
      | refine j_nil ?_
      | (refine r_go ?_; first | refine run_region ?_)
      | refine seqQ_normal ?_ | refine blockQ_normal ?_)
      refine loopQ_view (view_perm (h' := (⟨some bo, 24, s.parents.length * 1, ((vs.set (s.rules[(idxL s t s.rules.length)[j].toNat]'xk).cell.toNat (A.os ob' [(idxL s t s.rules.length)[j]].length cap')).map fun a => [a]).flatten⟩ : Blk) :: ((hs.set (s.rules[(idxL s t s.rules.length)[j].toNat]'xk).cell.toNat [(⟨ob', 2, cap' * 1, ([(idxL s t s.rules.length)[j]].map Go.AI.encI).flatten⟩ : Blk)]).flatten ++ F)) (by
        change List.Perm ((⟨ob', 2, cap' * 1, ([(idxL s t s.rules.length)[j]].map Go.AI.encI).flatten⟩ : Blk) :: (⟨some bo, 24, s.parents.length * 1, ((vs.set (s.rules[(idxL s t s.rules.length)[j].toNat]'xk).cell.toNat (A.os ob' [(idxL s t s.rules.length)[j]].length cap')).map fun a => [a]).flatten⟩ : Blk) :: (hs.flatten ++ F)) _
        classical
        refine List.perm_iff_count.2 fun a => ?_
        have q := List.perm_iff_count.1 (flat_set hch [(⟨ob', 2, cap' * 1, ([(idxL s t s.rules.length)[j]].map Go.AI.encI).flatten⟩ : Blk)]) a
        rw [e3] at q
        simp only [List.count_append, List.count_cons, List.count_nil] at q ⊢
        omega)) ?_
      exact loopQ_next (j + 1, vs.set (s.rules[(idxL s t s.rules.length)[j].toNat]'xk).cell.toNat (A.os ob' [(idxL s t s.rules.length)[j]].length cap'), hs.set (s.rules[(idxL s t s.rules.length)[j].toNat]'xk).cell.toNat [(⟨ob', 2, cap' * 1, ([(idxL s t s.rules.length)[j]].map Go.AI.encI).flatten⟩ : Blk)]) ⟨by dsimp only; omega, by dsimp only; rw [List.length_set]; exact g2, by dsimp only; rw [List.length_set]; exact g3, rw_upd hcv gr en (by rw [ey]; exact .inr ⟨ob', cap', rfl, rfl⟩), g5'⟩ (by dsimp only; omega) rfl ⟨rfl, rfl, rfl, rfl, rfl, nx _, trivial⟩
    · rw [e2]
      refine j_view (view_perm (h' := (⟨ob, 2, cap * 1, ((ownC s t (s.rules[(idxL s t s.rules.length)[j].toNat]'xk).cell.toNat j).map Go.AI.encI).flatten⟩ : Blk) :: (⟨some bo, 24, s.parents.length * 1, (vs.map fun a => [a]).flatten⟩ : Blk) :: ((hs.set (s.rules[(idxL s t s.rules.length)[j].toNat]'xk).cell.toNat []).flatten ++ F)) (by
        change List.Perm ((⟨some bo, 24, s.parents.length * 1, (vs.map fun a => [a]).flatten⟩ : Blk) :: (hs.flatten ++ F)) _
        classical
        refine List.perm_iff_count.2 fun a => ?_
        have q := List.perm_iff_count.1 (flat_set hch []) a
        rw [e3] at q
        simp only [List.count_append, List.count_cons, List.count_nil] at q ⊢
        omega)) ?_
      repeat' (first
      | (refine j_go ?_; first
        | refine j_op0 rfl rfl rfl rfl ?_ | (refine j_kBsl rfl ?_; first | refine j_bsl rfl rfl rfl rfl rfl rfl rfl rfl rfl rfl rfl ?_)))
      refine j_append 0 (g := Go.AI.encI) (ys := ownC s t (s.rules[(idxL s t s.rules.length)[j].toNat]'xk).cell.toNat j) [(idxL s t s.rules.length)[j]] rfl rfl rfl rfl rfl rfl rfl rfl rfl rfl rfl rfl (fun _ => rfl) (fun _ hy => by simp only [List.mem_singleton] at hy; subst hy; rfl) ⟨by simp only [List.length_cons, List.length_nil]; omega, by simp only [List.length_cons, List.length_nil]; omega⟩ rfl rfl (fun ob' cap' => ?_)
      rw [← ey]
      repeat' (first
      | (refine j_go ?_; first
        | (refine j_kIdx rfl ?_; first | refine j_midxz rfl rfl rfl rfl rfl (by first | omega | (simp only [List.length_append, List.length_cons, List.length_nil]; omega)) rfl rfl ?_)))
      refine j_storeE 1 (s.rules[(idxL s t s.rules.length)[j].toNat]'xk).cell.toNat (g := fun a => [a]) (L := vs) (A.os ob' (ownC s t (s.rules[(idxL s t s.rules.length)[j].toNat]'xk).cell.toNat (j + 1)).length cap') rfl rfl rfl rfl rfl rfl rfl rfl rfl (fun _ => rfl) rfl hcv ?_
      repeat' (first
      | (refine j_go ?_; first
        | refine j_op0 rfl rfl rfl rfl ?_ | (refine j_kBin rfl ?_; first | refine j_in rfl rfl ⟨by omega, by omega⟩ rfl rfl ?_))
      | refine j_nil ?_
      | (refine r_go ?_; first | refine run_region ?_)
      | refine seqQ_normal ?_ | refine blockQ_normal ?_)
      refine loopQ_view (view_perm (h' := (⟨some bo, 24, s.parents.length * 1, ((vs.set (s.rules[(idxL s t s.rules.length)[j].toNat]'xk).cell.toNat (A.os ob' (ownC s t (s.rules[(idxL s t s.rules.length)[j].toNat]'xk).cell.toNat (j + 1)).length cap')).map fun a => [a]).flatten⟩ : Blk) :: ((hs.set (s.rules[(idxL s t s.rules.length)[j].toNat]'xk).cell.toNat [(⟨ob', 2, cap' * 1, ((ownC s t (s.rules[(idxL s t s.rules.length)[j].toNat]'xk).cell.toNat (j + 1)).map Go.AI.encI).flatten⟩ : Blk)]).flatten ++ F)) (by
        change List.Perm ((⟨ob', 2, cap' * 1, ((ownC s t (s.rules[(idxL s t s.rules.length)[j].toNat]'xk).cell.toNat (j + 1)).map Go.AI.encI).flatten⟩ : Blk) :: (⟨some bo, 24, s.parents.length * 1, ((vs.set (s.rules[(idxL s t s.rules.length)[j].toNat]'xk).cell.toNat (A.os ob' (ownC s t (s.rules[(idxL s t s.rules.length)[j].toNat]'xk).cell.toNat (j + 1)).length cap')).map fun a => [a]).flatten⟩ : Blk) :: ((hs.set (s.rules[(idxL s t s.rules.length)[j].toNat]'xk).cell.toNat []).flatten ++ F)) _
        classical
        refine List.perm_iff_count.2 fun a => ?_
        have q := List.perm_iff_count.1 (flat_set hch [(⟨ob', 2, cap' * 1, ((ownC s t (s.rules[(idxL s t s.rules.length)[j].toNat]'xk).cell.toNat (j + 1)).map Go.AI.encI).flatten⟩ : Blk)]) a
        have q2 := List.perm_iff_count.1 (flat_set hch []) a
        simp only [List.count_append, List.count_cons, List.count_nil] at q q2 ⊢
        omega)) ?_
      exact loopQ_next (j + 1, vs.set (s.rules[(idxL s t s.rules.length)[j].toNat]'xk).cell.toNat (A.os ob' (ownC s t (s.rules[(idxL s t s.rules.length)[j].toNat]'xk).cell.toNat (j + 1)).length cap'), hs.set (s.rules[(idxL s t s.rules.length)[j].toNat]'xk).cell.toNat [(⟨ob', 2, cap' * 1, ((ownC s t (s.rules[(idxL s t s.rules.length)[j].toNat]'xk).cell.toNat (j + 1)).map Go.AI.encI).flatten⟩ : Blk)]) ⟨by dsimp only; omega, by dsimp only; rw [List.length_set]; exact g2, by dsimp only; rw [List.length_set]; exact g3, rw_upd hcv gr en (.inr ⟨ob', cap', rfl, rfl⟩), g5'⟩ (by dsimp only; omega) rfl ⟨rfl, rfl, rfl, rfl, rfl, nx _, trivial⟩
  have hje : j = (idxL s t s.rules.length).length := by omega
  have hno : ¬ Big16 s t s.parents.length := fun ⟨c, h1, h2, h3⟩ => by
    obtain ⟨x, hx⟩ := List.exists_mem_of_ne_nil _ (nd_ne.1 h2)
    obtain ⟨i, hi, rfl, hA, hc⟩ := cIx_mem _ x hx
    obtain ⟨k, hk, ek⟩ := List.getElem_of_mem (idxL_mem.2 ⟨i, rfl, hi, hi, hA⟩ : (i : Int) ∈ idxL s t s.rules.length)
    have := g5 k hk (by omega)
    rw [ek] at this
    unfold cellOf at this
    rw [Int.toNat_natCast, getD_get hi, hc, Int.toNat_natCast] at this
    omega
  have ro : OwnLL RW 24 (owL s t) (.os (some bo) s.parents.length s.parents.length) ((⟨some bo, 24, s.parents.length * 1, (vs.map fun a => [a]).flatten⟩ : Blk) :: hs.flatten) :=
    .inl ⟨some bo, s.parents.length, vs, hs, by rw [owL_len]; exact g2, by rw [owL_len]; exact g3, fun c h0 h1 h2 => by rw [owL_get, ← ownC_all, ← hje]; exact gr c h1 h2, by rw [owL_len], rfl⟩
  repeat' (first
      | (refine j_go ?_; first
        | refine j_op0 rfl rfl rfl rfl ?_ | (refine j_kLen rfl ?_; first | refine j_op rfl rfl rfl rfl ?_) | (refine j_kBsl rfl ?_; first | refine j_bs0 rfl rfl rfl rfl rfl rfl ?_))
      | refine j_nil ?_
      | (refine r_go ?_; first | refine run_seq ?_ | refine run_region ?_ | (refine (run_if rfl (fun hb => ?_) (fun hb => ?_)) <;> first | (exfalso; omega) | skip) | refine run_block ?_ | refine run_exit ?_)
      | refine seqQ_normal ?_ | refine seqQ_exit ?_ | refine blockQ_eq ?_ | refine loopQ_exit ?_)
  refine run_view (view_frzF (h1 := (⟨some bo, 24, s.parents.length * 1, (vs.map fun a => [a]).flatten⟩ : Blk) :: hs.flatten) (F := F) 55 (OwnLL.frzF (enc := fun x => x.map Go.AI.encI) (fun _ _ _ q => q.frzF) ro (fun _ => rfl)) rfl (List.Perm.refl _)) ?_
  refine run_view (view_none 87 0 rfl) ?_
  have ol := owL_len s t
  refine run_loop (fun x : Nat × (Option Nat × Nat) => [(2, .ip (encSystem s)), (3, .ip (encState t)), (55, .sl ((owL s t).map (encS Go.AI.encI))), (56, .int s.parents.length), (10, .os x.2.1 (cellsL s t x.1).length x.2.2), (57, .int (x.1 : Int))])
    (fun x => ⟨x.2.1, 87, x.2.2 * 2, ((cellsL s t x.1).map encCel).flatten⟩ :: F) (fun x => x.1 ≤ s.parents.length ∧ ¬ Big2 s t x.1) (fun x => s.parents.length - x.1) (0, (none, 0)) ⟨rfl, rfl, rfl, rfl, rfl, rfl, trivial⟩ rfl
    ⟨Nat.zero_le _, fun ⟨c, h, _⟩ => absurd h (Nat.not_lt_zero _)⟩ (fun ⟨c, oo, co⟩ ⟨cl, cp⟩ => ?_)
  dsimp only at cl cp ⊢
  have olen := cellsL_len s t c
  by_cases hc : c < s.parents.length
  · have hco : c < (owL s t).length := by omega
    have hcb : c < t.bags.length := by omega
    have bk := bag_bgk hv ht hcb
    have bg : t.bags.getD c [] = t.bags[c] := getD_get hcb
    have eO := owL_get hco
    have cil := cIx_len s t (c : Int) s.rules.length
    have lO : (owL s t)[c].length = (cIx s t (c : Int) s.rules.length).length := by rw [eO]
    by_cases hne : ndC s t c = []
    · have z : (cIx s t (c : Int) s.rules.length).length = 0 := by
        have : (ndC s t c).length = 0 := by rw [hne]; rfl
        unfold ndC at this; omega
      have e : cellsL s t (c + 1) = cellsL s t c := by rw [cellsL, if_pos hne]
      repeat' (first
      | (refine j_go ?_; first
        | refine j_op0 rfl rfl rfl rfl ?_ | (refine j_kIdx rfl ?_; first | refine j_idx rfl rfl rfl rfl rfl (by omega) rfl rfl rfl ?_) | (refine j_kBin rfl ?_; first | refine j_in rfl rfl ⟨by omega, by omega⟩ rfl rfl ?_) | (refine j_kLen rfl ?_; first | refine j_len rfl rfl rfl rfl rfl rfl ?_))
      | refine j_nil ?_
      | (refine r_go ?_; first | refine run_seq ?_ | refine run_region ?_ | (refine (run_if rfl (fun hb => ?_) (fun hb => ?_)) <;> first | (exfalso; omega) | skip) | refine run_block ?_ | refine run_exit ?_ | refine run_skip ?_)
      | refine seqQ_normal ?_ | refine seqQ_exit ?_ | refine blockQ_eq ?_)
      all_goals first
        | exact loopQ_next (c + 1, (oo, co)) ⟨by dsimp only; omega, fun ⟨d, h1, h2, h3⟩ => by
            by_cases e : d = c
            · subst e; exact h2 hne
            · exact cp ⟨d, by omega, h2, h3⟩⟩ (by dsimp only; omega) (by dsimp only; rw [e]) ⟨rfl, rfl, rfl, rfl, (by dsimp only; rw [e]; rfl), nx _, trivial⟩
        | (exfalso; omega)
        | trace_state
    · have z : 0 < (cIx s t (c : Int) s.rules.length).length := by
        have : 0 < (ndC s t c).length := List.length_pos_iff.2 hne
        unfold ndC at this; omega
      have e : cellsL s t (c + 1) = cellsL s t c ++ [(cIx s t (c : Int) s.rules.length, pkC s t c)] := by rw [cellsL, if_neg hne]
      have eK : pkC s t c = packL (cNd s t (c : Int) s.rules.length) (cNd s t (c : Int) s.rules.length) t.bags[c] := by unfold pkC ndC; rw [bg]
      have t16 : tot t.bags[c] ≤ 16 := by
        by_cases q : tot t.bags[c] ≤ 16
        · exact q
        · exact absurd ⟨c, hc, hne, by rw [bg]; omega⟩ hno
      have eN : cN s t c = packN (cNd s t (c : Int) s.rules.length) (cNd s t (c : Int) s.rules.length) t.bags[c] := by unfold cN ndC; rw [bg]
      repeat' (first
      | (refine j_go ?_; first
        | refine j_op0 rfl rfl rfl rfl ?_ | (refine j_kIdx rfl ?_; first | refine j_idx rfl rfl rfl rfl rfl (by omega) rfl rfl rfl ?_) | (refine j_kLen rfl ?_; first | refine j_len rfl rfl rfl rfl rfl rfl ?_) | (refine j_kBsl rfl ?_; first | refine j_bs0 rfl rfl rfl rfl rfl rfl ?_))
      | refine j_nil ?_
      | (refine r_go ?_; first | refine run_seq ?_ | refine run_region ?_ | (refine (run_if rfl (fun hb => ?_) (fun hb => ?_)) <;> first | (exfalso; omega) | skip) | refine run_block ?_ | refine run_skip ?_)
      | refine seqQ_normal ?_)
      all_goals first | (exfalso; omega) | skip
      refine run_view (view_none 24 0 rfl) ?_
      refine run_loop (fun x : Nat × (Option Nat × Nat) => [(2, .ip (encSystem s)), (3, .ip (encState t)), (10, .os oo (cellsL s t c).length co), (11, .int (c : Int)), (12, .sl ((owL s t)[c].map Go.AI.encI)), (55, .sl ((owL s t).map (encS Go.AI.encI))), (56, .int s.parents.length), (57, .int (c : Int)), (66, .sl ((owL s t)[c].map Go.AI.encI)), (67, .int (owL s t)[c].length), (13, .os x.2.1 (((owL s t)[c].take x.1).map (fun y => (s.rules.getD y.toNat default).need)).length x.2.2), (68, .int (x.1 : Int))])
        (fun x => ⟨x.2.1, 24, x.2.2 * 1, ((((owL s t)[c].take x.1).map (fun y => (s.rules.getD y.toNat default).need)).map (encS Go.AI.encI)).flatten⟩ :: ⟨oo, 87, co * 2, ((cellsL s t c).map encCel).flatten⟩ :: F) (fun x => x.1 ≤ (owL s t)[c].length) (fun x => (owL s t)[c].length - x.1) (0, none, 0) ⟨rfl, rfl, rfl, rfl, rfl, rfl, rfl, rfl, rfl, rfl, rfl, rfl, trivial⟩ rfl (Nat.zero_le _) (fun ⟨k, on, cn⟩ kl => ?_)
      dsimp only at kl ⊢
      have tl : (((owL s t)[c].take k).map (fun y => (s.rules.getD y.toNat default).need)).length = k := by rw [List.length_map, List.length_take]; omega
      by_cases hk : k < (owL s t)[c].length
      · have xm : (owL s t)[c][k] ∈ cIx s t (c : Int) s.rules.length := get_mem_eq eO hk
        obtain ⟨i, hi, ei, hA, hcc⟩ := cIx_mem _ _ xm
        have x0 : 0 ≤ (owL s t)[c][k] := by rw [ei]; omega
        have xk : (owL s t)[c][k].toNat < s.rules.length := by rw [ei]; exact hi
        repeat' (first
      | (refine j_go ?_; first
        | refine j_op0 rfl rfl rfl rfl ?_ | (refine j_kIdx rfl ?_; first | refine j_idx rfl rfl rfl rfl rfl (by omega) rfl rfl rfl ?_ | refine j_idxz rfl rfl rfl rfl rfl ⟨by omega, by omega⟩ rfl rfl rfl ?_) | (refine j_kBsl rfl ?_; first | refine j_bsl rfl rfl rfl rfl rfl rfl rfl rfl rfl rfl rfl ?_))
      | refine j_nil ?_
      | (refine r_go ?_; first | refine run_seq ?_ | refine run_region ?_ | (refine (run_if rfl (fun hb => ?_) (fun hb => ?_)) <;> first | (exfalso; omega) | skip) | refine run_block ?_ | refine run_skip ?_)
      | refine seqQ_normal ?_)
        refine j_append 0 (g := encS Go.AI.encI) (ys := ((owL s t)[c].take k).map (fun y => (s.rules.getD y.toNat default).need)) [(s.rules[(owL s t)[c][k].toNat]'xk).need] rfl rfl rfl rfl rfl rfl rfl rfl rfl rfl rfl rfl (fun _ => rfl) (fun _ hy => by simp only [List.mem_singleton] at hy; subst hy; rfl) ⟨by rw [tl]; simp only [List.length_cons, List.length_nil]; omega, by rw [tl]; simp only [List.length_cons, List.length_nil]; omega⟩ rfl rfl (fun on' cn' => ?_)
        rw [show ((owL s t)[c].take k).map (fun y => (s.rules.getD y.toNat default).need) ++ [(s.rules[(owL s t)[c][k].toNat]'xk).need] = ((owL s t)[c].take (k + 1)).map (fun y => (s.rules.getD y.toNat default).need) from by
          rw [List.take_succ_eq_append_getElem hk, List.map_append, List.map_cons, List.map_nil, getD_get xk]]
        repeat' (first
      | (refine j_go ?_; first
        | refine j_op0 rfl rfl rfl rfl ?_ | (refine j_kBin rfl ?_; first | refine j_in rfl rfl ⟨by omega, by omega⟩ rfl rfl ?_))
      | refine j_nil ?_
      | (refine r_go ?_; first | refine run_region ?_)
      | refine seqQ_normal ?_ | refine blockQ_normal ?_)
        exact loopQ_next (k + 1, on', cn') (by dsimp only; omega) (by dsimp only; omega) rfl ⟨rfl, rfl, rfl, rfl, rfl, rfl, rfl, rfl, rfl, rfl, rfl, nx _, trivial⟩
      · have hke : k = (owL s t)[c].length := by omega
        subst hke
        have eK2 := eK
        have eK : ((owL s t)[c].take (owL s t)[c].length).map (fun y => (s.rules.getD y.toNat default).need) = cNd s t (c : Int) s.rules.length := by rw [List.take_length, eO, cNd_map]
        rw [eK]
        have n8 := cNd_8 hv t (c : Int) _ (Nat.le_refl _)
        repeat' (first
      | (refine j_go ?_; first
        | refine j_op0 rfl rfl rfl rfl ?_ | (refine j_kIdx rfl ?_; first | refine j_idx rfl rfl rfl rfl rfl (by omega) rfl rfl rfl ?_))
      | refine j_nil ?_
      | (refine r_go ?_; first | refine run_seq ?_ | refine run_region ?_ | (refine (run_if rfl (fun hb => ?_) (fun hb => ?_)) <;> first | (exfalso; omega) | skip) | refine run_exit ?_)
      | refine seqQ_normal ?_ | refine seqQ_exit ?_ | refine blockQ_eq ?_ | refine loopQ_exit ?_)
        refine j_view (view_freeze (g := encS Go.AI.encI) (z := 1) (ys := cNd s t (c : Int) s.rules.length) 0 88 rfl rfl rfl (fun _ => rfl) rfl rfl) ?_
        refine j_kCall rfl rfl rfl rfl ?_
        refine jcp _ (o_maxPackX s.kinds.toNat t.bags[c] (cNd s t (c : Int) s.rules.length) bk (cNd_ok hv _ _ (Nat.le_refl _)) n8 (by omega) t16) (List.Perm.refl _) (LeL.refl _) rfl rfl (fun v h1 hR => ?_)
        obtain ⟨rfl, r1, r2⟩ := hR
        rw [← eN] at r1 r2
        rw [← eK2] at r1
        by_cases hN : cN s t c ≤ 2000
        · rw [r1 hN]
          repeat' (first
      | (refine j_go ?_; first
        | refine j_op0 rfl rfl rfl rfl ?_ | (refine j_kBsl rfl ?_; first | refine j_bsl rfl rfl rfl rfl rfl rfl rfl rfl rfl rfl rfl ?_) | refine j_build rfl rfl rfl rfl rfl rfl rfl ?_)
      | refine j_nil ?_
      | (refine r_go ?_; first | refine run_seq ?_ | refine run_region ?_ | (refine (run_ifn rfl (fun hb => ?_) (fun hb => ?_)) <;> first | (exfalso; omega) | skip) | refine run_skip ?_)
      | refine seqQ_normal ?_)
          all_goals first | (exfalso; omega) | exact absurd rfl (by assumption) | skip
          refine j_append 0 (g := encCel) (ys := cellsL s t c) [(cIx s t (c : Int) s.rules.length, pkC s t c)] rfl rfl rfl rfl rfl rfl rfl rfl rfl rfl rfl (by show _ = some (A.sl [[A.sl ((cIx s t (c : Int) s.rules.length).map Go.AI.encI), A.sl ((pkC s t c).map (encS Go.AI.encI))]]); rw [← eO]; rfl) (fun _ => rfl) (fun _ hy => by simp only [List.mem_singleton] at hy; subst hy; rfl) ⟨by simp only [List.length_cons, List.length_nil]; omega, by simp only [List.length_cons, List.length_nil]; omega⟩ rfl rfl (fun oo2 co2 => ?_)
          rw [← e]
          repeat' (first
      | (refine j_go ?_; first
        | refine j_op0 rfl rfl rfl rfl ?_ | (refine j_kBin rfl ?_; first | refine j_in rfl rfl ⟨by omega, by omega⟩ rfl rfl ?_))
      | refine j_nil ?_
      | (refine r_go ?_; first | refine run_region ?_)
      | refine seqQ_normal ?_ | refine blockQ_normal ?_)
          exact loopQ_next (c + 1, (oo2, co2)) ⟨by dsimp only; omega, fun ⟨d, h1, h2, h3⟩ => by
              by_cases e : d = c
              · subst e; omega
              · exact cp ⟨d, by omega, h2, h3⟩⟩ (by dsimp only; omega) rfl ⟨rfl, rfl, rfl, rfl, rfl, nx _, trivial⟩
        · obtain ⟨x, rfl⟩ := r2 (by omega)
          have hB : Big2 s t s.parents.length := ⟨c, hc, hne, by omega⟩
          repeat' (first
      | (refine j_go ?_; first
        | refine j_op0 rfl rfl rfl rfl ?_)
      | refine j_nil ?_
      | (refine r_go ?_; first | refine run_seq ?_ | refine run_region ?_ | (refine (run_ifn rfl (fun hb => ?_) (fun hb => ?_)) <;> first | (exfalso; omega) | skip) | refine run_ret ?_)
      | refine seqQ_normal ?_ | refine seqQ_ret ?_ | refine blockQ_ret ?_ | refine loopQ_ret ?_)
          all_goals first | (exfalso; omega) | exact absurd rfl (by assumption) | skip
          refine endD_view (view_sub (h0 := F) (List.Sublist.cons _ (List.Sublist.refl _))) ?_
          exact endD_ret (h1 := []) rfl (.cons (.tmp rfl) (.cons (.tmp rfl) .nil)) (Le.refl _) ⟨fun q => absurd (.inr hB) q, fun _ => ⟨rfl, rfl⟩⟩ (.inl rfl)
  · have hce : c = s.parents.length := by omega
    subst hce
    repeat' (first
      | (refine j_go ?_; first
        | refine j_op0 rfl rfl rfl rfl ?_)
      | refine j_nil ?_
      | (refine r_go ?_; first | refine run_seq ?_ | refine run_region ?_ | (refine (run_if rfl (fun hb => ?_) (fun hb => ?_)) <;> first | (exfalso; omega) | skip) | refine run_ret ?_ | refine run_exit ?_)
      | refine seqQ_normal ?_ | refine seqQ_exit ?_ | refine blockQ_eq ?_ | refine loopQ_exit ?_)
    refine endD_view (view_freeze (g := encCel) (z := 2) (ys := cellsL s t s.parents.length) 0 4 rfl rfl rfl (fun _ => rfl) rfl rfl) ?_
    exact endD_ret (h1 := []) rfl (.cons (.tmp rfl) (.cons (.tmp rfl) .nil)) (Le.refl _) ⟨fun _ => ⟨rfl, rfl⟩, fun q => absurd q (fun q => q.elim hno cp)⟩ (.inl rfl)
end Go.Proofs.YtkfmjjoalkoncaaGreat
