/-
  How many maximal choices there are: the program's side. No condition.
-/
import Derived.Test.YtkfmjjoalkoncaaGreatZS5k
import Derived.Test.YtkfmjjoalkoncaaGreatZJO
import Derived.Test.YtkfmjjoalkoncaaGreatZSV
namespace Go.AI
open Go.RowKit
theorem view_frzF {e : Env} {h h1 F : Heap} {a a' : A} (t : Nat) (hf : FrzF h1 a a') (ht : lk e t = some a) (hp : h.Perm (h1 ++ F)) : View e h ((t, a') :: e) F := fun C n x w hc => by
  have c1 := view_perm hp C n x w hc
  have c2 := view_sub (List.sublist_append_right h1 F) C n x w c1
  exact conc_cons c2 (hf F w _ c1.heap (c1.env t _ ht))
theorem takeN_app (cs rest : List A) : takeN cs.length (cs ++ rest) = cs := by rw [takeN_eq, List.take_left]
theorem loadS {ty : Nat → Option TI} {t sz : Nat} {fs : List (Nat × Nat)} {cs rest : List A} (h : ty t = some ⟨sz, .struct fs⟩) (hl : cs.length = sz) : loadA ty t (cs ++ rest) = some (.agg cs) := by
  subst hl
  unfold loadA
  rw [h]
  have : Nat.ble cs.length (cs ++ rest).length = true := Nat.ble_eq_true_of_le (by simp)
  simp only [this, cond_true, takeN_app]
end Go.AI
namespace Go.Proofs.YtkfmjjoalkoncaaGreat
open Go.AI
set_option maxRecDepth 8000
set_option maxHeartbeats 1600000

/-- A row of the call's own, perhaps without a block. -/
def RW (l : List Int) (a : A) (h : Heap) : Prop := (l = [] ∧ a = .os none 0 0 ∧ h = []) ∨ (∃ ob cap, a = .os ob l.length cap ∧ h = [⟨ob, 2, cap * 1, (l.map Go.AI.encI).flatten⟩])
theorem RW.frzF {l : List Int} {a : A} {h : Heap} (o : RW l a h) : FrzF h a (.sl (l.map Go.AI.encI)) := by
  rcases o with ⟨rfl, rfl, rfl⟩ | ⟨ob, cap, rfl, rfl⟩
  · exact fun F w v _ r => Le.nil 0 _ _ _ r
  · exact FrzF.flat rfl rfl (fun _ => rfl) rfl rfl
noncomputable def cellOf (s : System) (x : Int) : Int := (s.rules.getD x.toNat default).cell
noncomputable def ownC (s : System) (t : State) (c : Nat) (j : Nat) : List Int := ((idxL s t s.rules.length).take j).filter (fun x => dec (cellOf s x = (c : Int)))
theorem ownC_y {s : System} {t : State} {c j : Nat} (hj : j < (idxL s t s.rules.length).length) (h : cellOf s (idxL s t s.rules.length)[j] = (c : Int)) : ownC s t c (j + 1) = ownC s t c j ++ [(idxL s t s.rules.length)[j]] := by
  unfold ownC
  rw [List.take_succ_eq_append_getElem hj, List.filter_append, List.filter_cons_of_pos (by rw [dec_t h]), List.filter_nil]
theorem ownC_n {s : System} {t : State} {c j : Nat} (hj : j < (idxL s t s.rules.length).length) (h : ¬ cellOf s (idxL s t s.rules.length)[j] = (c : Int)) : ownC s t c (j + 1) = ownC s t c j := by
  unfold ownC
  rw [List.take_succ_eq_append_getElem hj, List.filter_append, List.filter_cons_of_neg (by rw [dec_f h]; simp), List.filter_nil, List.append_nil]
theorem own_cIx (s : System) (t : State) (c : Nat) : ∀ k, k ≤ s.rules.length → (idxL s t k).filter (fun x => dec (cellOf s x = (c : Int))) = cIx s t (c : Int) k
  | 0, _ => by simp [idxL, cIx]
  | k + 1, hk => by
    have ih := own_cIx s t c k (by omega)
    have hkr : k < s.rules.length := by omega
    have ec : cellOf s (k : Int) = s.rules[k].cell := by unfold cellOf; rw [Int.toNat_natCast, getD_get hkr]
    by_cases hA : App s t s.rules[k]
    · rw [← idxL_yes hkr hA, List.filter_append, ih]
      by_cases hc : s.rules[k].cell = (c : Int)
      · rw [(cIx_y hkr ⟨hA, hc⟩).1, List.filter_cons_of_pos (by rw [dec_t (by rw [ec]; exact hc)]), List.filter_nil]
      · rw [(cIx_n hkr (fun q => hc q.2)).1, List.filter_cons_of_neg (by rw [dec_f (by rw [ec]; exact hc)]; simp), List.filter_nil, List.append_nil]
    · rw [← idxL_no hkr hA, ih, (cIx_n hkr (fun q => hA q.1)).1]
theorem ownC_all (s : System) (t : State) (c : Nat) : ownC s t c (idxL s t s.rules.length).length = cIx s t (c : Int) s.rules.length := by
  unfold ownC; rw [List.take_length]; exact own_cIx s t c _ (Nat.le_refl _)
theorem cNd_map (s : System) (t : State) (c : Int) : ∀ k, cNd s t c k = (cIx s t c k).map (fun x => (s.rules.getD x.toNat default).need)
  | 0 => rfl
  | k + 1 => by
    rw [cNd, cIx]
    split
    · rw [cNd_map s t c k, List.map_append]; rfl
    · exact cNd_map s t c k
theorem cIx_mem {s : System} {t : State} {c : Int} : ∀ k, ∀ x ∈ cIx s t c k, ∃ (i : Nat) (h : i < s.rules.length), x = (i : Int) ∧ App s t s.rules[i] ∧ s.rules[i].cell = c
  | 0, x, hx => by simp [cIx] at hx
  | k + 1, x, hx => by
    rw [cIx] at hx
    split at hx
    · rename_i q
      obtain ⟨h, q⟩ := q
      rcases List.mem_append.1 hx with z | z
      · exact cIx_mem k x z
      · rw [List.mem_singleton] at z; subst z; exact ⟨k, h, rfl, q⟩
    · exact cIx_mem k x hx
theorem mem_cIx {s : System} {t : State} {c : Int} {i : Nat} (hi : i < s.rules.length) (h : App s t s.rules[i] ∧ s.rules[i].cell = c) : ∀ k, i < k → (i : Int) ∈ cIx s t c k
  | 0, q => absurd q (Nat.not_lt_zero _)
  | k + 1, q => by
    rw [cIx]
    by_cases e : i = k
    · subst e; rw [if_pos ⟨hi, h⟩]; simp
    · have ih := mem_cIx hi h k (by omega)
      split
      · exact List.mem_append_left _ ih
      · exact ih
theorem nd_ne {s : System} {t : State} {c : Nat} : ndC s t c ≠ [] ↔ cIx s t (c : Int) s.rules.length ≠ [] := by
  unfold ndC; rw [cNd_map]; simp
theorem cNd_8 {s : System} (hv : s.Ok) (t : State) (c : Int) : ∀ k, k ≤ s.rules.length → (cNd s t c k).length ≤ 8 := by
  have key : ∀ k, k ≤ s.rules.length → ((cNd s t c k).length : Int) ≤ cntR c (s.rules.take k) := by
    intro k
    induction k with
    | zero => intro _; simp [cNd, cntR, sumF]
    | succ k ih =>
      intro hk
      have := ih (by omega)
      rw [cntR_succ (by omega)]
      have o := one_bnd c s.rules[k].cell
      rw [cNd]
      split
      · rename_i q
        rw [List.length_append, one_t q.2.2]; simp only [List.length_cons, List.length_nil]; omega
      · omega
  intro k
  induction k with
  | zero => intro _; simp [cNd]
  | succ k ih =>
    intro hk
    have := ih (by omega)
    have kk := key (k + 1) hk
    rw [cNd] at kk ⊢
    split
    · rename_i q
      rw [if_pos q] at kk
      have h8 := (hv.2.2 k (by omega)).2
      rw [q.2.2] at h8
      omega
    · exact this

theorem rw_upd {own own' : Nat → List Int} {vs : List A} {hs : List Heap} {c : Nat} {v : A} {h : Heap} (hc : c < vs.length) (hr : ∀ d (h1 : d < vs.length) (h2 : d < hs.length), RW (own d) vs[d] hs[d]) (hn : ∀ d, d ≠ c → own' d = own d) (hv : RW (own' c) v h) :
    ∀ d (h1 : d < (vs.set c v).length) (h2 : d < (hs.set c h).length), RW (own' d) (vs.set c v)[d] (hs.set c h)[d] := by
  intro d h1 h2
  rw [List.getElem_set, List.getElem_set]
  by_cases e : c = d
  · subst e; rw [if_pos rfl, if_pos rfl]; exact hv
  · rw [if_neg e, if_neg e, hn d (Ne.symm e)]; exact hr d _ _
theorem get_mem_eq {l l2 : List Int} (e : l = l2) {k : Nat} (hk : k < l.length) : l[k] ∈ l2 := by subst e; exact List.getElem_mem hk
def OutOk (outs : List (A × A)) (L : List Nat) : Prop := LensOk (outs.map Prod.snd) L ∧ ∀ x ∈ outs, okCell x.1 = true
theorem OutOk.snoc {outs : List (A × A)} {L : List Nat} (H : OutOk outs L) (r : A) (hr : okCell r = true) (ob : Option Nat) (N cap : Nat) : OutOk (outs ++ [(r, A.os ob N cap)]) (L ++ [N]) := by
  refine ⟨by rw [List.map_append]; exact LensOk.snoc H.1 ob N cap, fun x hx => ?_⟩
  rcases List.mem_append.1 hx with q | q
  · exact H.2 x q
  · rw [List.mem_singleton] at q; subst q; exact hr
noncomputable def owL (s : System) (t : State) : List (List Int) := (List.range s.parents.length).map (fun c : Nat => cIx s t (c : Int) s.rules.length)
theorem owL_len (s : System) (t : State) : (owL s t).length = s.parents.length := by simp [owL]
theorem owL_get {s : System} {t : State} {c : Nat} (h : c < (owL s t).length) : (owL s t)[c] = cIx s t (c : Int) s.rules.length := by simp [owL]
theorem o_byCells (s : System) (t : State) (hv : s.Ok) (ht : s.StateOk t) : Does Tryz.prog 46 [.agg (encSystem s), .agg (encState t)] []
    (fun v h' => (¬ (Big16 s t s.parents.length ∨ Big2 s t s.parents.length) → ∃ b cap outs, OutOk outs (lensK s t s.parents.length) ∧ v = .tup [.os b outs.length cap, .int 0] ∧ h' = [⟨b, 87, cap * 2, (outs.map fun x => [x.1, x.2]).flatten⟩]) ∧
      ((Big16 s t s.parents.length ∨ Big2 s t s.parents.length) → v = .tup [.os none 0 0, .int 3] ∧ h' = [])) := by
  refine fn_of_runD tyOk ztOk mix Tryz.func46 rfl (by decide) Tryz.ntmps46 (fun w0 F => ?_)
  change Run _ _ _ _ _ F
  have h6 := hv.1.2.1
  have h16 := hv.2.1
  have hbl := ht.2.1
  have il := idxL_len s t s.rules.length
  repeat' (first
      | (refine j_go ?_; first
        | refine j_op0 rfl rfl rfl rfl ?_ | (refine j_kLen rfl ?_; first | refine j_len rfl rfl rfl rfl rfl rfl ?_) | refine j_box rfl rfl rfl rfl rfl rfl ?_)
      | refine j_nil ?_
      | (refine r_go ?_; first | refine run_seq ?_ | refine run_region ?_)
      | refine seqQ_normal ?_)
  refine j_make (m := s.parents.length) rfl rfl rfl rfl rfl rfl rfl rfl (by omega) rfl rfl (fun bo => ?_)
  repeat' (first
      | (refine j_go ?_; first
        | refine j_op0 rfl rfl rfl rfl ?_ | (refine j_kLen rfl ?_; first | refine j_len rfl rfl rfl rfl rfl rfl ?_) | (refine j_kCall rfl rfl rfl rfl ?_; first | refine jc (c_applicable _ _ hv ht) (LeL.refl _) rfl rfl ?_))
      | refine j_nil ?_
      | (refine r_go ?_; first | refine run_seq ?_ | refine run_region ?_ | refine run_block ?_)
      | refine seqQ_normal ?_)
  refine run_loop (fun x : Nat × List A × List Heap => [(2, .ip (encSystem s)), (3, .ip (encState t)), (6, .os (some bo) s.parents.length s.parents.length), (24, .sl ((idxL s t s.rules.length).map Go.AI.encI)), (25, .int (idxL s t s.rules.length).length), (26, .int (x.1 : Int))])
    (fun x => ⟨some bo, 24, s.parents.length * 1, (x.2.1.map fun a => [a]).flatten⟩ :: (x.2.2.flatten ++ F))
    (fun x => x.1 ≤ (idxL s t s.rules.length).length ∧ x.2.1.length = s.parents.length ∧ x.2.2.length = s.parents.length ∧ (∀ d (h1 : d < x.2.1.length) (h2 : d < x.2.2.length), RW (ownC s t d x.1) x.2.1[d] x.2.2[d]) ∧ ∀ i (h : i < (idxL s t s.rules.length).length), i < x.1 → tot (t.bags.getD (cellOf s (idxL s t s.rules.length)[i]).toNat []) ≤ 16)
    (fun x => (idxL s t s.rules.length).length - x.1) (0, List.replicate s.parents.length (.os none 0 0), List.replicate s.parents.length []) ⟨rfl, rfl, rfl, rfl, rfl, rfl, trivial⟩ (by simp only [List.map_replicate, List.flatten_replicate_nil]; rfl)
    ⟨Nat.zero_le _, by simp, by simp, fun d h1 h2 => by simp only [List.getElem_replicate]; exact .inl ⟨by simp [ownC], rfl, rfl⟩, fun _ _ q => absurd q (Nat.not_lt_zero _)⟩ (fun ⟨j, vs, hs⟩ ⟨jl, g2, g3, gr, g5⟩ => ?_)
  dsimp only at jl g2 g3 gr g5 ⊢
  by_cases hj : j < (idxL s t s.rules.length).length
  · obtain ⟨i, ei, _, hi, ha⟩ := idxL_mem.1 (List.getElem_mem hj)
    have x0 : 0 ≤ (idxL s t s.rules.length)[j] := by rw [ei]; omega
    have xk : (idxL s t s.rules.length)[j].toNat < s.rules.length := by rw [ei]; exact hi
    have xA : App s t (s.rules[(idxL s t s.rules.length)[j].toNat]'xk) := by simp only [ei, Int.toNat_natCast]; exact ha
    have xi : (idxL s t s.rules.length)[j] = (((idxL s t s.rules.length)[j].toNat : Nat) : Int) := by omega
    have xc := (hv.2.2 _ xk).1.1
    have ec : cellOf s (idxL s t s.rules.length)[j] = (s.rules[(idxL s t s.rules.length)[j].toNat]'xk).cell := by unfold cellOf; rw [getD_get xk]
    have hcb : (s.rules[(idxL s t s.rules.length)[j].toNat]'xk).cell.toNat < t.bags.length := by omega
    have bk := bag_bgk hv ht hcb
    have hsm : Small t.bags[(s.rules[(idxL s t s.rules.length)[j].toNat]'xk).cell.toNat] := Bag.small (Ptk.bagk bk)
    have ecn : cellOf s (idxL s t s.rules.length)[j] = (((s.rules[(idxL s t s.rules.length)[j].toNat]'xk).cell.toNat : Nat) : Int) := by rw [ec]; omega
    repeat' (first
      | (refine j_go ?_; first
        | refine j_op0 rfl rfl rfl rfl ?_ | (refine j_kIdx rfl ?_; first | refine j_idx rfl rfl rfl rfl rfl (by omega) rfl rfl rfl ?_ | refine j_idxz rfl rfl rfl rfl rfl ⟨by omega, by omega⟩ rfl rfl rfl ?_ | refine j_midxz rfl rfl rfl rfl rfl (by first | omega | (simp only [List.length_append, List.length_cons, List.length_nil]; omega)) rfl rfl ?_) | (refine j_kCall rfl rfl rfl rfl ?_; first | refine jc (c_bagSize _ hsm) (LeL.refl _) rfl rfl ?_))
      | refine j_nil ?_
      | (refine r_go ?_; first | refine run_seq ?_ | refine run_region ?_ | (refine (run_if rfl (fun hb => ?_) (fun hb => ?_)) <;> first | (exfalso; omega) | skip) | refine run_block ?_ | refine run_ret ?_ | refine run_skip ?_)
      | refine seqQ_normal ?_ | refine seqQ_ret ?_ | refine blockQ_ret ?_ | refine loopQ_ret ?_)
    · have hB : Big16 s t s.parents.length := ⟨(s.rules[(idxL s t s.rules.length)[j].toNat]'xk).cell.toNat, by omega, nd_ne.2 (List.ne_nil_of_mem (mem_cIx xk ⟨xA, by omega⟩ _ xk)), by rw [getD_get hcb]; omega⟩
      refine endD_view (view_sub (h0 := F) (List.Sublist.cons _ (List.sublist_append_right _ _))) ?_
      exact endD_ret (h1 := []) rfl (.cons (.tmp rfl) (.cons (.tmp rfl) .nil)) (Le.refl _) ⟨fun q => absurd (.inl hB) q, fun _ => ⟨rfl, rfl⟩⟩ (.inl rfl)
    have hcv : (s.rules[(idxL s t s.rules.length)[j].toNat]'xk).cell.toNat < vs.length := by omega
    have hch : (s.rules[(idxL s t s.rules.length)[j].toNat]'xk).cell.toNat < hs.length := by omega
    have ey := ownC_y (c := (s.rules[(idxL s t s.rules.length)[j].toNat]'xk).cell.toNat) hj ecn
    have en : ∀ d, d ≠ (s.rules[(idxL s t s.rules.length)[j].toNat]'xk).cell.toNat → ownC s t d (j + 1) = ownC s t d j := fun d hd => ownC_n hj (fun q => hd (by omega))
    have g5' : ∀ i (h : i < (idxL s t s.rules.length).length), i < j + 1 → tot (t.bags.getD (cellOf s (idxL s t s.rules.length)[i]).toNat []) ≤ 16 := fun i h1 h2 => by
      by_cases e : i = j
      · subst e; rw [ecn, Int.toNat_natCast, getD_get hcb]; omega
      · exact g5 i h1 (by omega)
    refine j_mloadE 0 (s.rules[(idxL s t s.rules.length)[j].toNat]'xk).cell.toNat (g := fun a => [a]) (L := vs) (z := 1) rfl rfl rfl rfl (fun _ => rfl) rfl hcv (fun _ => rfl) rfl rfl ?_
    have gc := gr (s.rules[(idxL s t s.rules.length)[j].toNat]'xk).cell.toNat hcv hch
    have olen : (ownC s t (s.rules[(idxL s t s.rules.length)[j].toNat]'xk).cell.toNat j).length ≤ j := by
      unfold ownC
      exact Nat.le_trans (List.length_filter_le _ _) (by rw [List.length_take]; omega)
    rcases gc with ⟨e1, e2, e3⟩ | ⟨ob, cap, e2, e3⟩
    · rw [e2]
      rw [e1, List.nil_append] at ey
      repeat' (first
      | (refine j_go ?_; first
        | refine j_op0 rfl rfl rfl rfl ?_ | (refine j_kBsl rfl ?_; first | refine j_bsl rfl rfl rfl rfl rfl rfl rfl rfl rfl rfl rfl ?_)))
      refine j_append0 (g := Go.AI.encI) [(idxL s t s.rules.length)[j]] rfl rfl rfl rfl rfl rfl rfl rfl (fun _ => rfl) (fun _ hy => by simp only [List.mem_singleton] at hy; subst hy; rfl) ⟨by simp only [List.length_cons, List.length_nil]; omega, by simp only [List.length_cons, List.length_nil]; omega⟩ rfl rfl (fun ob' cap' => ?_)
      repeat' (first
      | (refine j_go ?_; first
        | (refine j_kIdx rfl ?_; first | refine j_midxz rfl rfl rfl rfl rfl (by first | omega | (simp only [List.length_append, List.length_cons, List.length_nil]; omega)) rfl rfl ?_)))
      refine j_storeE 1 (s.rules[(idxL s t s.rules.length)[j].toNat]'xk).cell.toNat (g := fun a => [a]) (L := vs) (A.os ob' [(idxL s t s.rules.length)[j]].length cap') rfl rfl rfl rfl rfl rfl rfl rfl rfl (fun _ => rfl) rfl hcv ?_
      repeat' (first
      | (refine j_go ?_; first
        | refine j_op0 rfl rfl rfl rfl ?_ | (refine j_kBin rfl ?_; first | refine j_in rfl rfl ⟨by omega, by omega⟩ rfl rfl ?_))
      | refine j_nil ?_
      | (refine r_go ?_; first | refine run_region ?_)
      | refine seqQ_normal ?_ | refine blockQ_normal ?_)
      refine loopQ_view (view_perm (h' := (⟨some bo, 24, s.parents.length * 1, ((vs.set (s.rules[(idxL s t s.rules.length)[j].toNat]'xk).cell.toNat (A.os ob' [(idxL s t s.rules.length)[j]].length cap')).map fun a => [a]).flatten⟩ : Blk) :: ((hs.set (s.rules[(idxL s t s.rules.length)[j].toNat]'xk).cell.toNat [(⟨ob', 2, cap' * 1, ([(idxL s t s.rules.length)[j]].map Go.AI.encI).flatten⟩ : Blk)]).flatten ++ F)) (by
        change List.Perm ((⟨ob', 2, cap' * 1, ([(idxL s t s.rules.length)[j]].map Go.AI.encI).flatten⟩ : Blk) :: (⟨some bo, 24, s.parents.length * 1, ((vs.set (s.rules[(idxL s t s.rules.length)[j].toNat]'xk).cell.toNat (A.os ob' [(idxL s t s.rules.length)[j]].length cap')).map fun a => [a]).flatten⟩ : Blk) :: (hs.flatten ++ F)) _
        classical
        refine List.perm_iff_count.2 fun a => ?_
        have q := List.perm_iff_count.1 (flat_set hch [(⟨ob', 2, cap' * 1, ([(idxL s t s.rules.length)[j]].map Go.AI.encI).flatten⟩ : Blk)]) a
        rw [e3] at q
        simp only [List.count_append, List.count_cons, List.count_nil] at q ⊢
        omega)) ?_
      exact loopQ_next (j + 1, vs.set (s.rules[(idxL s t s.rules.length)[j].toNat]'xk).cell.toNat (A.os ob' [(idxL s t s.rules.length)[j]].length cap'), hs.set (s.rules[(idxL s t s.rules.length)[j].toNat]'xk).cell.toNat [(⟨ob', 2, cap' * 1, ([(idxL s t s.rules.length)[j]].map Go.AI.encI).flatten⟩ : Blk)]) ⟨by dsimp only; omega, by dsimp only; rw [List.length_set]; exact g2, by dsimp only; rw [List.length_set]; exact g3, rw_upd hcv gr en (by rw [ey]; exact .inr ⟨ob', cap', rfl, rfl⟩), g5'⟩ (by dsimp only; omega) rfl ⟨rfl, rfl, rfl, rfl, rfl, nx _, trivial⟩
    · rw [e2]
      refine j_view (view_perm (h' := (⟨ob, 2, cap * 1, ((ownC s t (s.rules[(idxL s t s.rules.length)[j].toNat]'xk).cell.toNat j).map Go.AI.encI).flatten⟩ : Blk) :: (⟨some bo, 24, s.parents.length * 1, (vs.map fun a => [a]).flatten⟩ : Blk) :: ((hs.set (s.rules[(idxL s t s.rules.length)[j].toNat]'xk).cell.toNat []).flatten ++ F)) (by
        change List.Perm ((⟨some bo, 24, s.parents.length * 1, (vs.map fun a => [a]).flatten⟩ : Blk) :: (hs.flatten ++ F)) _
        classical
        refine List.perm_iff_count.2 fun a => ?_
        have q := List.perm_iff_count.1 (flat_set hch []) a
        rw [e3] at q
        simp only [List.count_append, List.count_cons, List.count_nil] at q ⊢
        omega)) ?_
      repeat' (first
      | (refine j_go ?_; first
        | refine j_op0 rfl rfl rfl rfl ?_ | (refine j_kBsl rfl ?_; first | refine j_bsl rfl rfl rfl rfl rfl rfl rfl rfl rfl rfl rfl ?_)))
      refine j_append 0 (g := Go.AI.encI) (ys := ownC s t (s.rules[(idxL s t s.rules.length)[j].toNat]'xk).cell.toNat j) [(idxL s t s.rules.length)[j]] rfl rfl rfl rfl rfl rfl rfl rfl rfl rfl rfl rfl (fun _ => rfl) (fun _ hy => by simp only [List.mem_singleton] at hy; subst hy; rfl) ⟨by simp only [List.length_cons, List.length_nil]; omega, by simp only [List.length_cons, List.length_nil]; omega⟩ rfl rfl (fun ob' cap' => ?_)
      rw [← ey]
      repeat' (first
      | (refine j_go ?_; first
        | (refine j_kIdx rfl ?_; first | refine j_midxz rfl rfl rfl rfl rfl (by first | omega | (simp only [List.length_append, List.length_cons, List.length_nil]; omega)) rfl rfl ?_)))
      refine j_storeE 1 (s.rules[(idxL s t s.rules.length)[j].toNat]'xk).cell.toNat (g := fun a => [a]) (L := vs) (A.os ob' (ownC s t (s.rules[(idxL s t s.rules.length)[j].toNat]'xk).cell.toNat (j + 1)).length cap') rfl rfl rfl rfl rfl rfl rfl rfl rfl (fun _ => rfl) rfl hcv ?_
      repeat' (first
      | (refine j_go ?_; first
        | refine j_op0 rfl rfl rfl rfl ?_ | (refine j_kBin rfl ?_; first | refine j_in rfl rfl ⟨by omega, by omega⟩ rfl rfl ?_))
      | refine j_nil ?_
      | (refine r_go ?_; first | refine run_region ?_)
      | refine seqQ_normal ?_ | refine blockQ_normal ?_)
      refine loopQ_view (view_perm (h' := (⟨some bo, 24, s.parents.length * 1, ((vs.set (s.rules[(idxL s t s.rules.length)[j].toNat]'xk).cell.toNat (A.os ob' (ownC s t (s.rules[(idxL s t s.rules.length)[j].toNat]'xk).cell.toNat (j + 1)).length cap')).map fun a => [a]).flatten⟩ : Blk) :: ((hs.set (s.rules[(idxL s t s.rules.length)[j].toNat]'xk).cell.toNat [(⟨ob', 2, cap' * 1, ((ownC s t (s.rules[(idxL s t s.rules.length)[j].toNat]'xk).cell.toNat (j + 1)).map Go.AI.encI).flatten⟩ : Blk)]).flatten ++ F)) (by
        change List.Perm ((⟨ob', 2, cap' * 1, ((ownC s t (s.rules[(idxL s t s.rules.length)[j].toNat]'xk).cell.toNat (j + 1)).map Go.AI.encI).flatten⟩ : Blk) :: (⟨some bo, 24, s.parents.length * 1, ((vs.set (s.rules[(idxL s t s.rules.length)[j].toNat]'xk).cell.toNat (A.os ob' (ownC s t (s.rules[(idxL s t s.rules.length)[j].toNat]'xk).cell.toNat (j + 1)).length cap')).map fun a => [a]).flatten⟩ : Blk) :: ((hs.set (s.rules[(idxL s t s.rules.length)[j].toNat]'xk).cell.toNat []).flatten ++ F)) _
        classical
        refine List.perm_iff_count.2 fun a => ?_
        have q := List.perm_iff_count.1 (flat_set hch [(⟨ob', 2, cap' * 1, ((ownC s t (s.rules[(idxL s t s.rules.length)[j].toNat]'xk).cell.toNat (j + 1)).map Go.AI.encI).flatten⟩ : Blk)]) a
        have q2 := List.perm_iff_count.1 (flat_set hch []) a
        simp only [List.count_append, List.count_cons, List.count_nil] at q q2 ⊢
        omega)) ?_
      exact loopQ_next (j + 1, vs.set (s.rules[(idxL s t s.rules.length)[j].toNat]'xk).cell.toNat (A.os ob' (ownC s t (s.rules[(idxL s t s.rules.length)[j].toNat]'xk).cell.toNat (j + 1)).length cap'), hs.set (s.rules[(idxL s t s.rules.length)[j].toNat]'xk).cell.toNat [(⟨ob', 2, cap' * 1, ((ownC s t (s.rules[(idxL s t s.rules.length)[j].toNat]'xk).cell.toNat (j + 1)).map Go.AI.encI).flatten⟩ : Blk)]) ⟨by dsimp only; omega, by dsimp only; rw [List.length_set]; exact g2, by dsimp only; rw [List.length_set]; exact g3, rw_upd hcv gr en (.inr ⟨ob', cap', rfl, rfl⟩), g5'⟩ (by dsimp only; omega) rfl ⟨rfl, rfl, rfl, rfl, rfl, nx _, trivial⟩
  have hje : j = (idxL s t s.rules.length).length := by omega
  have hno : ¬ Big16 s t s.parents.length := fun ⟨c, h1, h2, h3⟩ => by
    obtain ⟨x, hx⟩ := List.exists_mem_of_ne_nil _ (nd_ne.1 h2)
    obtain ⟨i, hi, rfl, hA, hc⟩ := cIx_mem _ x hx
    obtain ⟨k, hk, ek⟩ := List.getElem_of_mem (idxL_mem.2 ⟨i, rfl, hi, hi, hA⟩ : (i : Int) ∈ idxL s t s.rules.length)
    have := g5 k hk (by omega)
    rw [ek] at this
    unfold cellOf at this
    rw [Int.toNat_natCast, getD_get hi, hc, Int.toNat_natCast] at this
    omega
  have ro : OwnLL RW 24 (owL s t) (.os (some bo) s.parents.length s.parents.length) ((⟨some bo, 24, s.parents.length * 1, (vs.map fun a => [a]).flatten⟩ : Blk) :: hs.flatten) :=
    .inl ⟨some bo, s.parents.length, vs, hs, by rw [owL_len]; exact g2, by rw [owL_len]; exact g3, fun c h0 h1 h2 => by rw [owL_get, ← ownC_all, ← hje]; exact gr c h1 h2, by rw [owL_len], rfl⟩
  repeat' (first
      | (refine j_go ?_; first
        | refine j_op0 rfl rfl rfl rfl ?_ | (refine j_kLen rfl ?_; first | refine j_op rfl rfl rfl rfl ?_) | (refine j_kBsl rfl ?_; first | refine j_bs0 rfl rfl rfl rfl rfl rfl ?_))
      | refine j_nil ?_
      | (refine r_go ?_; first | refine run_seq ?_ | refine run_region ?_ | (refine (run_if rfl (fun hb => ?_) (fun hb => ?_)) <;> first | (exfalso; omega) | skip) | refine run_block ?_ | refine run_exit ?_)
      | refine seqQ_normal ?_ | refine seqQ_exit ?_ | refine blockQ_eq ?_ | refine loopQ_exit ?_)
  refine run_view (view_frzF (h1 := (⟨some bo, 24, s.parents.length * 1, (vs.map fun a => [a]).flatten⟩ : Blk) :: hs.flatten) (F := F) 55 (OwnLL.frzF (enc := fun x => x.map Go.AI.encI) (fun _ _ _ q => q.frzF) ro (fun _ => rfl)) rfl (List.Perm.refl _)) ?_
  refine run_view (view_none 87 0 rfl) ?_
  have ol := owL_len s t
  refine run_loop (fun x : Nat × (Option Nat × Nat) × List (A × A) => [(2, .ip (encSystem s)), (3, .ip (encState t)), (55, .sl ((owL s t).map (encS Go.AI.encI))), (56, .int s.parents.length), (10, .os x.2.1.1 x.2.2.length x.2.1.2), (57, .int (x.1 : Int))])
    (fun x => ⟨x.2.1.1, 87, x.2.1.2 * 2, (x.2.2.map fun x => [x.1, x.2]).flatten⟩ :: F) (fun x => x.1 ≤ s.parents.length ∧ x.2.2.length ≤ x.1 ∧ OutOk x.2.2 (lensK s t x.1) ∧ ¬ Big2 s t x.1) (fun x => s.parents.length - x.1) (0, (none, 0), []) ⟨rfl, rfl, rfl, rfl, rfl, rfl, trivial⟩ rfl
    ⟨Nat.zero_le _, Nat.zero_le _, ⟨⟨rfl, fun i h => absurd h (Nat.not_lt_zero _)⟩, fun _ h => nomatch h⟩, fun ⟨c, h, _⟩ => absurd h (Nat.not_lt_zero _)⟩ (fun ⟨c, ⟨oo, co⟩, outs⟩ ⟨cl, olen, lo, cp⟩ => ?_)
  dsimp only at cl olen lo cp ⊢
  by_cases hc : c < s.parents.length
  · have hco : c < (owL s t).length := by omega
    have hcb : c < t.bags.length := by omega
    have bk := bag_bgk hv ht hcb
    have bg : t.bags.getD c [] = t.bags[c] := getD_get hcb
    have eO := owL_get hco
    have cil := cIx_len s t (c : Int) s.rules.length
    have lO : (owL s t)[c].length = (cIx s t (c : Int) s.rules.length).length := by rw [eO]
    by_cases hne : ndC s t c = []
    · have z : (cIx s t (c : Int) s.rules.length).length = 0 := by
        have : (ndC s t c).length = 0 := by rw [hne]; rfl
        unfold ndC at this; omega
      have e : lensK s t (c + 1) = lensK s t c := by rw [lensK, if_pos hne]
      repeat' (first
      | (refine j_go ?_; first
        | refine j_op0 rfl rfl rfl rfl ?_ | (refine j_kIdx rfl ?_; first | refine j_idx rfl rfl rfl rfl rfl (by omega) rfl rfl rfl ?_) | (refine j_kBin rfl ?_; first | refine j_in rfl rfl ⟨by omega, by omega⟩ rfl rfl ?_) | (refine j_kLen rfl ?_; first | refine j_len rfl rfl rfl rfl rfl rfl ?_))
      | refine j_nil ?_
      | (refine r_go ?_; first | refine run_seq ?_ | refine run_region ?_ | (refine (run_if rfl (fun hb => ?_) (fun hb => ?_)) <;> first | (exfalso; omega) | skip) | refine run_block ?_ | refine run_exit ?_ | refine run_skip ?_)
      | refine seqQ_normal ?_ | refine seqQ_exit ?_ | refine blockQ_eq ?_)
      all_goals first
        | exact loopQ_next (c + 1, (oo, co), outs) ⟨by dsimp only; omega, by dsimp only; omega, by dsimp only; rw [e]; exact lo, fun ⟨d, h1, h2, h3⟩ => by
            by_cases e : d = c
            · subst e; exact h2 hne
            · exact cp ⟨d, by omega, h2, h3⟩⟩ (by dsimp only; omega) rfl ⟨rfl, rfl, rfl, rfl, rfl, nx _, trivial⟩
        | (exfalso; omega)
        | trace_state
    · have z : 0 < (cIx s t (c : Int) s.rules.length).length := by
        have : 0 < (ndC s t c).length := List.length_pos_iff.2 hne
        unfold ndC at this; omega
      have e : lensK s t (c + 1) = lensK s t c ++ [cN s t c] := by rw [lensK, if_neg hne]
      have t16 : tot t.bags[c] ≤ 16 := by
        by_cases q : tot t.bags[c] ≤ 16
        · exact q
        · exact absurd ⟨c, hc, hne, by rw [bg]; omega⟩ hno
      have eN : cN s t c = packN (cNd s t (c : Int) s.rules.length) (cNd s t (c : Int) s.rules.length) t.bags[c] := by unfold cN ndC; rw [bg]
      repeat' (first
      | (refine j_go ?_; first
        | refine j_op0 rfl rfl rfl rfl ?_ | (refine j_kIdx rfl ?_; first | refine j_idx rfl rfl rfl rfl rfl (by omega) rfl rfl rfl ?_) | (refine j_kLen rfl ?_; first | refine j_len rfl rfl rfl rfl rfl rfl ?_) | (refine j_kBsl rfl ?_; first | refine j_bs0 rfl rfl rfl rfl rfl rfl ?_))
      | refine j_nil ?_
      | (refine r_go ?_; first | refine run_seq ?_ | refine run_region ?_ | (refine (run_if rfl (fun hb => ?_) (fun hb => ?_)) <;> first | (exfalso; omega) | skip) | refine run_block ?_ | refine run_skip ?_)
      | refine seqQ_normal ?_)
      all_goals first | (exfalso; omega) | skip
      refine run_view (view_none 24 0 rfl) ?_
      refine run_loop (fun x : Nat × (Option Nat × Nat) => [(2, .ip (encSystem s)), (3, .ip (encState t)), (10, .os oo outs.length co), (11, .int (c : Int)), (12, .sl ((owL s t)[c].map Go.AI.encI)), (55, .sl ((owL s t).map (encS Go.AI.encI))), (56, .int s.parents.length), (57, .int (c : Int)), (66, .sl ((owL s t)[c].map Go.AI.encI)), (67, .int (owL s t)[c].length), (13, .os x.2.1 (((owL s t)[c].take x.1).map (fun y => (s.rules.getD y.toNat default).need)).length x.2.2), (68, .int (x.1 : Int))])
        (fun x => ⟨x.2.1, 24, x.2.2 * 1, ((((owL s t)[c].take x.1).map (fun y => (s.rules.getD y.toNat default).need)).map (encS Go.AI.encI)).flatten⟩ :: ⟨oo, 87, co * 2, (outs.map fun x => [x.1, x.2]).flatten⟩ :: F) (fun x => x.1 ≤ (owL s t)[c].length) (fun x => (owL s t)[c].length - x.1) (0, none, 0) ⟨rfl, rfl, rfl, rfl, rfl, rfl, rfl, rfl, rfl, rfl, rfl, rfl, trivial⟩ rfl (Nat.zero_le _) (fun ⟨k, on, cn⟩ kl => ?_)
      dsimp only at kl ⊢
      have tl : (((owL s t)[c].take k).map (fun y => (s.rules.getD y.toNat default).need)).length = k := by rw [List.length_map, List.length_take]; omega
      by_cases hk : k < (owL s t)[c].length
      · have xm : (owL s t)[c][k] ∈ cIx s t (c : Int) s.rules.length := get_mem_eq eO hk
        obtain ⟨i, hi, ei, hA, hcc⟩ := cIx_mem _ _ xm
        have x0 : 0 ≤ (owL s t)[c][k] := by rw [ei]; omega
        have xk : (owL s t)[c][k].toNat < s.rules.length := by rw [ei]; exact hi
        repeat' (first
      | (refine j_go ?_; first
        | refine j_op0 rfl rfl rfl rfl ?_ | (refine j_kIdx rfl ?_; first | refine j_idx rfl rfl rfl rfl rfl (by omega) rfl rfl rfl ?_ | refine j_idxz rfl rfl rfl rfl rfl ⟨by omega, by omega⟩ rfl rfl rfl ?_) | (refine j_kBsl rfl ?_; first | refine j_bsl rfl rfl rfl rfl rfl rfl rfl rfl rfl rfl rfl ?_))
      | refine j_nil ?_
      | (refine r_go ?_; first | refine run_seq ?_ | refine run_region ?_ | (refine (run_if rfl (fun hb => ?_) (fun hb => ?_)) <;> first | (exfalso; omega) | skip) | refine run_block ?_ | refine run_skip ?_)
      | refine seqQ_normal ?_)
        refine j_append 0 (g := encS Go.AI.encI) (ys := ((owL s t)[c].take k).map (fun y => (s.rules.getD y.toNat default).need)) [(s.rules[(owL s t)[c][k].toNat]'xk).need] rfl rfl rfl rfl rfl rfl rfl rfl rfl rfl rfl rfl (fun _ => rfl) (fun _ hy => by simp only [List.mem_singleton] at hy; subst hy; rfl) ⟨by rw [tl]; simp only [List.length_cons, List.length_nil]; omega, by rw [tl]; simp only [List.length_cons, List.length_nil]; omega⟩ rfl rfl (fun on' cn' => ?_)
        rw [show ((owL s t)[c].take k).map (fun y => (s.rules.getD y.toNat default).need) ++ [(s.rules[(owL s t)[c][k].toNat]'xk).need] = ((owL s t)[c].take (k + 1)).map (fun y => (s.rules.getD y.toNat default).need) from by
          rw [List.take_succ_eq_append_getElem hk, List.map_append, List.map_cons, List.map_nil, getD_get xk]]
        repeat' (first
      | (refine j_go ?_; first
        | refine j_op0 rfl rfl rfl rfl ?_ | (refine j_kBin rfl ?_; first | refine j_in rfl rfl ⟨by omega, by omega⟩ rfl rfl ?_))
      | refine j_nil ?_
      | (refine r_go ?_; first | refine run_region ?_)
      | refine seqQ_normal ?_ | refine blockQ_normal ?_)
        exact loopQ_next (k + 1, on', cn') (by dsimp only; omega) (by dsimp only; omega) rfl ⟨rfl, rfl, rfl, rfl, rfl, rfl, rfl, rfl, rfl, rfl, rfl, nx _, trivial⟩
      · have hke : k = (owL s t)[c].length := by omega
        subst hke
        have eK : ((owL s t)[c].take (owL s t)[c].length).map (fun y => (s.rules.getD y.toNat default).need) = cNd s t (c : Int) s.rules.length := by rw [List.take_length, eO, cNd_map]
        rw [eK]
        have n8 := cNd_8 hv t (c : Int) _ (Nat.le_refl _)
        repeat' (first
      | (refine j_go ?_; first
        | refine j_op0 rfl rfl rfl rfl ?_ | (refine j_kIdx rfl ?_; first | refine j_idx rfl rfl rfl rfl rfl (by omega) rfl rfl rfl ?_))
      | refine j_nil ?_
      | (refine r_go ?_; first | refine run_seq ?_ | refine run_region ?_ | (refine (run_if rfl (fun hb => ?_) (fun hb => ?_)) <;> first | (exfalso; omega) | skip) | refine run_exit ?_)
      | refine seqQ_normal ?_ | refine seqQ_exit ?_ | refine blockQ_eq ?_ | refine loopQ_exit ?_)
        refine j_view (view_freeze (g := encS Go.AI.encI) (z := 1) (ys := cNd s t (c : Int) s.rules.length) 0 88 rfl rfl rfl (fun _ => rfl) rfl rfl) ?_
        refine j_kCall rfl rfl rfl rfl ?_
        refine jcp _ (o_maxPack s.kinds.toNat t.bags[c] (cNd s t (c : Int) s.rules.length) bk (cNd_ok hv _ _ (Nat.le_refl _)) n8 (by omega) t16) (List.Perm.refl _) (LeL.refl _) rfl rfl (fun v h1 hR => ?_)
        obtain ⟨rfl, r1, r2⟩ := hR
        rw [← eN] at r1 r2
        by_cases hN : cN s t c ≤ 2000
        · obtain ⟨ob, ccl, rfl⟩ := r1 hN
          repeat' (first
      | (refine j_go ?_; first
        | refine j_op0 rfl rfl rfl rfl ?_ | (refine j_kBsl rfl ?_; first | refine j_bsl rfl rfl rfl rfl rfl rfl rfl rfl rfl rfl rfl ?_) | refine j_build rfl rfl rfl rfl rfl rfl rfl ?_)
      | refine j_nil ?_
      | (refine r_go ?_; first | refine run_seq ?_ | refine run_region ?_ | (refine (run_ifn rfl (fun hb => ?_) (fun hb => ?_)) <;> first | (exfalso; omega) | skip) | refine run_skip ?_)
      | refine seqQ_normal ?_)
          all_goals first | (exfalso; omega) | exact absurd rfl (by assumption) | skip
          refine j_append 0 (g := fun x : A × A => [x.1, x.2]) (ys := outs) [(A.sl ((owL s t)[c].map Go.AI.encI), A.os ob (cN s t c) ccl)] rfl rfl rfl rfl rfl rfl rfl rfl rfl rfl rfl rfl (fun _ => rfl) (fun _ hy => by simp only [List.mem_singleton] at hy; subst hy; rfl) ⟨by simp only [List.length_cons, List.length_nil]; omega, by simp only [List.length_cons, List.length_nil]; omega⟩ rfl rfl (fun oo2 co2 => ?_)
          repeat' (first
      | (refine j_go ?_; first
        | refine j_op0 rfl rfl rfl rfl ?_ | (refine j_kBin rfl ?_; first | refine j_in rfl rfl ⟨by omega, by omega⟩ rfl rfl ?_))
      | refine j_nil ?_
      | (refine r_go ?_; first | refine run_region ?_)
      | refine seqQ_normal ?_ | refine blockQ_normal ?_)
          exact loopQ_next (c + 1, (oo2, co2), outs ++ [(A.sl ((owL s t)[c].map Go.AI.encI), A.os ob (cN s t c) ccl)]) ⟨by dsimp only; omega, by dsimp only; simp only [List.length_append, List.length_cons, List.length_nil]; omega, by dsimp only; rw [e]; exact lo.snoc _ rfl _ _ _, fun ⟨d, h1, h2, h3⟩ => by
              by_cases e : d = c
              · subst e; omega
              · exact cp ⟨d, by omega, h2, h3⟩⟩ (by dsimp only; omega) rfl ⟨rfl, rfl, rfl, rfl, rfl, nx _, trivial⟩
        · obtain ⟨x, rfl⟩ := r2 (by omega)
          have hB : Big2 s t s.parents.length := ⟨c, hc, hne, by omega⟩
          repeat' (first
      | (refine j_go ?_; first
        | refine j_op0 rfl rfl rfl rfl ?_)
      | refine j_nil ?_
      | (refine r_go ?_; first | refine run_seq ?_ | refine run_region ?_ | (refine (run_ifn rfl (fun hb => ?_) (fun hb => ?_)) <;> first | (exfalso; omega) | skip) | refine run_ret ?_)
      | refine seqQ_normal ?_ | refine seqQ_ret ?_ | refine blockQ_ret ?_ | refine loopQ_ret ?_)
          all_goals first | (exfalso; omega) | exact absurd rfl (by assumption) | skip
          refine endD_view (view_sub (h0 := F) (List.Sublist.cons _ (List.Sublist.refl _))) ?_
          exact endD_ret (h1 := []) rfl (.cons (.tmp rfl) (.cons (.tmp rfl) .nil)) (Le.refl _) ⟨fun q => absurd (.inr hB) q, fun _ => ⟨rfl, rfl⟩⟩ (.inl rfl)
  · have hce : c = s.parents.length := by omega
    subst hce
    repeat' (first
      | (refine j_go ?_; first
        | refine j_op0 rfl rfl rfl rfl ?_)
      | refine j_nil ?_
      | (refine r_go ?_; first | refine run_seq ?_ | refine run_region ?_ | (refine (run_if rfl (fun hb => ?_) (fun hb => ?_)) <;> first | (exfalso; omega) | skip) | refine run_ret ?_ | refine run_exit ?_)
      | refine seqQ_normal ?_ | refine seqQ_exit ?_ | refine blockQ_eq ?_ | refine loopQ_exit ?_)
    exact endD_ret (h1 := [_]) rfl (.cons (.tmp rfl) (.cons (.tmp rfl) .nil)) (Le.refl _) ⟨fun _ => ⟨oo, co, outs, lo, rfl, rfl⟩, fun q => absurd q (fun q => q.elim hno cp)⟩ (.inl rfl)

theorem c_sizeOs (b : Option Nat) (n cap : Nat) : Gives Tryz.prog 61 [.os b n cap] (.int (n : Int)) := by
  refine fn_of_run tyOk ztOk mix Tryz.func61 rfl (by decide) Tryz.ntmps61 (fun w0 h => ?_)
  repeat' (first
      | (refine j_go ?_; first
        | refine j_op0 rfl rfl rfl rfl ?_ | (refine j_kLen rfl ?_; first | refine j_op rfl rfl rfl rfl ?_))
      | refine j_nil ?_
      | (refine r_go ?_; first | refine run_seq ?_ | refine run_region ?_ | refine run_ret ?_)
      | refine seqQ_normal ?_)
  exact end1 rfl (List.Sublist.refl _) (rfl) (.inl rfl)
theorem o_countChoices (s : System) (t : State) (hv : s.Ok) (ht : s.StateOk t) : Does Tryz.prog 30 [.agg (encSystem s), .agg (encState t)] []
    (fun v h' => h' = [] ∧ (¬ (Big16 s t s.parents.length ∨ Big2 s t s.parents.length) → v = .tup [.int (prodK (lensK s t s.parents.length) (lensK s t s.parents.length).length), .int 0]) ∧ ((Big16 s t s.parents.length ∨ Big2 s t s.parents.length) → ∃ x, v = .tup [x, .int 3])) := by
  refine fn_of_runD tyOk ztOk mix Tryz.func30 rfl (by decide) Tryz.ntmps30 (fun w0 F => ?_)
  change Run _ _ _ _ _ F
  have lk := lensK_len s t s.parents.length
  have h6 := hv.1.2.1
  repeat' (first
      | (refine j_go ?_; first
        | refine j_op0 rfl rfl rfl rfl ?_ | refine j_box rfl rfl rfl rfl rfl rfl ?_)
      | refine j_nil ?_
      | (refine r_go ?_; first | refine run_seq ?_ | refine run_region ?_)
      | refine seqQ_normal ?_)
  refine j_kCall rfl rfl rfl rfl ?_
  refine jcp _ (o_byCells s t hv ht) (List.Perm.refl _) (LeL.refl _) rfl rfl (fun v h1 hR => ?_)
  by_cases hB : Big16 s t s.parents.length ∨ Big2 s t s.parents.length
  · obtain ⟨rfl, rfl⟩ := hR.2 hB
    repeat' (first
      | (refine j_go ?_; first
        | refine j_op0 rfl rfl rfl rfl ?_ | (refine j_kLen rfl ?_; first | refine j_op rfl rfl rfl rfl ?_))
      | refine j_nil ?_
      | (refine r_go ?_; first | refine run_seq ?_ | refine run_region ?_ | refine run_block ?_)
      | refine seqQ_normal ?_)
    refine run_loop (fun x : Unit => [(7, .int 3), (17, .os none 0 0), (18, .int 0), (8, .int 1), (19, .int 0)]) (fun _ => F) (fun _ => True) (fun _ => 0) () ⟨rfl, rfl, rfl, rfl, rfl, trivial⟩ rfl trivial (fun _ _ => ?_)
    repeat' (first
      | (refine j_go ?_; first
        | refine j_op0 rfl rfl rfl rfl ?_)
      | refine j_nil ?_
      | (refine r_go ?_; first | refine run_seq ?_ | refine run_region ?_ | (refine (run_if rfl (fun hb => ?_) (fun hb => ?_)) <;> first | (exfalso; omega) | skip) | refine run_ret ?_ | refine run_exit ?_)
      | refine seqQ_normal ?_ | refine seqQ_exit ?_ | refine blockQ_eq ?_ | refine loopQ_exit ?_)
    all_goals first
      | exact endD_ret (h1 := []) rfl (.cons (.tmp rfl) (.cons (.tmp rfl) .nil)) (Le.refl _) ⟨rfl, fun q => absurd hB q, fun _ => ⟨_, rfl⟩⟩ (.inl rfl)
      | (exfalso; omega)
      | trace_state
  · obtain ⟨b, cap, outs, lo, rfl, rfl⟩ := hR.1 hB
    have hl := lo.1.1
    rw [List.length_map] at hl
    repeat' (first
      | (refine j_go ?_; first
        | refine j_op0 rfl rfl rfl rfl ?_ | (refine j_kLen rfl ?_; first | refine j_op rfl rfl rfl rfl ?_))
      | refine j_nil ?_
      | (refine r_go ?_; first | refine run_seq ?_ | refine run_region ?_ | refine run_block ?_)
      | refine seqQ_normal ?_)
    refine run_loop (fun k : Nat => [(7, .int 0), (17, .os b outs.length cap), (18, .int outs.length), (8, .int (prodK (lensK s t s.parents.length) k)), (19, .int (k : Int))]) (fun _ => ⟨b, 87, cap * 2, (outs.map fun x => [x.1, x.2]).flatten⟩ :: F) (fun k => k ≤ outs.length) (fun k => outs.length - k) 0 ⟨rfl, rfl, rfl, rfl, rfl, trivial⟩ rfl (Nat.zero_le _) (fun k kl => ?_)
    by_cases hk : k < outs.length
    · have hne : (outs.map fun x => [x.1, x.2]).flatten ≠ [] := fun q => by
        have h3 : ((outs.map fun x => [x.1, x.2]).flatten).length = 0 := by rw [q]; rfl
        rw [flat_len (f := fun x : A × A => [x.1, x.2]) (z := 2) (fun _ => rfl)] at h3
        omega
      refine run_some 0 rfl hne (fun b2 hb2 => ?_)
      subst hb2
      obtain ⟨ob, cc, e⟩ := lo.1.2 k (by rw [List.length_map]; exact hk) (by omega)
      rw [List.getElem_map] at e
      repeat' (first
      | (refine j_go ?_; first
        | refine j_op0 rfl rfl rfl rfl ?_ | (refine j_kIdx rfl ?_; first | refine j_midx rfl rfl rfl rfl rfl (by first | omega | (simp only [List.length_append, List.length_cons, List.length_nil]; omega)) rfl rfl ?_))
      | refine j_nil ?_
      | (refine r_go ?_; first | refine run_seq ?_ | refine run_region ?_ | (refine (run_if rfl (fun hb => ?_) (fun hb => ?_)) <;> first | (exfalso; omega) | skip) | refine run_block ?_ | refine run_skip ?_)
      | refine seqQ_normal ?_)
      refine j_mloadE 0 k (g := fun x : A × A => [x.1, x.2]) (L := outs) (z := 2) (v := .agg [outs[k].1, outs[k].2]) rfl rfl rfl rfl (fun _ => rfl) rfl hk (fun _ => loadS rfl rfl) rfl rfl ?_
      rw [e]
      have okf := lo.2 _ (List.getElem_mem hk)
      repeat' (first
      | (refine j_go ?_; first
        | refine j_alloc rfl rfl rfl rfl rfl (fun _ => ?_)))
      refine j_storeN 0 rfl rfl rfl rfl rfl rfl rfl rfl (show [outs[k].1, A.os ob (lensK s t s.parents.length)[k] cc].all okCell = true by simp only [List.all_cons, List.all_nil, okf]; rfl) rfl rfl ?_
      repeat' (first
      | (refine j_go ?_; first
        | refine j_op0 rfl rfl rfl rfl ?_ | (refine j_kCall rfl rfl rfl rfl ?_; first | refine jc (c_sizeOs _ _ _) (LeL.refl _) rfl rfl ?_) | (refine j_kLoad rfl ?_; first | refine j_mload 0 rfl rfl rfl rfl rfl rfl rfl ?_))
      | refine j_nil ?_
      | (refine r_go ?_; first | refine run_region ?_)
      | refine seqQ_normal ?_)
      refine j_op rfl rfl rfl rfl ?_
      repeat' (first
      | (refine j_go ?_; first
        | refine j_op0 rfl rfl rfl rfl ?_ | (refine j_kBin rfl ?_; first | refine j_in rfl rfl ⟨by omega, by omega⟩ rfl rfl ?_))
      | refine j_nil ?_
      | (refine r_go ?_; first | refine run_region ?_)
      | refine seqQ_normal ?_ | refine blockQ_normal ?_)
      exact loopQ_nextD (k + 1) (by omega) (by omega) (List.sublist_cons_self _ _) ⟨rfl, rfl, rfl, si (by rw [prodK, getD_get (by omega)]), nx _, trivial⟩
    · have hke : k = (lensK s t s.parents.length).length := by omega
      repeat' (first
      | (refine j_go ?_; first
        | refine j_op0 rfl rfl rfl rfl ?_)
      | refine j_nil ?_
      | (refine r_go ?_; first | refine run_seq ?_ | refine run_region ?_ | (refine (run_if rfl (fun hb => ?_) (fun hb => ?_)) <;> first | (exfalso; omega) | skip) | refine run_ret ?_ | refine run_exit ?_)
      | refine seqQ_normal ?_ | refine seqQ_exit ?_ | refine blockQ_eq ?_ | refine loopQ_exit ?_)
      refine endD_view (view_erase 0) ?_
      exact endD_ret (h1 := []) rfl (.cons (.tmp rfl) (.cons (.tmp rfl) .nil)) (Le.refl _) ⟨rfl, fun _ => by rw [hke]; rfl, fun q => absurd q hB⟩ (.inl rfl)
theorem c_iCountChoices (s : System) (t : State) : Gives Tryz.prog 12 [.agg (encSystem s), .agg (encState t)] (.tup [.int (cchR s t), .int (cchC s t)]) := by
  refine fn_of_run tyOk ztOk mix Tryz.func12 rfl (by decide) Tryz.ntmps12 (fun w0 h => ?_)
  repeat' (first
      | (refine j_go ?_; first
        | refine j_op0 rfl rfl rfl rfl ?_ | (refine j_kCall rfl rfl rfl rfl ?_; first | refine jc (c_iValidState _ _) (LeL.refl _) rfl rfl ?_) | refine j_box rfl rfl rfl rfl rfl rfl ?_)
      | refine j_nil ?_
      | (refine r_go ?_; first | refine run_seq ?_ | refine run_region ?_ | (refine (run_ifn rfl (fun hb => ?_) (fun hb => ?_)) <;> first | (exfalso; omega) | skip) | refine run_ret ?_ | refine run_skip ?_)
      | refine seqQ_normal ?_ | refine seqQ_ret ?_)
  · exact end_le (List.Sublist.refl _) (vs := [_, _]) (.cons (.tmp rfl) (.cons (.tmp rfl) .nil)) (by rw [(cnt_f hb).1, (cnt_f hb).2]; exact Le.refl _) (.inl rfl)
  have h1 := hb
  refine j_kCall rfl rfl rfl rfl ?_
  refine jcp _ (o_countChoices s t h1.1 h1.2) (List.Perm.refl _) (LeL.refl _) rfl rfl (fun v h2 hR => ?_)
  obtain ⟨rfl, r1, r2⟩ := hR
  by_cases hB : Big16 s t s.parents.length ∨ Big2 s t s.parents.length
  · obtain ⟨x, rfl⟩ := r2 hB
    repeat' (first
      | (refine j_go ?_; first
        | refine j_op0 rfl rfl rfl rfl ?_)
      | refine j_nil ?_
      | (refine r_go ?_; first | refine run_seq ?_ | refine run_region ?_ | (refine (run_ifn rfl (fun hb => ?_) (fun hb => ?_)) <;> first | (exfalso; omega) | skip) | refine run_ret ?_)
      | refine seqQ_normal ?_ | refine seqQ_ret ?_)
    all_goals first
      | exact end_le (List.Sublist.refl _) (vs := [_, _]) (.cons (.tmp rfl) (.cons (.tmp rfl) .nil)) (by rw [(cnt_b h1 hB).1, (cnt_b h1 hB).2]; exact Le.refl _) (.inl rfl)
      | (exfalso; omega)
      | trace_state
  · rw [r1 hB]
    repeat' (first
      | (refine j_go ?_; first
        | refine j_op0 rfl rfl rfl rfl ?_)
      | refine j_nil ?_
      | (refine r_go ?_; first | refine run_seq ?_ | refine run_region ?_ | (refine (run_ifn rfl (fun hb => ?_) (fun hb => ?_)) <;> first | (exfalso; omega) | skip) | refine run_ret ?_ | refine run_skip ?_)
      | refine seqQ_normal ?_)
    all_goals first
      | exact end_le (List.Sublist.refl _) (vs := [_, _]) (.cons (.tmp rfl) (.cons (.tmp rfl) .nil)) (by rw [(cnt_t h1 hB).1, (cnt_t h1 hB).2]; exact Le.refl _) (.inl rfl)
      | (exfalso; omega)
      | exact absurd rfl (by assumption)
      | trace_state
end Go.Proofs.YtkfmjjoalkoncaaGreat
