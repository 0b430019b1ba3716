/-
  A system of dividing cells that is drawn: it is right, and small. No condition.
-/
import Derived.Test.YtbhiaccbpbnbmaaGreatZS0
import Derived.Test.YtbhiaccbpbnbmaaGreatZMS
import Derived.Test.YtbhiaccbpbnbmaaGreatZS7o
import Derived.Test.YtbhiaccbpbnbmaaGreatZS7x
import Derived.Test.YtbhiaccbpbnbmaaGreatZE5
namespace Go.Proofs.YtbhiaccbpbnbmaaGreat
open Go.AI
set_option maxRecDepth 8000
set_option maxHeartbeats 3200000

theorem o_among (s : Nat) (code : List UInt8) (at_ : Nat) (sd : Int) (xs : List Int) (lo hi : Int) (ha : at_ ≤ 1000000) (h0 : 0 < xs.length) (hm : xs.length ≤ 100) (hx : ∀ x ∈ xs, lo ≤ x ∧ x ≤ hi) : Does Tryz.prog 20 [.op (some s) 0, .sl (xs.map Go.AI.encI)] [srcB s code at_ sd] (DrawR s code (at_ + 2) (fun r => lo ≤ r ∧ r ≤ hi)) := by
  refine fn_of_runD tyOk ztOk mix Tryz.func20 rfl (by decide) Tryz.ntmps20 (fun w0 F => ?_)
  change Run _ _ _ _ _ (_ :: F)
  repeat' (first
      | (refine j_go ?_; first
        | refine j_op0 rfl rfl rfl rfl ?_ | (refine j_kLen rfl ?_; first | refine j_len rfl rfl rfl rfl rfl rfl ?_))
      | refine j_nil ?_
      | (refine r_go ?_; first | refine run_seq ?_ | refine run_region ?_)
      | refine seqQ_normal ?_)
  refine j_kCall rfl rfl rfl rfl ?_
  refine jcp F (o_pick s code at_ sd xs.length ha (by omega)) (List.Perm.refl _) (LeL.refl _) rfl rfl (fun v h1 hR => ?_)
  obtain ⟨r, a1, sd1, rfl, hr, ha1, rfl⟩ := hR
  have hr2 : r.toNat < xs.length := by omega
  have hg := hx _ (List.getElem_mem hr2)
  repeat' (first
      | (refine j_go ?_; first
        | refine j_op0 rfl rfl rfl rfl ?_ | (refine j_kIdx rfl ?_; first | refine j_idxz rfl rfl rfl rfl rfl ⟨by omega, by omega⟩ rfl rfl rfl ?_))
      | refine j_nil ?_
      | (refine r_go ?_; first | refine run_ret ?_)
      | refine seqQ_normal ?_)
  exact endD_ret (h1 := [_]) rfl (.cons (.tmp rfl) .nil) (Le.refl _) ⟨_, a1, sd1, rfl, hg, ha1, rfl⟩ (.inl rfl)
theorem heap_sort {o : Int} {l : List Int} {m : Int} (h : ∀ x ∈ l, 0 ≤ x ∧ x ≤ o - 1) (hl : (l.length : Int) ≤ m) {k : List Int} (p : k.Perm l) (s : k.Pairwise (fun a b => a ≤ b)) : HeapOf o k m :=
  ⟨fun i hi => ⟨h _ (p.mem_iff.1 (List.getElem_mem hi)), fun h0 => List.pairwise_iff_getElem.1 s (i - 1) i (by omega) hi (by omega)⟩, by rw [p.length_eq]; exact hl⟩
theorem HeapOf.mono {o m m' : Int} {l : List Int} (h : HeapOf o l m) (hm : m ≤ m') : HeapOf o l m' := ⟨h.1, by have := h.2; omega⟩
theorem HeapOf.nil {o m : Int} (hm : 0 ≤ m) : HeapOf o [] m := ⟨fun i hi => absurd hi (Nat.not_lt_zero _), hm⟩
/-- Objects that were drawn, in order. -/
def SomR (s : Nat) (code : List UInt8) (lim : Nat) (o most : Int) : A → Heap → Prop := fun v h' => ∃ l at2 sd, v = .sl (l.map Go.AI.encI) ∧ HeapOf o l most ∧ at2 ≤ lim ∧ h' = [srcB s code at2 sd]
theorem o_l07Some (s : Nat) (code : List UInt8) (at_ : Nat) (sd o most : Int) (ha : at_ ≤ 100000) (ho : 1 ≤ o ∧ o ≤ 64) (hm : 0 ≤ most ∧ most ≤ 4) : Does Tryz.prog 18 [.op (some s) 0, .int o, .int most] [srcB s code at_ sd] (SomR s code (at_ + 10) o most) := by
  refine fn_of_runD tyOk ztOk mix Tryz.func18 rfl (by decide) Tryz.ntmps18 (fun w0 F => ?_)
  change Run _ _ _ _ _ (_ :: F)
  repeat' (first
      | (refine j_go ?_; first
        | refine j_op0 rfl rfl rfl rfl ?_ | (refine j_kBin rfl ?_; first | refine j_in rfl rfl ⟨by omega, by omega⟩ rfl rfl ?_) | (refine j_kBsl rfl ?_; first | refine j_bs0 rfl rfl rfl rfl rfl rfl ?_))
      | refine j_nil ?_
      | (refine r_go ?_; first | refine run_seq ?_ | refine run_region ?_)
      | refine seqQ_normal ?_)
  refine j_kCall rfl rfl rfl rfl ?_
  refine jcp F (o_pick s code at_ sd (most + 1) (by omega) (by omega)) (List.Perm.refl _) (LeL.refl _) rfl rfl (fun v h1 hR => ?_)
  obtain ⟨r, a1, sd1, rfl, hr, ha1, rfl⟩ := hR
  repeat' (first
      | (refine j_go ?_; first
        | refine j_op0 rfl rfl rfl rfl ?_)
      | refine j_nil ?_
      | (refine r_go ?_; first | refine run_block ?_)
      | refine seqQ_normal ?_)
  refine run_view (view_none 2 (0 * 1) rfl) ?_
  refine run_loop (fun x : Int × List Int × Option Nat × Nat × Nat × Int => [(0, .op (some s) 0), (1, .int o), (7, .os x.2.2.1 x.2.1.length x.2.2.2.1), (8, .int x.1)]) (fun x => ⟨x.2.2.1, 2, x.2.2.2.1 * 1, (x.2.1.map Go.AI.encI).flatten⟩ :: srcB s code x.2.2.2.2.1 x.2.2.2.2.2 :: F)
    (fun x => (0 ≤ x.1 ∧ x.1 ≤ most) ∧ (x.2.1.length : Int) + x.1 ≤ most ∧ (∀ y ∈ x.2.1, 0 ≤ y ∧ y ≤ o - 1) ∧ (x.2.2.2.2.1 : Int) ≤ at_ + 2 + 2 * (most - x.1)) (fun x => x.1.toNat) (r, [], none, 0, a1, sd1) ⟨rfl, rfl, rfl, rfl, trivial⟩ rfl ⟨by dsimp only; omega, by dsimp only [List.length_nil]; omega, by simp, by dsimp only; omega⟩ (fun ⟨i, l, b, cap, a, sd⟩ ⟨hi, hl, hy, hA⟩ => ?_)
  dsimp only at hi hl hy hA ⊢
  by_cases h0 : 0 < i
  case pos =>
    repeat' (first
      | (refine j_go ?_; first
        | refine j_op0 rfl rfl rfl rfl ?_)
      | refine j_nil ?_
      | (refine r_go ?_; first | refine run_seq ?_ | refine run_region ?_ | (refine (run_if rfl (fun hb => ?_) (fun hb => ?_)) <;> first | (exfalso; omega) | skip) | refine run_block ?_ | refine run_skip ?_)
      | refine seqQ_normal ?_)
    refine j_kCall rfl rfl rfl rfl ?_
    refine jcp (_ :: F) (o_pick s code a sd o (by omega) (by omega)) (List.Perm.swap _ _ _) (LeL.refl _) rfl rfl (fun v h1 hR => ?_)
    obtain ⟨r2, a2, sd2, rfl, hr2, ha2, rfl⟩ := hR
    repeat' (first
      | (refine j_go ?_; first
        | (refine j_kBsl rfl ?_; first | refine j_bsl rfl rfl rfl rfl rfl rfl rfl rfl rfl rfl rfl ?_)))
    refine j_append 1 (g := Go.AI.encI) (ys := l) [r2] rfl rfl rfl rfl rfl rfl rfl rfl rfl rfl rfl rfl (fun _ => rfl) (fun _ _ => rfl) ⟨by simp only [List.length_cons, List.length_nil]; omega, by simp only [List.length_cons, List.length_nil]; omega⟩ rfl rfl (fun b' cap' => ?_)
    repeat' (first
      | (refine j_go ?_; first
        | refine j_op0 rfl rfl rfl rfl ?_ | (refine j_kBin rfl ?_; first | refine j_in rfl rfl ⟨by omega, by omega⟩ rfl rfl ?_))
      | refine j_nil ?_
      | (refine r_go ?_; first | refine run_region ?_)
      | refine seqQ_normal ?_ | refine blockQ_normal ?_)
    have ln : (l ++ [r2]).length = l.length + 1 := by rw [List.length_append]; rfl
    refine loopQ_view (view_perm (List.Perm.swap _ _ _)) ?_
    exact loopQ_next (i - 1, l ++ [r2], b', cap', a2, sd2) ⟨by dsimp only; omega, by dsimp only; omega, fun y h => by
      rcases List.mem_append.1 h with h | h
      · exact hy y h
      · rw [List.mem_singleton] at h; subst h; omega, by dsimp only; omega⟩ (by dsimp only; omega) rfl ⟨rfl, rfl, rfl, rfl, trivial⟩
  obtain rfl : i = 0 := by omega
  refine run_view (view_freeze (g := Go.AI.encI) (z := 1) (ys := l) 0 7 rfl rfl rfl (fun _ => rfl) rfl rfl) ?_
  have cS := c_l07Sorted o l ho (by omega) hy
  rw [srt_sort ho.1 hy] at cS
  repeat' (first
      | (refine j_go ?_; first
        | refine j_op0 rfl rfl rfl rfl ?_ | (refine j_kCall rfl rfl rfl rfl ?_; first | refine jc (cS) (LeL.refl _) rfl rfl ?_))
      | refine j_nil ?_
      | (refine r_go ?_; first | refine run_seq ?_ | refine run_region ?_ | (refine (run_if rfl (fun hb => ?_) (fun hb => ?_)) <;> first | (exfalso; omega) | skip) | refine run_ret ?_ | refine run_exit ?_)
      | refine seqQ_normal ?_ | refine seqQ_exit ?_ | refine blockQ_eq ?_ | refine loopQ_exit ?_)
  exact endD_ret (h1 := [_]) rfl (.cons (.tmp rfl) .nil) (Le.refl _) ⟨sortI l, a, sd, rfl, heap_sort hy (by omega) (sortI_perm l) (sortI_sorted l), by omega, rfl⟩ (.inl rfl)
/-- A rule that was drawn. -/
def RulR (s : Nat) (code : List UInt8) (lim : Nat) (o : Int) : A → Heap → Prop := fun v h' => ∃ (r : DivRule) (at2 : Nat) (sd : Int), v = .agg (encDivRule r) ∧ (r.Ok o ∧ r.first.length ≤ 2 ∧ r.second.length ≤ 2) ∧ at2 ≤ lim ∧ h' = [srcB s code at2 sd]
theorem o_l07DrawRule (s : Nat) (code : List UInt8) (at_ : Nat) (sd o : Int) (ha : at_ ≤ 10000) (ho : 1 ≤ o ∧ o ≤ 64) : Does Tryz.prog 41 [.op (some s) 0, .int o] [srcB s code at_ sd] (RulR s code (at_ + 100) o) := by
  refine fn_of_runD tyOk ztOk mix Tryz.func41 rfl (by decide) Tryz.ntmps41 (fun w0 F => ?_)
  change Run _ _ _ _ _ (_ :: F)
  repeat' (first
      | (refine j_go ?_; first
        | refine j_op0 rfl rfl rfl rfl ?_ | refine j_alloc rfl rfl rfl rfl rfl (fun _ => ?_))
      | refine j_nil ?_
      | (refine r_go ?_; first | refine run_seq ?_ | refine run_region ?_)
      | refine seqQ_normal ?_)
  refine j_kCall rfl rfl rfl rfl ?_
  refine jcp (_ :: F) (o_pick s code at_ sd 7 (by omega) (by omega)) (List.Perm.swap _ _ _) (LeL.refl _) rfl rfl (fun v h1 hR => ?_)
  obtain ⟨r, a1, sd1, rfl, hr, ha1, rfl⟩ := hR
  repeat' (first
      | (refine j_go ?_; first
        | refine j_op0 rfl rfl rfl rfl ?_ | (refine j_kBin rfl ?_; first | refine j_in rfl rfl ⟨by omega, by omega⟩ rfl rfl ?_)))
  refine j_kCall rfl rfl rfl rfl ?_
  refine jcp (_ :: F) (o_pick s code a1 sd1 o (by omega) (by omega)) (List.Perm.refl _) (LeL.refl _) rfl rfl (fun v h1 hR => ?_)
  obtain ⟨r2, a2, sd2, rfl, hr2, ha2, rfl⟩ := hR
  repeat' (first
      | (refine j_go ?_; first
        | refine j_op0 rfl rfl rfl rfl ?_ | (refine j_kStore rfl ?_; first | refine j_storeN 0 rfl rfl rfl rfl rfl rfl rfl rfl rfl rfl rfl ?_) | refine j_build rfl rfl rfl rfl rfl rfl rfl ?_ | refine j_alloc rfl rfl rfl rfl rfl (fun _ => ?_))
      | refine j_nil ?_
      | (refine r_go ?_; first | refine run_seq ?_ | refine run_region ?_)
      | refine seqQ_normal ?_)
  refine j_kCall rfl rfl rfl rfl ?_
  refine jcp (_ :: _ :: F) (o_one s code a2 sd2 3 (by omega) (by omega)) (List.Perm.swap _ _ _) (LeL.refl _) rfl rfl (fun v h1 hR => ?_)
  obtain ⟨b, a3, sd3, rfl, ha3, rfl⟩ := hR
  have fin : True := trivial
  cases b with
  | true =>
    repeat' (first
      | (refine j_go ?_; first
        | refine j_op0 rfl rfl rfl rfl ?_ | (refine j_kStore rfl ?_; first | refine j_store 1 rfl rfl rfl rfl rfl rfl rfl rfl rfl rfl rfl ?_))
      | refine j_nil ?_
      | (refine r_go ?_; first | refine run_seq ?_ | refine run_region ?_ | refine run_cond_t rfl ?_)
      | refine seqQ_normal ?_)
    refine j_kCall rfl rfl rfl rfl ?_
    refine jcp (_ :: _ :: F) (o_l07Some s code a3 sd3 o 2 (by omega) ho (by omega)) (List.Perm.refl _) (LeL.refl _) rfl rfl (fun v h1 hR => ?_)
    obtain ⟨l1, a4, sd4, rfl, hl1, ha4, rfl⟩ := hR
    repeat' (first
      | (refine j_go ?_; first
        | refine j_op0 rfl rfl rfl rfl ?_ | (refine j_kLoad rfl ?_; first | refine j_mload 1 rfl rfl rfl rfl rfl rfl rfl ?_) | (refine j_kStore rfl ?_; first | refine j_store 1 rfl rfl rfl rfl rfl rfl rfl rfl rfl rfl rfl ?_) | (refine j_kBsl rfl ?_; first | refine j_bsl rfl rfl rfl rfl rfl rfl rfl rfl rfl rfl rfl ?_))
      | refine j_nil ?_
      | (refine r_go ?_; first | refine run_seq ?_ | refine run_region ?_ | (refine (run_ifn rfl (fun hb => ?_) (fun hb => ?_)) <;> first | (exfalso; omega) | skip))
      | refine seqQ_normal ?_)
    refine j_kCall rfl rfl rfl rfl ?_
    refine jcp (_ :: _ :: F) (o_among s code a4 sd4 [0, 0, 0, 1, -1] (-1) 1 (by omega) (by decide) (by decide) (by decide)) (List.Perm.refl _) (LeL.refl _) rfl rfl (fun v h1 hR => ?_)
    obtain ⟨c1, a5, sd5, rfl, hc1, ha5, rfl⟩ := hR
    repeat' (first
      | (refine j_go ?_; first
        | refine j_op0 rfl rfl rfl rfl ?_ | (refine j_kCall rfl rfl rfl rfl ?_; first | refine jc (c_l00In _ _ _) (LeL.refl _) rfl rfl ?_) | (refine j_kLoad rfl ?_; first | refine j_mload 1 rfl rfl rfl rfl rfl rfl rfl ?_) | (refine j_kStore rfl ?_; first | refine j_store 1 rfl rfl rfl rfl rfl rfl rfl rfl rfl rfl rfl ?_ | refine j_storeN 2 rfl rfl rfl rfl rfl rfl rfl rfl rfl rfl rfl ?_))
      | refine j_nil ?_
      | (refine r_go ?_; first | refine run_seq ?_ | refine run_region ?_ | (refine (run_if rfl (fun hb => ?_) (fun hb => ?_)) <;> first | (exfalso; omega) | skip) | refine run_ret ?_ | refine run_skip ?_)
      | refine seqQ_normal ?_)
    have l2 := hl1.2
    refine endD_view (view_freezeP 2 4 rfl rfl) (endD_view (view_sub (List.Sublist.cons_cons _ (List.sublist_cons_self _ _))) ?_)
    exact endD_ret (h1 := [_]) rfl (.cons (.cellI rfl rfl) .nil) (Le.agg (by repeat' first | exact LeL.nil | refine LeL.cons ?_ ?_ | exact Le.refl _ | exact Le.nil _)) ⟨⟨1, c1, r2, 0, l1, 0, []⟩, a5, sd5, rfl, ⟨⟨by dsimp only; omega, by dsimp only; omega, hc1, by dsimp only; omega, by dsimp only; omega, hl1.mono (by omega), HeapOf.nil (by omega), fun q => by dsimp only at q; omega, fun _ => rfl, .inr ⟨rfl, rfl⟩⟩, by dsimp only; omega, by dsimp only [List.length_nil]; omega⟩, by omega, rfl⟩ (.inl rfl)
  | false =>
    repeat' (first
      | (refine j_go ?_; first
        | refine j_op0 rfl rfl rfl rfl ?_)
      | refine j_nil ?_
      | (refine r_go ?_; first | refine run_seq ?_ | refine run_region ?_ | refine run_cond_f rfl ?_ | refine run_skip ?_)
      | refine seqQ_normal ?_)
    refine j_kCall rfl rfl rfl rfl ?_
    refine jcp (_ :: _ :: F) (o_l07Some s code a3 sd3 o 2 (by omega) ho (by omega)) (List.Perm.refl _) (LeL.refl _) rfl rfl (fun v h1 hR => ?_)
    obtain ⟨l1, a4, sd4, rfl, hl1, ha4, rfl⟩ := hR
    have l2 := hl1.2
    by_cases k2 : 1 + r = 2
    · repeat' (first
      | (refine j_go ?_; first
        | refine j_op0 rfl rfl rfl rfl ?_ | (refine j_kCall rfl rfl rfl rfl ?_; first | refine jc (c_l00In _ _ _) (LeL.refl _) rfl rfl ?_) | (refine j_kLoad rfl ?_; first | refine j_mload 1 rfl rfl rfl rfl rfl rfl rfl ?_) | (refine j_kStore rfl ?_; first | refine j_store 1 rfl rfl rfl rfl rfl rfl rfl rfl rfl rfl rfl ?_ | refine j_storeN 2 rfl rfl rfl rfl rfl rfl rfl rfl rfl rfl rfl ?_))
      | refine j_nil ?_
      | (refine r_go ?_; first | refine run_seq ?_ | refine run_region ?_ | (refine (run_if rfl (fun hb => ?_) (fun hb => ?_)) <;> first | (exfalso; omega) | skip) | (refine (run_ifn rfl (fun hb => ?_) (fun hb => ?_)) <;> first | (exfalso; omega) | skip) | refine run_ret ?_ | refine run_skip ?_)
      | refine seqQ_normal ?_)
      refine endD_view (view_freezeP 2 4 rfl rfl) (endD_view (view_sub (List.Sublist.cons_cons _ (List.sublist_cons_self _ _))) ?_)
      exact endD_ret (h1 := [_]) rfl (.cons (.cellI rfl rfl) .nil) (Le.agg (by repeat' first | exact LeL.nil | refine LeL.cons ?_ ?_ | exact Le.refl _ | exact Le.nil _)) ⟨⟨1 + r, 0, r2, 0, l1, 0, []⟩, a4, sd4, rfl, ⟨⟨by dsimp only; omega, by dsimp only; omega, by dsimp only; omega, by dsimp only; omega, by dsimp only; omega, hl1.mono (by omega), HeapOf.nil (by omega), fun _ => rfl, fun _ => rfl, .inr ⟨rfl, rfl⟩⟩, by dsimp only; omega, by dsimp only [List.length_nil]; omega⟩, by omega, rfl⟩ (.inl rfl)
    repeat' (first
      | (refine j_go ?_; first
        | refine j_op0 rfl rfl rfl rfl ?_ | (refine j_kLoad rfl ?_; first | refine j_mload 1 rfl rfl rfl rfl rfl rfl rfl ?_) | (refine j_kStore rfl ?_; first | refine j_store 1 rfl rfl rfl rfl rfl rfl rfl rfl rfl rfl rfl ?_) | (refine j_kBsl rfl ?_; first | refine j_bsl rfl rfl rfl rfl rfl rfl rfl rfl rfl rfl rfl ?_))
      | refine j_nil ?_
      | (refine r_go ?_; first | refine run_seq ?_ | refine run_region ?_ | (refine (run_ifn rfl (fun hb => ?_) (fun hb => ?_)) <;> first | (exfalso; omega) | skip))
      | refine seqQ_normal ?_)
    refine j_kCall rfl rfl rfl rfl ?_
    refine jcp (_ :: _ :: F) (o_among s code a4 sd4 [0, 0, 0, 1, -1] (-1) 1 (by omega) (by decide) (by decide) (by decide)) (List.Perm.refl _) (LeL.refl _) rfl rfl (fun v h1 hR => ?_)
    obtain ⟨c1, a5, sd5, rfl, hc1, ha5, rfl⟩ := hR
    by_cases k36 : 3 ≤ 1 + r ∧ 1 + r ≤ 6
    case neg =>
      repeat' (first
      | (refine j_go ?_; first
        | refine j_op0 rfl rfl rfl rfl ?_ | (refine j_kCall rfl rfl rfl rfl ?_; first | refine jc (c_l00In _ _ _) (LeL.refl _) rfl rfl ?_) | (refine j_kLoad rfl ?_; first | refine j_mload 1 rfl rfl rfl rfl rfl rfl rfl ?_) | (refine j_kStore rfl ?_; first | refine j_store 1 rfl rfl rfl rfl rfl rfl rfl rfl rfl rfl rfl ?_ | refine j_storeN 2 rfl rfl rfl rfl rfl rfl rfl rfl rfl rfl rfl ?_))
      | refine j_nil ?_
      | (refine r_go ?_; first | refine run_seq ?_ | refine run_region ?_ | (refine (run_if rfl (fun hb => ?_) (fun hb => ?_)) <;> first | (exfalso; omega) | skip) | refine run_ret ?_ | refine run_skip ?_)
      | refine seqQ_normal ?_)
      refine endD_view (view_freezeP 2 4 rfl rfl) (endD_view (view_sub (List.Sublist.cons_cons _ (List.sublist_cons_self _ _))) ?_)
      exact endD_ret (h1 := [_]) rfl (.cons (.cellI rfl rfl) .nil) (Le.agg (by repeat' first | exact LeL.nil | refine LeL.cons ?_ ?_ | exact Le.refl _ | exact Le.nil _)) ⟨⟨1 + r, c1, r2, 0, l1, 0, []⟩, a5, sd5, rfl, ⟨⟨by dsimp only; omega, by dsimp only; omega, hc1, by dsimp only; omega, by dsimp only; omega, hl1.mono (by omega), HeapOf.nil (by omega), fun q => absurd q k2, fun _ => rfl, .inr ⟨rfl, rfl⟩⟩, by dsimp only; omega, by dsimp only [List.length_nil]; omega⟩, by omega, rfl⟩ (.inl rfl)
    repeat' (first
      | (refine j_go ?_; first
        | refine j_op0 rfl rfl rfl rfl ?_ | (refine j_kCall rfl rfl rfl rfl ?_; first | refine jc (c_l00In _ _ _) (LeL.refl _) rfl rfl ?_) | (refine j_kLoad rfl ?_; first | refine j_mload 1 rfl rfl rfl rfl rfl rfl rfl ?_) | (refine j_kStore rfl ?_; first | refine j_store 1 rfl rfl rfl rfl rfl rfl rfl rfl rfl rfl rfl ?_) | (refine j_kBsl rfl ?_; first | refine j_bsl rfl rfl rfl rfl rfl rfl rfl rfl rfl rfl rfl ?_))
      | refine j_nil ?_
      | (refine r_go ?_; first | refine run_seq ?_ | refine run_region ?_ | (refine (run_if rfl (fun hb => ?_) (fun hb => ?_)) <;> first | (exfalso; omega) | skip))
      | refine seqQ_normal ?_)
    refine j_kCall rfl rfl rfl rfl ?_
    refine jcp (_ :: _ :: F) (o_among s code a5 sd5 [0, 0, 1, -1] (-1) 1 (by omega) (by decide) (by decide) (by decide)) (List.Perm.refl _) (LeL.refl _) rfl rfl (fun v h1 hR => ?_)
    obtain ⟨c2, a6, sd6, rfl, hc2, ha6, rfl⟩ := hR
    by_cases k6 : 1 + r = 6
    case neg =>
      repeat' (first
      | (refine j_go ?_; first
        | refine j_op0 rfl rfl rfl rfl ?_ | (refine j_kLoad rfl ?_; first | refine j_mload 1 rfl rfl rfl rfl rfl rfl rfl ?_) | (refine j_kStore rfl ?_; first | refine j_store 1 rfl rfl rfl rfl rfl rfl rfl rfl rfl rfl rfl ?_ | refine j_storeN 2 rfl rfl rfl rfl rfl rfl rfl rfl rfl rfl rfl ?_))
      | refine j_nil ?_
      | (refine r_go ?_; first | refine run_seq ?_ | refine run_region ?_ | (refine (run_if rfl (fun hb => ?_) (fun hb => ?_)) <;> first | (exfalso; omega) | skip) | refine run_ret ?_ | refine run_skip ?_)
      | refine seqQ_normal ?_)
      refine endD_view (view_freezeP 2 4 rfl rfl) (endD_view (view_sub (List.Sublist.cons_cons _ (List.sublist_cons_self _ _))) ?_)
      exact endD_ret (h1 := [_]) rfl (.cons (.cellI rfl rfl) .nil) (Le.agg (by repeat' first | exact LeL.nil | refine LeL.cons ?_ ?_ | exact Le.refl _ | exact Le.nil _)) ⟨⟨1 + r, c1, r2, c2, l1, 0, []⟩, a6, sd6, rfl, ⟨⟨by dsimp only; omega, by dsimp only; omega, hc1, hc2, by dsimp only; omega, hl1.mono (by omega), HeapOf.nil (by omega), fun q => absurd q k2, fun q => by dsimp only at q; omega, .inr ⟨rfl, rfl⟩⟩, by dsimp only; omega, by dsimp only [List.length_nil]; omega⟩, by omega, rfl⟩ (.inl rfl)
    repeat' (first
      | (refine j_go ?_; first
        | refine j_op0 rfl rfl rfl rfl ?_ | (refine j_kLoad rfl ?_; first | refine j_mload 1 rfl rfl rfl rfl rfl rfl rfl ?_) | (refine j_kStore rfl ?_; first | refine j_store 1 rfl rfl rfl rfl rfl rfl rfl rfl rfl rfl rfl ?_) | (refine j_kBsl rfl ?_; first | refine j_bsl rfl rfl rfl rfl rfl rfl rfl rfl rfl rfl rfl ?_))
      | refine j_nil ?_
      | (refine r_go ?_; first | refine run_seq ?_ | refine run_region ?_ | (refine (run_if rfl (fun hb => ?_) (fun hb => ?_)) <;> first | (exfalso; omega) | skip))
      | refine seqQ_normal ?_)
    refine j_kCall rfl rfl rfl rfl ?_
    refine jcp (_ :: _ :: F) (o_among s code a6 sd6 [0, 0, 1, -1] (-1) 1 (by omega) (by decide) (by decide) (by decide)) (List.Perm.refl _) (LeL.refl _) rfl rfl (fun v h1 hR => ?_)
    obtain ⟨c3, a7, sd7, rfl, hc3, ha7, rfl⟩ := hR
    repeat' (first
      | (refine j_go ?_; first
        | refine j_op0 rfl rfl rfl rfl ?_ | (refine j_kStore rfl ?_; first | refine j_store 1 rfl rfl rfl rfl rfl rfl rfl rfl rfl rfl rfl ?_))
      | refine j_nil ?_
      | (refine r_go ?_; first | refine run_region ?_)
      | refine seqQ_normal ?_)
    refine j_kCall rfl rfl rfl rfl ?_
    refine jcp (_ :: _ :: F) (o_l07Some s code a7 sd7 o 2 (by omega) ho (by omega)) (List.Perm.refl _) (LeL.refl _) rfl rfl (fun v h1 hR => ?_)
    obtain ⟨l3, a8, sd8, rfl, hl3, ha8, rfl⟩ := hR
    have l4 := hl3.2
    repeat' (first
      | (refine j_go ?_; first
        | refine j_op0 rfl rfl rfl rfl ?_ | (refine j_kLoad rfl ?_; first | refine j_mload 1 rfl rfl rfl rfl rfl rfl rfl ?_) | (refine j_kStore rfl ?_; first | refine j_store 1 rfl rfl rfl rfl rfl rfl rfl rfl rfl rfl rfl ?_ | refine j_storeN 2 rfl rfl rfl rfl rfl rfl rfl rfl rfl rfl rfl ?_))
      | refine j_nil ?_
      | (refine r_go ?_; first | refine run_seq ?_ | refine run_region ?_ | refine run_ret ?_)
      | refine seqQ_normal ?_)
    refine endD_view (view_freezeP 2 4 rfl rfl) (endD_view (view_sub (List.Sublist.cons_cons _ (List.sublist_cons_self _ _))) ?_)
    exact endD_ret (h1 := [_]) rfl (.cons (.cellI rfl rfl) .nil) (Le.agg (by repeat' first | exact LeL.nil | refine LeL.cons ?_ ?_ | exact Le.refl _ | exact Le.nil _)) ⟨⟨1 + r, c1, r2, c2, l1, c3, l3⟩, a8, sd8, rfl, ⟨⟨by dsimp only; omega, by dsimp only; omega, hc1, hc2, hc3, hl1.mono (by omega), hl3.mono (by omega), fun q => absurd q k2, fun q => by dsimp only at q; omega, .inl k6⟩, by dsimp only; omega, by dsimp only; omega⟩, by omega, rfl⟩ (.inl rfl)
end Go.Proofs.YtbhiaccbpbnbmaaGreat
