/-
  Bags read from texts: both sides. No condition but that the text is not longer than a machine holds.
-/
import Derived.Test.YtmcljepicadjfaaGreatDoorZRe
import Derived.Test.YtmcljepicadjfaaGreatDoorZRg
import Derived.Test.YtmcljepicadjfaaGreatDoorZH6
import Derived.Test.YtmcljepicadjfaaGreatDoorZPSA
import Derived.Test.YtmcljepicadjfaaGreatDoorZJN
import Derived.Test.YtmcljepicadjfaaGreatDoorZE3
namespace Go.Proofs.YtmcljepicadjfaaGreatDoor
open Go.AI Go.RowKit
set_option maxRecDepth 8000
set_option maxHeartbeats 1600000
theorem c_l01Split (s : List UInt8) (c : UInt8) (hs : s.length ≤ 1048576) : Gives Tryz.prog 123 [.str s, .u8 c] (.sl ((spl c s).map encW)) := by
  refine fn_of_run tyOk ztOk mix Tryz.func123 rfl (by decide) Tryz.ntmps123 (fun w0 h => ?_)
  repeat' (first
      | (refine j_go ?_; first
        | refine j_op0 rfl rfl rfl rfl ?_ | (refine j_kBsl rfl ?_; first | refine j_bs0 rfl rfl rfl rfl rfl rfl ?_))
      | refine j_nil ?_
      | (refine r_go ?_; first | refine run_seq ?_ | refine run_region ?_ | refine run_block ?_)
      | refine seqQ_normal ?_)
  refine run_view (view_none 9 0 rfl) ?_
  refine run_loop (fun x : (Nat × Nat × List (List UInt8)) × Option Nat × Nat => [(0, .str s), (1, .u8 c), (5, .os x.2.1 x.1.2.2.length x.2.2), (6, .int (x.1.2.1 : Int)), (7, .int (x.1.1 : Int))]) (fun x => ⟨x.2.1, 9, x.2.2 * 1, (x.1.2.2.map encW).flatten⟩ :: h) (fun x => SplAt c s x.1.1 x.1.2.1 x.1.2.2) (fun x => s.length - x.1.1) ((0, 0, []), none, 0) ⟨rfl, rfl, rfl, rfl, rfl, trivial⟩ rfl (SplAt.nil c s) (fun ⟨⟨k, fr, ws⟩, ob, cp⟩ sp => ?_)
  dsimp only at sp ⊢
  have kl := sp.il
  have fl := sp.le
  have wl := sp.len
  by_cases hk : k < s.length
  · repeat' (first
      | (refine j_go ?_; first
        | refine j_op0 rfl rfl rfl rfl ?_ | (refine j_kBin rfl ?_; first | refine j_in rfl rfl ⟨by omega, by omega⟩ rfl rfl ?_) | (refine j_kLen rfl ?_; first | refine j_op rfl rfl rfl rfl ?_) | (refine j_kBsl rfl ?_; first | refine j_bsl rfl rfl rfl rfl rfl rfl rfl rfl rfl rfl rfl ?_) | (refine j_kSlice rfl ?_; first | refine j_ss rfl rfl rfl rfl rfl rfl (by omega) rfl rfl ?_) | refine j_si rfl rfl rfl rfl rfl (by omega) rfl rfl ?_)
      | refine j_nil ?_
      | (refine r_go ?_; first | refine run_seq ?_ | refine run_region ?_ | (refine (run_if rfl (fun hb => ?_) (fun hb => ?_)) <;> first | (exfalso; omega) | skip) | refine run_block ?_ | refine run_skip ?_)
      | refine seqQ_normal ?_ | refine blockQ_normal ?_)
    · have hc : s[k] = c := by assumption
      refine j_append 0 (g := encW) [(s.take k).drop fr] rfl rfl rfl rfl rfl rfl rfl rfl rfl rfl rfl rfl (fun _ => rfl) (fun _ _ => rfl) ⟨by simp only [List.length_cons, List.length_nil]; omega, by simp only [List.length_cons, List.length_nil]; omega⟩ rfl rfl (fun b' cap' => ?_)
      repeat' (first
      | (refine j_go ?_; first
        | refine j_op0 rfl rfl rfl rfl ?_ | (refine j_kBin rfl ?_; first | refine j_in rfl rfl ⟨by omega, by omega⟩ rfl rfl ?_))
      | refine j_nil ?_
      | (refine r_go ?_; first | refine run_region ?_)
      | refine seqQ_normal ?_ | refine blockQ_normal ?_)
      exact loopQ_next ((k + 1, k + 1, ws ++ [(s.take k).drop fr]), b', cap') (sp.hit hk hc) (by dsimp only; omega) rfl ⟨rfl, rfl, rfl, nx _, nx _, trivial⟩
    · have hc : ¬ s[k] = c := by assumption
      exact loopQ_next ((k + 1, fr, ws), ob, cp) (sp.miss hk hc) (by dsimp only; omega) rfl ⟨rfl, rfl, rfl, rfl, nx _, trivial⟩
  · have hke : k = s.length := by omega
    subst hke
    have hall := sp.all
    repeat' (first
      | (refine j_go ?_; first
        | refine j_op0 rfl rfl rfl rfl ?_ | (refine j_kLen rfl ?_; first | refine j_op rfl rfl rfl rfl ?_) | (refine j_kBsl rfl ?_; first | refine j_bsl rfl rfl rfl rfl rfl rfl rfl rfl rfl rfl rfl ?_) | (refine j_kSlice rfl ?_; first | refine j_ss rfl rfl rfl rfl rfl rfl (by omega) rfl rfl ?_))
      | refine j_nil ?_
      | (refine r_go ?_; first | refine run_seq ?_ | refine run_region ?_ | (refine (run_if rfl (fun hb => ?_) (fun hb => ?_)) <;> first | (exfalso; omega) | skip) | refine run_exit ?_)
      | refine seqQ_normal ?_ | refine seqQ_exit ?_ | refine blockQ_eq ?_ | refine loopQ_exit ?_)
    have e0 : (s.take (s.length : Int).toNat).drop (fr : Int).toNat = s.drop fr := by rw [Int.toNat_natCast, Int.toNat_natCast, List.take_length]
    rw [e0]
    refine j_append 0 (g := encW) [s.drop fr] rfl rfl rfl rfl rfl rfl rfl rfl rfl rfl rfl rfl (fun _ => rfl) (fun _ _ => rfl) ⟨by simp only [List.length_cons, List.length_nil]; omega, by simp only [List.length_cons, List.length_nil]; omega⟩ rfl rfl (fun b' cap' => ?_)
    rw [← hall]
    repeat' (first
      | (refine j_go ?_; first
        | refine j_op0 rfl rfl rfl rfl ?_)
      | refine j_nil ?_
      | (refine r_go ?_; first | refine run_ret ?_)
      | refine seqQ_normal ?_)
    refine end_view (view_freeze (g := encW) (z := 1) (ys := spl c s) 0 4 rfl rfl rfl (fun _ => rfl) rfl rfl) ?_
    exact end1 rfl (List.Sublist.refl _) rfl (.inl rfl)


theorem hd_at {s : List UInt8} (h : 0 < s.length) : s.headD 0 = s[0] := by
  cases s with
  | nil => simp at h
  | cons x r => rfl
theorem numL_bad {s : List UInt8} (h : (s.length < 1 ∨ 9 < s.length) ∨ (s.headD 0 = 48 ∧ 1 < s.length)) : numL s = (0, false) := by unfold numL; rw [if_pos h]
theorem numL_no {s : List UInt8} (h : ¬ ((s.length < 1 ∨ 9 < s.length) ∨ (s.headD 0 = 48 ∧ 1 < s.length))) (h1 : numA 0 s = -1) : numL s = (0, false) := by unfold numL; rw [if_neg h, if_pos h1]
theorem numL_yes {s : List UInt8} (h : ¬ ((s.length < 1 ∨ 9 < s.length) ∨ (s.headD 0 = 48 ∧ 1 < s.length))) (h1 : ¬ numA 0 s = -1) : numL s = (numA 0 s, true) := by unfold numL; rw [if_neg h, if_neg h1]
theorem c_l01Number (s : List UInt8) (hs : s.length ≤ 1048576) : Gives Tryz.prog 124 [.str s] (.tup [.int (numL s).1, .raw (.bool (numL s).2)]) := by
  refine fn_of_run tyOk ztOk mix Tryz.func124 rfl (by decide) Tryz.ntmps124 (fun w0 h => ?_)
  repeat' (first
      | (refine j_go ?_; first
        | refine j_op0 rfl rfl rfl rfl ?_ | refine j_off rfl rfl rfl ?_ | (refine j_kLen rfl ?_; first | refine j_op rfl rfl rfl rfl ?_) | (refine j_kGuard rfl ?_; first | (refine (j_if rfl rfl rfl (fun hb => ?_) (fun hb => ?_)) <;> first | (exfalso; omega) | skip)) | refine j_siz rfl rfl rfl rfl rfl (by omega) rfl rfl ?_)
      | refine j_nil ?_
      | (refine r_go ?_; first | refine run_seq ?_ | refine run_region ?_ | refine run_cond_t rfl ?_ | refine run_cond_f rfl ?_ | (refine (run_if rfl (fun hb => ?_) (fun hb => ?_)) <;> first | (exfalso; omega) | skip) | refine run_block ?_ | refine run_ret ?_ | refine run_skip ?_)
      | refine seqQ_normal ?_ | refine seqQ_ret ?_)
  · exact end2 rfl rfl (List.Sublist.refl _) (by rw [numL_bad (.inl (.inl (by omega)))]; rfl) (.inl rfl)
  · exact end2 rfl rfl (List.Sublist.refl _) (by rw [numL_bad (.inl (.inr (by omega)))]; rfl) (.inl rfl)
  · exact end2 rfl rfl (List.Sublist.refl _) (by rw [numL_bad (.inr ⟨by rw [hd_at (by omega)]; assumption, by omega⟩)]; rfl) (.inl rfl)
  case' refine_2.refine_2.refine_1.refine_2 =>
    have hn : ¬ ((s.length < 1 ∨ 9 < s.length) ∨ (s.headD 0 = 48 ∧ 1 < s.length)) := by
      rintro (q | ⟨_, q⟩) <;> omega
  case' refine_2.refine_2.refine_2 =>
    have hn : ¬ ((s.length < 1 ∨ 9 < s.length) ∨ (s.headD 0 = 48 ∧ 1 < s.length)) := by
      rintro (q | ⟨q, _⟩)
      · omega
      · rw [hd_at (by omega)] at q
        exact absurd q (by assumption)
  all_goals
    refine run_loop (fun x : Nat × Int => [(0, .str s), (4, .int x.2), (5, .int (x.1 : Int))]) (fun _ => h) (fun x => (x.1 ≤ s.length ∧ 0 ≤ x.2 ∧ x.2 < 10 ^ x.1) ∧ numA x.2 (s.drop x.1) = numA 0 s) (fun x => s.length - x.1) (0, 0) ⟨rfl, rfl, rfl, trivial⟩ rfl ⟨⟨Nat.zero_le _, Int.le_refl _, by decide⟩, rfl⟩ (fun ⟨k, m⟩ ⟨⟨kl, m0, m1⟩, hm⟩ => ?_)
    dsimp only at kl m0 m1 hm ⊢
    by_cases hk : k < s.length
    · have cb : (s[k] - UInt8.ofNat (Int.toNat 48)).toNat < 256 := UInt8.toNat_lt _
      have hd := List.drop_eq_getElem_cons hk
      have m9 : m ≤ 99999999 := by
        obtain rfl | rfl | rfl | rfl | rfl | rfl | rfl | rfl | rfl : k = 0 ∨ k = 1 ∨ k = 2 ∨ k = 3 ∨ k = 4 ∨ k = 5 ∨ k = 6 ∨ k = 7 ∨ k = 8 := by omega
        all_goals (simp at m1; omega)
      repeat' (first
      | (refine j_go ?_; first
        | refine j_op0 rfl rfl rfl rfl ?_ | refine j_off rfl rfl rfl ?_ | (refine j_kBin rfl ?_; first | refine j_in rfl rfl ⟨by omega, by omega⟩ rfl rfl ?_) | (refine j_kLen rfl ?_; first | refine j_op rfl rfl rfl rfl ?_) | (refine j_kGuard rfl ?_; first | (refine (j_if rfl rfl rfl (fun hb => ?_) (fun hb => ?_)) <;> first | (exfalso; omega) | skip)) | refine j_si rfl rfl rfl rfl rfl (by omega) rfl rfl ?_)
      | refine j_nil ?_
      | (refine r_go ?_; first | refine run_seq ?_ | refine run_region ?_ | refine run_cond_t rfl ?_ | (refine (run_if rfl (fun hb => ?_) (fun hb => ?_)) <;> first | (exfalso; omega) | skip) | refine run_block ?_ | refine run_ret ?_ | refine run_skip ?_)
      | refine seqQ_normal ?_ | refine seqQ_ret ?_ | refine blockQ_normal ?_ | refine blockQ_ret ?_ | refine loopQ_ret ?_)
      · exact end2 rfl rfl (List.Sublist.refl _) (by rw [numL_no hn (by rw [← hm, hd, numA, if_pos (.inl (by assumption))])]; rfl) (.inl rfl)
      · exact end2 rfl rfl (List.Sublist.refl _) (by rw [numL_no hn (by rw [← hm, hd, numA, if_pos (.inr (by assumption))])]; rfl) (.inl rfl)
      have c1 : ¬ s[k] < 48 := by assumption
      have c2 : ¬ 57 < s[k] := by assumption
      have hd9 : (s[k] - UInt8.ofNat (Int.toNat 48)).toNat ≤ 9 := by
        show (s[k] - 48).toNat ≤ 9
        have h2 : 48 ≤ s[k].toNat := UInt8.le_iff_toNat_le.1 (UInt8.not_lt.1 c1)
        have h3 : s[k].toNat ≤ 57 := UInt8.le_iff_toNat_le.1 (UInt8.not_lt.1 c2)
        have : (s[k] - 48).toNat = s[k].toNat - 48 := by rw [UInt8.toNat_sub_of_le _ _ (UInt8.not_lt.1 c1)]; rfl
        omega
      refine loopQ_next (k + 1, m * 10 + ((s[k] - UInt8.ofNat (Int.toNat 48)).toNat : Int)) ⟨⟨by dsimp only; omega, by dsimp only; omega, ?_⟩, ?_⟩ (by dsimp only; omega) rfl ⟨rfl, rfl, nx _, trivial⟩
      · dsimp only
        rw [Int.pow_succ]; omega
      · dsimp only
        rw [← hm, hd, numA, if_neg (by simp only [not_or]; exact ⟨c1, c2⟩)]; rfl
    · have hke : k = s.length := by omega
      subst hke
      rw [List.drop_length, numA] at hm
      repeat' (first
      | (refine j_go ?_; first
        | refine j_op0 rfl rfl rfl rfl ?_ | (refine j_kLen rfl ?_; first | refine j_op rfl rfl rfl rfl ?_))
      | refine j_nil ?_
      | (refine r_go ?_; first | refine run_seq ?_ | refine run_region ?_ | (refine (run_if rfl (fun hb => ?_) (fun hb => ?_)) <;> first | (exfalso; omega) | skip) | refine run_ret ?_ | refine run_exit ?_)
      | refine seqQ_normal ?_ | refine seqQ_exit ?_ | refine blockQ_eq ?_ | refine loopQ_exit ?_)
      exact end2 rfl rfl (List.Sublist.refl _) (by rw [numL_yes hn (by omega), hm]; rfl) (.inl rfl)
theorem rd_next {n : Nat} {t : List UInt8} (h : IsBagT n t) (hd : ¬ t = [45]) {k m : Nat} (hk : k < (spl 32 t).length) (hm : m ≤ n) (ek : k = (bagWs (rdB n t) m).length) :
    ∃ (j : Nat) (x : Int), m ≤ j ∧ j < n ∧ n ≤ 8 ∧ 0 < x ∧ x ≤ 1000 ∧ (spl 32 t)[k] = kindW j x ∧ k + 1 = (bagWs (rdB n t) (j + 1)).length ∧ (pf (rdB n t) m).set j x = pf (rdB n t) (j + 1) := by
  obtain ⟨c, e, hb, rfl, rfl⟩ := isBagT_of h
  rw [e] at ek ⊢
  have hw := bag_words hb.2.2 hd
  have hk2 : k < (bagWs c c.length).length := by rw [← hw]; exact hk
  obtain ⟨j, h1, h2, h3, h4, ⟨r, h5⟩, h6⟩ := bagWs_next c (fun x hx => (hb.1 x hx).1) (c.length - m) m (by omega) (by omega)
  have hx := hb.1 _ (List.getElem_mem h2)
  refine ⟨j, c.getD j 0, h1, h2, hb.2.2, h3, by rw [getD_at h2]; exact hx.2, ?_, ?_, ?_⟩
  · have e1 : (spl 32 (bagT c))[k]? = some (kindW j (c.getD j 0)) := by
      rw [hw, h5, List.getElem?_append_right (by omega)]
      rw [show k - (bagWs c j).length = 0 by omega]; rfl
    rw [List.getElem?_eq_getElem hk] at e1
    exact Option.some.inj e1
  · rw [bagWs, if_pos h3, List.length_append, List.length_singleton]; omega
  · rw [← h6]; exact pf_set h2
theorem rd_end {n : Nat} {t : List UInt8} (h : IsBagT n t) (hd : ¬ t = [45]) {m : Nat} (hm : m ≤ n) (ek : (spl 32 t).length = (bagWs (rdB n t) m).length) : pf (rdB n t) m = rdB n t := by
  obtain ⟨c, e, hb, rfl, rfl⟩ := isBagT_of h
  rw [e] at ek ⊢
  rw [bag_words hb.2.2 hd] at ek
  exact bagWs_end c (fun x hx => (hb.1 x hx).1) (c.length - m) m (by omega) ek.symm
/-- What the readers know on their way. -/
structure RdAt (n : Nat) (t : List UInt8) (k : Nat) (b : List Int) (last : Int) : Prop where
  bl : b.length = n
  l0 : -1 ≤ last
  l1 : last < n
  rt : IsBagT n t → ∃ m, m ≤ n ∧ k = (bagWs (rdB n t) m).length ∧ b = pf (rdB n t) m ∧ last < m
theorem RdAt.start (n : Nat) (t : List UInt8) : RdAt n t 0 (List.replicate n 0) (-1) := ⟨by simp, by omega, by omega, fun h => ⟨0, Nat.zero_le _, rfl, by rw [pf_zero, rdB_len], by omega⟩⟩
theorem RdAt.key {n : Nat} {t : List UInt8} {k : Nat} {b : List Int} {last : Int} (R : RdAt n t k b last) (hd : ¬ t = [45]) (hk : k < (spl 32 t).length) (h : IsBagT n t) :
    ∃ (j : Nat) (x : Int), last < j ∧ j < n ∧ n ≤ 8 ∧ 0 < x ∧ x ≤ 1000 ∧ 0 < ((spl 32 t)[k]).length ∧ (∀ q : 0 < ((spl 32 t)[k]).length, (((spl 32 t)[k])[0]'q).toNat = 97 + j) ∧ (1 < ((spl 32 t)[k]).length ↔ 1 < x) ∧
      (1 < x → ((spl 32 t)[k]).drop 1 = dcm x) ∧ ∀ l2 : Int, l2 = j → RdAt n t (k + 1) (b.set j x) l2 := by
  obtain ⟨m, h1, h2, h3, h4⟩ := R.rt h
  obtain ⟨j, x, q1, q2, q3, q4, q5, q6, q7, q8⟩ := rd_next h hd hk h1 h2
  refine ⟨j, x, by omega, q2, q3, q4, q5, ?_⟩
  rw [q6]
  refine ⟨by simp [kindW], fun q => ?_, kindW_len1, kindW_drop, fun l2 hl => ⟨by rw [List.length_set]; exact R.bl, by omega, by omega, fun _ => ⟨j + 1, by omega, q7, by rw [h3]; exact q8, by omega⟩⟩⟩
  show (UInt8.ofNat (97 + j)).toNat = 97 + j
  exact kind_nat (by omega)
theorem RdAt.go {n : Nat} {t : List UInt8} {k : Nat} {b : List Int} {last v : Int} {u : Nat} (R : RdAt n t k b last) (hu : u < n) (rt : IsBagT n t → ∃ (j : Nat) (x : Int), u = j ∧ v = x ∧ RdAt n t (k + 1) (b.set j x) j) : RdAt n t (k + 1) (b.set u v) u :=
  ⟨by rw [List.length_set]; exact R.bl, by omega, by omega, fun q => by
    obtain ⟨j, x, rfl, rfl, r⟩ := rt q
    exact r.rt q⟩
theorem sub97 {x : UInt8} {j : Nat} (h : x.toNat = 97 + j) : (x - UInt8.ofNat (Int.toNat 97)).toNat = j := by
  show (x - 97).toNat = j
  have : (97 : UInt8) ≤ x := UInt8.le_iff_toNat_le.2 (by rw [h]; show 97 ≤ 97 + j; omega)
  rw [UInt8.toNat_sub_of_le _ _ this, h]
  show 97 + j - 97 = j
  omega
theorem take_drop1 (w : List UInt8) : (w.take (w.length : Int).toNat).drop (Int.toNat 1) = w.drop 1 := by rw [Int.toNat_natCast, List.take_length]; rfl
theorem o_l01Read (n : Nat) (t : List UInt8) (hn : 1 ≤ n ∧ n ≤ 8) (ht : t.length ≤ 1048576) : Does Tryz.prog 101 [.int (n : Int), .str t] []
    (fun v h' => h' = [] ∧ ∃ (b : List Int) (ok : Bool), v = .tup [.sl (b.map Go.AI.encI), .raw (.bool ok)] ∧ b.length ≤ 8 ∧ (IsBagT n t → ok = true ∧ b = rdB n t)) := by
  refine fn_of_runD tyOk ztOk mix Tryz.func101 rfl (by decide) Tryz.ntmps101 (fun w0 F => ?_)
  change Run _ _ _ _ _ F
  repeat' (first
      | (refine j_go ?_; first
        | refine j_op0 rfl rfl rfl rfl ?_)
      | refine j_nil ?_
      | (refine r_go ?_; first | refine run_seq ?_ | refine run_region ?_)
      | refine seqQ_normal ?_)
  refine j_makeI (g := Go.AI.encI) (m := n) 0 rfl rfl rfl rfl rfl rfl rfl rfl rfl (by omega) rfl rfl (fun bz => ?_)
  repeat' (first
      | (refine j_go ?_; first
        | refine j_op0 rfl rfl rfl rfl ?_ | (refine j_kCall rfl rfl rfl rfl ?_; first | refine jc (c_l01Split t 32 ht) (LeL.refl _) rfl rfl ?_))
      | refine j_nil ?_
      | (refine r_go ?_; first | refine run_seq ?_ | refine run_region ?_ | (refine (run_if rfl (fun hb => ?_) (fun hb => ?_)) <;> first | (exfalso; omega) | skip) | refine run_block ?_ | refine run_ret ?_ | refine run_skip ?_)
      | refine seqQ_normal ?_ | refine seqQ_ret ?_)
  · have hd : t = [45] := by assumption
    refine endD_view (view_freeze (g := Go.AI.encI) (z := 1) (ys := List.replicate n 0) 0 4 (by rw [List.length_replicate]; rfl) rfl rfl (fun _ => rfl) rfl rfl) ?_
    exact endD_ret (h1 := []) rfl (.cons (.tmp rfl) (.cons (.tmp rfl) .nil)) (Le.refl _) ⟨rfl, List.replicate n 0, true, rfl, by simp; omega, fun _ => ⟨rfl, by unfold rdB; rw [if_pos hd]⟩⟩ (.inl rfl)
  have hd : ¬ t = [45] := by assumption
  have Wl := spl_len 32 t
  refine run_loop (fun x : (Nat × List Int) × Int => [(0, .int (n : Int)), (6, .os (some bz) n n), (7, .sl ((spl 32 t).map encW)), (8, .int x.2), (9, .int (x.1.1 : Int))]) (fun x => ⟨some bz, 2, n * 1, (x.1.2.map Go.AI.encI).flatten⟩ :: F)
    (fun x => x.1.1 ≤ (spl 32 t).length ∧ RdAt n t x.1.1 x.1.2 x.2) (fun x => (spl 32 t).length - x.1.1) ((0, List.replicate n 0), -1) ⟨rfl, rfl, rfl, rfl, rfl, trivial⟩ rfl ⟨Nat.zero_le _, RdAt.start n t⟩ (fun ⟨⟨k, b⟩, last⟩ ⟨kl, R⟩ => ?_)
  dsimp only at kl R ⊢
  have bl := R.bl
  have l0 := R.l0
  have l1 := R.l1
  have bad : ¬ IsBagT n t → ∀ e h1, lk e 4 = some (.os none 0 0) → lk e 5 = some (.raw (.bool false)) → F.Sublist h1 → endD ty Tryz.f101.results (fun v h' => h' = [] ∧ ∃ (b : List Int) (ok : Bool), v = .tup [.sl (b.map Go.AI.encI), .raw (.bool ok)] ∧ b.length ≤ 8 ∧ (IsBagT n t → ok = true ∧ b = rdB n t)) F .ret e h1 := fun hn e h1 q1 q2 q3 =>
    endD_view (view_sub q3) (endD_ret (h1 := []) rfl (.cons (.tmp q1) (.cons (.tmp q2) .nil)) (Le.tup (LeL.cons (Le.nil 0) (LeL.cons (Le.refl _) LeL.nil))) ⟨rfl, [], false, rfl, Nat.zero_le _, fun q => absurd q hn⟩ (.inl rfl))
  by_cases hk : k < (spl 32 t).length
  · have key := R.key hd hk
    have wl := (spl_mem 32 t _ (List.getElem_mem hk)).1
    repeat' (first
      | (refine j_go ?_; first
        | refine j_op0 rfl rfl rfl rfl ?_ | refine j_off rfl rfl rfl ?_ | (refine j_kIdx rfl ?_; first | refine j_idx rfl rfl rfl rfl rfl (by omega) rfl rfl rfl ?_ | refine j_midx rfl rfl rfl rfl rfl (by first | omega | (simp only [List.length_append, List.length_cons, List.length_nil]; omega)) rfl rfl ?_) | (refine j_kLen rfl ?_; first | refine j_len rfl rfl rfl rfl rfl rfl ?_ | refine j_op rfl rfl rfl rfl ?_) | (refine j_kCall rfl rfl rfl rfl ?_; first | refine jc (c_l01Number _ (by first | omega | (simp only [List.length_drop, List.length_take]; omega))) (LeL.refl _) rfl rfl ?_ | refine jc (c_l00In _ _ _) (LeL.refl _) rfl rfl ?_) | (refine j_kBsl rfl ?_; first | refine j_bs0 rfl rfl rfl rfl rfl rfl ?_) | (refine j_kSlice rfl ?_; first | refine j_ss rfl rfl rfl rfl rfl rfl (by omega) rfl rfl ?_) | (refine j_kGuard rfl ?_; first | (refine (j_if rfl rfl rfl (fun hb => ?_) (fun hb => ?_)) <;> first | (exfalso; omega) | skip) | (refine (j_branch rfl rfl rfl (fun hb => ?_) (fun hb => ?_)) <;> skip; (fail_if_success guard_hyp hb : true = true); (fail_if_success guard_hyp hb : true = false); (fail_if_success guard_hyp hb : false = true); (fail_if_success guard_hyp hb : false = false))) | refine j_siz rfl rfl rfl rfl rfl (by omega) rfl rfl ?_)
      | refine j_nil ?_
      | (refine r_go ?_; first | refine run_seq ?_ | refine run_region ?_ | refine run_cond_t rfl ?_ | (refine (run_if rfl (fun hb => ?_) (fun hb => ?_)) <;> first | (exfalso; omega) | skip) | (refine (run_ifn rfl (fun hb => ?_) (fun hb => ?_)) <;> first | (exfalso; omega) | skip) | refine run_block ?_ | refine run_ret ?_ | refine run_skip ?_)
      | refine seqQ_normal ?_ | refine seqQ_ret ?_ | refine blockQ_ret ?_ | refine loopQ_ret ?_)
    · exact bad (fun q => by obtain ⟨j, x, _, _, _, _, _, q6, _⟩ := key q; omega) _ _ rfl rfl (List.sublist_cons_self _ _)
    · exact bad (fun q => by
        obtain ⟨j, x, _, _, _, _, _, q6, q7, _⟩ := key q
        have h1 := q7 q6
        have h2 : ((spl 32 t)[k][0]'q6).toNat < 97 := UInt8.lt_iff_toNat_lt.1 hb
        omega) _ _ rfl rfl (List.sublist_cons_self _ _)
    · exact bad (fun q => by
        obtain ⟨j, x, _, q2, _, _, _, q6, q7, _⟩ := key q
        have h1 : ((spl 32 t)[k][Int.toNat 0] - UInt8.ofNat (Int.toNat 97)).toNat = j := sub97 (q7 q6)
        omega) _ _ rfl rfl (List.sublist_cons_self _ _)
    · exact bad (fun q => by
        obtain ⟨j, x, q1, q2, _, _, _, q6, q7, _⟩ := key q
        have h1 : ((spl 32 t)[k][Int.toNat 0] - UInt8.ofNat (Int.toNat 97)).toNat = j := sub97 (q7 q6)
        omega) _ _ rfl rfl (List.sublist_cons_self _ _)
    · have h1 : (1 : Int) < ((spl 32 t)[k].length : Int) := by assumption
      exact bad (fun q => by
        obtain ⟨j, x, q1, q2, _, q4, q5, q6, q7, q8, q9, _⟩ := key q
        have hx := q8.1 (by omega)
        have e : numL (((spl 32 t)[k].take ((spl 32 t)[k].length : Int).toNat).drop (Int.toNat 1)) = (x, true) := by rw [take_drop1, q9 hx, numL_dcm ⟨hx, q5⟩]
        rw [e] at hb
        exact hb ⟨by dsimp only; omega, by dsimp only; omega⟩) _ _ rfl rfl (List.sublist_cons_self _ _)
    · have h1 : (1 : Int) < ((spl 32 t)[k].length : Int) := by assumption
      have hu : ((spl 32 t)[k][Int.toNat 0] - UInt8.ofNat (Int.toNat 97)).toNat < n := by omega
      refine j_storeE 0 ((spl 32 t)[k][Int.toNat 0] - UInt8.ofNat (Int.toNat 97)).toNat (g := Go.AI.encI) (numL (((spl 32 t)[k].take ((spl 32 t)[k].length : Int).toNat).drop (Int.toNat 1))).1 rfl rfl rfl rfl rfl rfl rfl rfl rfl (fun _ => rfl) (by omega) (by omega) ?_
      repeat' (first
      | (refine j_go ?_; first
        | refine j_op0 rfl rfl rfl rfl ?_ | (refine j_kBin rfl ?_; first | refine j_in rfl rfl ⟨by omega, by omega⟩ rfl rfl ?_))
      | refine j_nil ?_
      | (refine r_go ?_; first | refine run_region ?_)
      | refine seqQ_normal ?_ | refine blockQ_normal ?_)
      exact loopQ_next ((k + 1, b.set ((spl 32 t)[k][Int.toNat 0] - UInt8.ofNat (Int.toNat 97)).toNat (numL (((spl 32 t)[k].take ((spl 32 t)[k].length : Int).toNat).drop (Int.toNat 1))).1), (((spl 32 t)[k][Int.toNat 0] - UInt8.ofNat (Int.toNat 97)).toNat : Int)) ⟨by dsimp only; omega, R.go hu (fun q => by
        obtain ⟨j, x, q1, q2, _, q4, q5, q6, q7, q8, q9, q10⟩ := key q
        have hx := q8.1 (by omega)
        have e : numL (((spl 32 t)[k].take ((spl 32 t)[k].length : Int).toNat).drop (Int.toNat 1)) = (x, true) := by rw [take_drop1, q9 hx, numL_dcm ⟨hx, q5⟩]
        exact ⟨j, x, sub97 (q7 q6), by rw [e], q10 _ rfl⟩)⟩ (by dsimp only; omega) rfl ⟨rfl, rfl, rfl, rfl, nx _, trivial⟩
    · have h1 : (1 : Int) < ((spl 32 t)[k].length : Int) := by assumption
      exact bad (fun q => by
        obtain ⟨j, x, q1, q2, _, q4, q5, q6, q7, q8, q9, _⟩ := key q
        have hx := q8.1 (by omega)
        have e : numL (((spl 32 t)[k].take ((spl 32 t)[k].length : Int).toNat).drop (Int.toNat 1)) = (x, true) := by rw [take_drop1, q9 hx, numL_dcm ⟨hx, q5⟩]
        rw [e] at hb
        simp at hb) _ _ rfl rfl (List.sublist_cons_self _ _)
    · have h1 : ¬ (1 : Int) < ((spl 32 t)[k].length : Int) := by assumption
      have hu : ((spl 32 t)[k][Int.toNat 0] - UInt8.ofNat (Int.toNat 97)).toNat < n := by omega
      refine j_storeE 0 ((spl 32 t)[k][Int.toNat 0] - UInt8.ofNat (Int.toNat 97)).toNat (g := Go.AI.encI) (1 : Int) rfl rfl rfl rfl rfl rfl rfl rfl rfl (fun _ => rfl) (by omega) (by omega) ?_
      repeat' (first
      | (refine j_go ?_; first
        | refine j_op0 rfl rfl rfl rfl ?_ | (refine j_kBin rfl ?_; first | refine j_in rfl rfl ⟨by omega, by omega⟩ rfl rfl ?_))
      | refine j_nil ?_
      | (refine r_go ?_; first | refine run_region ?_)
      | refine seqQ_normal ?_ | refine blockQ_normal ?_)
      exact loopQ_next ((k + 1, b.set ((spl 32 t)[k][Int.toNat 0] - UInt8.ofNat (Int.toNat 97)).toNat 1), (((spl 32 t)[k][Int.toNat 0] - UInt8.ofNat (Int.toNat 97)).toNat : Int)) ⟨by dsimp only; omega, R.go hu (fun q => by
        obtain ⟨j, x, q1, q2, _, q4, q5, q6, q7, q8, q9, q10⟩ := key q
        have hx : ¬ 1 < x := fun z => by have := q8.2 z; omega
        exact ⟨j, x, sub97 (q7 q6), by omega, q10 _ rfl⟩)⟩ (by dsimp only; omega) rfl ⟨rfl, rfl, rfl, rfl, nx _, trivial⟩
  · have hke : k = (spl 32 t).length := by omega
    subst hke
    repeat' (first
      | (refine j_go ?_; first
        | refine j_op0 rfl rfl rfl rfl ?_ | (refine j_kLen rfl ?_; first | refine j_len rfl rfl rfl rfl rfl rfl ?_))
      | refine j_nil ?_
      | (refine r_go ?_; first | refine run_seq ?_ | refine run_region ?_ | (refine (run_if rfl (fun hb => ?_) (fun hb => ?_)) <;> first | (exfalso; omega) | skip) | refine run_ret ?_ | refine run_exit ?_)
      | refine seqQ_normal ?_ | refine seqQ_exit ?_ | refine blockQ_eq ?_ | refine loopQ_exit ?_)
    refine endD_view (view_freeze (g := Go.AI.encI) (z := 1) (ys := b) 0 4 (by rw [bl]; rfl) rfl rfl (fun _ => rfl) rfl rfl) ?_
    exact endD_ret (h1 := []) rfl (.cons (.tmp rfl) (.cons (.tmp rfl) .nil)) (Le.refl _) ⟨rfl, b, true, rfl, by omega, fun q => ⟨rfl, by
      obtain ⟨m, h1, h2, h3, _⟩ := R.rt q
      rw [h3]; exact rd_end q hd h1 h2⟩⟩ (.inl rfl)
theorem isBagT_n {n : Nat} {t : List UInt8} (h : IsBagT n t) : 1 ≤ n ∧ n ≤ 8 := by
  obtain ⟨c, h1, rfl, _⟩ := h
  exact h1.2
theorem o_sReadBag (K : Int) (t : List UInt8) (ht : t.length ≤ 1048576) : Does Tryz.prog 72 [.int K, .str t] []
    (fun v h' => h' = [] ∧ ∃ (b : List Int) (cd : Int), v = .tup [.sl (b.map Go.AI.encI), .int cd] ∧ b.length ≤ 8 ∧ (IsBagT K.toNat t → cd = 0 ∧ b = rdB K.toNat t)) := by
  refine fn_of_runD tyOk ztOk mix Tryz.func72 rfl (by decide) Tryz.ntmps72 (fun w0 F => ?_)
  change Run _ _ _ _ _ F
  repeat' (first
      | (refine j_go ?_; first
        | refine j_op0 rfl rfl rfl rfl ?_ | (refine j_kCall rfl rfl rfl rfl ?_; first | refine jc (c_l00In _ _ _) (LeL.refl _) rfl rfl ?_) | (refine j_kBsl rfl ?_; first | refine j_bs0 rfl rfl rfl rfl rfl rfl ?_))
      | refine j_nil ?_
      | (refine r_go ?_; first | refine run_seq ?_ | refine run_region ?_ | (refine (run_ifn rfl (fun hb => ?_) (fun hb => ?_)) <;> first | (exfalso; omega) | skip) | refine run_ret ?_ | refine run_skip ?_)
      | refine seqQ_normal ?_ | refine seqQ_ret ?_)
  · exact endD_ret (h1 := []) rfl (.cons (.tmp rfl) (.cons (.tmp rfl) .nil)) (Le.tup (LeL.cons (Le.nil 0) (LeL.cons (Le.refl _) LeL.nil))) ⟨rfl, [], 2, rfl, Nat.zero_le _, fun q => absurd (isBagT_n q) (by omega)⟩ (.inl rfl)
  obtain ⟨n, rfl⟩ : ∃ n : Nat, K = (n : Int) := ⟨K.toNat, by omega⟩
  rw [Int.toNat_natCast]
  refine j_kCall rfl rfl rfl rfl ?_
  refine jcp F (o_l01Read n t (by omega) ht) (List.Perm.refl _) (LeL.refl _) rfl rfl (fun v h1 hR => ?_)
  obtain ⟨rfl, b, ok, rfl, hb8, hr⟩ := hR
  repeat' (first
      | (refine j_go ?_; first
        | refine j_op0 rfl rfl rfl rfl ?_ | (refine j_kBsl rfl ?_; first | refine j_bs0 rfl rfl rfl rfl rfl rfl ?_))
      | refine j_nil ?_
      | (refine r_go ?_; first | refine run_seq ?_ | refine run_region ?_ | refine run_ret ?_ | refine run_skip ?_ | refine run_condn rfl (fun hb => ?_) (fun hb => ?_))
      | refine seqQ_normal ?_ | refine seqQ_ret ?_)
  · exact endD_ret (h1 := []) rfl (.cons (.tmp rfl) (.cons (.tmp rfl) .nil)) (Le.tup (LeL.cons (Le.nil 0) (LeL.cons (Le.refl _) LeL.nil))) ⟨rfl, [], 5, rfl, Nat.zero_le _, fun q => by
      have := (hr q).1
      simp_all⟩ (.inl rfl)
  · exact endD_ret (h1 := []) rfl (.cons (.tmp rfl) (.cons (.tmp rfl) .nil)) (Le.refl _) ⟨rfl, b, 0, rfl, hb8, fun q => ⟨rfl, (hr q).2⟩⟩ (.inl rfl)
theorem o_readBag (n : Nat) (t : List UInt8) (hn : 1 ≤ n ∧ n ≤ 8) (ht : t.length ≤ 1048576) : Does Tryz.prog 40 [.int (n : Int), .str t] []
    (fun v h' => ∃ (ob : Option Nat) (m cp : Nat), v = .tup [.os ob m cp, .raw (.bool (dec (IsBagT n t)))] ∧ (IsBagT n t → ROI (rdB n t) (.os ob m cp) h')) := by
  refine fn_of_runD tyOk ztOk mix Tryz.func40 rfl (by decide) Tryz.ntmps40 (fun w0 F => ?_)
  change Run _ _ _ _ _ F
  repeat' (first
      | (refine j_go ?_; first
        | refine j_op0 rfl rfl rfl rfl ?_)
      | refine j_nil ?_
      | (refine r_go ?_; first | refine run_seq ?_ | refine run_region ?_)
      | refine seqQ_normal ?_)
  refine j_makeI (g := Go.AI.encI) (m := n) 0 rfl rfl rfl rfl rfl rfl rfl rfl rfl (by omega) rfl rfl (fun bz => ?_)
  repeat' (first
      | (refine j_go ?_; first
        | refine j_op0 rfl rfl rfl rfl ?_ | (refine j_kLen rfl ?_; first | refine j_len rfl rfl rfl rfl rfl rfl ?_) | (refine j_kCall rfl rfl rfl rfl ?_; first | refine jc (c_Split t 32 (by omega)) (LeL.refl _) rfl rfl ?_))
      | refine j_nil ?_
      | (refine r_go ?_; first | refine run_seq ?_ | refine run_region ?_ | (refine (run_ifn rfl (fun hb => ?_) (fun hb => ?_)) <;> first | (exfalso; omega) | skip) | refine run_block ?_ | refine run_skip ?_)
      | refine seqQ_normal ?_)
  case' refine_1 =>
    have hd : ¬ t = [45] := by assumption
    have Wl := spl_len 32 t
    refine run_loop (fun x : (Nat × List Int) × Int => [(0, .int (n : Int)), (1, .str t), (6, .os (some bz) n n), (15, .sl ((spl 32 t).map encW)), (16, .int (spl 32 t).length), (17, .int (x.1.1 : Int))]) (fun x => ⟨some bz, 2, n * 1, (x.1.2.map Go.AI.encI).flatten⟩ :: F)
      (fun x => x.1.1 ≤ (spl 32 t).length ∧ RdAt n t x.1.1 x.1.2 x.2) (fun x => (spl 32 t).length - x.1.1) ((0, List.replicate n 0), -1) ⟨rfl, rfl, rfl, rfl, rfl, rfl, trivial⟩ rfl ⟨Nat.zero_le _, RdAt.start n t⟩ (fun ⟨⟨k, b⟩, last⟩ ⟨kl, R⟩ => ?_)
    dsimp only at kl R ⊢
    have bl := R.bl
    by_cases hk : k < (spl 32 t).length
    case' pos =>
      have key := R.key hd hk
      have wl := (spl_mem 32 t _ (List.getElem_mem hk)).1
      have hbad : ¬ IsBagT n t → ∀ e h1, lk e 4 = some (.os none 0 0) → lk e 5 = some (.raw (.bool false)) → F.Sublist h1 → endD ty Tryz.f40.results (fun v h' => ∃ (ob : Option Nat) (m cp : Nat), v = .tup [.os ob m cp, .raw (.bool (dec (IsBagT n t)))] ∧ (IsBagT n t → ROI (rdB n t) (.os ob m cp) h')) F .ret e h1 := fun hn e h1 q1 q2 q3 =>
        endD_view (view_sub q3) (endD_ret (h1 := []) rfl (.cons (.tmp q1) (.cons (.tmp q2) .nil)) (Le.refl _) ⟨none, 0, 0, by rw [dec_f hn]; rfl, fun q => absurd q hn⟩ (.inl rfl))
      by_cases hl : 0 < ((spl 32 t)[k]).length
      case' pos => repeat' (first
      | (refine j_go ?_; first
        | refine j_op0 rfl rfl rfl rfl ?_ | refine j_off rfl rfl rfl ?_ | (refine j_kIdx rfl ?_; first | refine j_idx rfl rfl rfl rfl rfl (by omega) rfl rfl rfl ?_) | (refine j_kBin rfl ?_; first | refine j_in rfl rfl ⟨by omega, by omega⟩ rfl rfl ?_) | (refine j_kLen rfl ?_; first | refine j_op rfl rfl rfl rfl ?_) | (refine j_kCall rfl rfl rfl rfl ?_; first | refine jc (c_inRange _ _ _) (LeL.refl _) rfl rfl ?_ | refine jc (c_PI _ (by first | omega | (simp only [List.length_drop, List.length_take]; omega))) (LeL.refl _) rfl rfl ?_) | (refine j_kSlice rfl ?_; first | refine j_ss rfl rfl rfl rfl rfl rfl (by omega) rfl rfl ?_) | (refine j_kGuard rfl ?_; first | (refine (j_if rfl rfl rfl (fun hb => ?_) (fun hb => ?_)) <;> first | (exfalso; omega) | skip)) | refine j_si rfl rfl rfl rfl rfl (by omega) rfl rfl ?_)
      | refine j_nil ?_
      | (refine r_go ?_; first | refine run_seq ?_ | refine run_region ?_ | refine run_cond_t rfl ?_ | (refine (run_if rfl (fun hb => ?_) (fun hb => ?_)) <;> first | (exfalso; omega) | skip) | (refine (run_ifn rfl (fun hb => ?_) (fun hb => ?_)) <;> first | (exfalso; omega) | skip) | refine run_block ?_ | refine run_ret ?_ | refine run_skip ?_)
      | refine seqQ_normal ?_ | refine seqQ_ret ?_ | refine blockQ_ret ?_ | refine loopQ_ret ?_)
      case' neg =>
        have hw0 : (spl 32 t)[k] = [] := List.eq_nil_of_length_eq_zero (by omega)
        repeat' (first
      | (refine j_go ?_; first
        | refine j_op0 rfl rfl rfl rfl ?_ | refine j_off rfl rfl rfl ?_ | (refine j_kIdx rfl ?_; first | refine j_idx rfl rfl rfl rfl rfl (by omega) rfl rfl rfl ?_) | (refine j_kGuard rfl ?_; first | (refine (j_if rfl rfl rfl (fun hb => ?_) (fun hb => ?_)) <;> first | (exfalso; omega) | skip)))
      | refine j_nil ?_
      | (refine r_go ?_; first | refine run_seq ?_ | refine run_region ?_ | refine run_cond_t rfl ?_ | (refine (run_if rfl (fun hb => ?_) (fun hb => ?_)) <;> first | (exfalso; omega) | skip) | refine run_block ?_ | refine run_ret ?_ | refine run_skip ?_)
      | refine seqQ_normal ?_ | refine seqQ_ret ?_ | refine blockQ_ret ?_ | refine loopQ_ret ?_)
    case' neg =>
      have hke : k = (spl 32 t).length := by omega
      subst hke
      have hbt : IsBagT n t → b = rdB n t := fun q => by
        obtain ⟨m, h1, h2, h3, _⟩ := R.rt q
        rw [h3]; exact rd_end q hd h1 h2
      repeat' (first
      | (refine j_go ?_; first
        | refine j_op0 rfl rfl rfl rfl ?_)
      | refine j_nil ?_
      | (refine r_go ?_; first | refine run_seq ?_ | refine run_region ?_ | (refine (run_if rfl (fun hb => ?_) (fun hb => ?_)) <;> first | (exfalso; omega) | skip) | refine run_exit ?_)
      | refine seqQ_normal ?_ | refine seqQ_exit ?_ | refine blockQ_eq ?_ | refine loopQ_exit ?_)
  case neg =>
      have ro : ROI b (.os (some bz) n n) [(⟨some bz, 2, n * 1, (b.map Go.AI.encI).flatten⟩ : Blk)] := .inl ⟨some bz, n, by rw [bl], rfl⟩
      have yes : Bag b → (IsBagT n t ↔ bagT b = t) := fun hb => ⟨fun q => by have := (isBagT_iff.1 q).2; rwa [← hbt q] at this, fun q => ⟨b, hb, bl, q⟩⟩
      have nob : ¬ Bag b → ¬ IsBagT n t := fun hb q => hb (by have := (isBagT_iff.1 q).1; rwa [← hbt q] at this)
      refine j_kCall rfl rfl rfl rfl ?_
      refine jctq [_] (c_isBag b) (Clo.raw _) (fun k hk => by simp only [List.mem_singleton] at hk; subst hk; exact List.mem_cons_self) (FrzL.cons ro.frz (FrzL.nil _)) rfl rfl ?_
      repeat' (first
      | (refine j_go ?_; first
        | refine j_op0 rfl rfl rfl rfl ?_ | refine j_off rfl rfl rfl ?_ | (refine j_kGuard rfl ?_; first | (refine (j_if rfl rfl rfl (fun hb => ?_) (fun hb => ?_)) <;> first | (exfalso; omega) | skip)))
      | refine j_nil ?_
      | (refine r_go ?_; first | refine run_ret ?_)
      | refine seqQ_normal ?_)
      case' refine_1 =>
        have hB : Bag b := by assumption
        refine j_kCall rfl rfl rfl rfl ?_
        refine jctq [_] (gT (c_bagText b hB)) (clo_str _) (fun k hk => by simp only [List.mem_singleton] at hk; subst hk; exact List.mem_cons_self) (FrzL.cons ro.frz (FrzL.nil _)) rfl rfl ?_
        repeat' (first
      | (refine j_go ?_; first
        | refine j_op0 rfl rfl rfl rfl ?_)
      | refine j_nil ?_
      | (refine r_go ?_; first | refine run_ret ?_)
      | refine seqQ_normal ?_)
        exact endD_ret (h1 := [_]) rfl (.cons (.tmp rfl) (.cons (.tmp rfl) .nil)) (Le.refl _) ⟨some bz, n, n, by rw [dec_congr (yes hB)]; rfl, fun q => by rw [← hbt q]; exact ro⟩ (.inl rfl)
      case' refine_2 =>
        exact endD_ret (h1 := [_]) rfl (.cons (.tmp rfl) (.cons (.tmp rfl) .nil)) (Le.refl _) ⟨some bz, n, n, by rw [dec_f (nob (by assumption))]; rfl, fun q => absurd q (nob (by assumption))⟩ (.inl rfl)
  case neg.refine_1.refine_1 => exact hbad (fun q => by obtain ⟨j, x, _, _, _, _, _, q6, _⟩ := key q; omega) _ _ rfl rfl (List.sublist_cons_self _ _)
  case neg.refine_1.refine_2 => exact absurd hw0 (by assumption)
  case pos.refine_1.refine_1 =>
    have hw0 : (spl 32 t)[k] = [] := by assumption
    rw [hw0] at hl
    exact absurd hl (Nat.lt_irrefl _)
  case pos.refine_1.refine_2.refine_1 =>
    exact hbad (fun q => by
      obtain ⟨j, x, _, q2, _, _, _, q6, q7, _⟩ := key q
      have h1 := q7 q6
      have h2 : ¬ (97 ≤ (((spl 32 t)[k][0].toNat : Nat) : Int) ∧ (((spl 32 t)[k][0].toNat : Nat) : Int) ≤ 97 + (n : Int) - 1) := by assumption
      omega) _ _ rfl rfl (List.sublist_cons_self _ _)
  case pos.refine_1.refine_2.refine_2.refine_1 =>
    have hr : 97 ≤ (((spl 32 t)[k][0].toNat : Nat) : Int) ∧ (((spl 32 t)[k][0].toNat : Nat) : Int) ≤ 97 + (n : Int) - 1 := by assumption
    have hu0 : ((spl 32 t)[k][0] - UInt8.ofNat (Int.toNat 97)).toNat = (spl 32 t)[k][0].toNat - 97 := sub97 (by omega)
    have hu : ((spl 32 t)[k][0] - UInt8.ofNat (Int.toNat 97)).toNat < n := by omega
    refine j_midxu rfl rfl rfl rfl rfl hu rfl rfl ?_
    refine j_storeE 0 ((spl 32 t)[k][0] - UInt8.ofNat (Int.toNat 97)).toNat (g := Go.AI.encI) (pIv (((spl 32 t)[k].take ((spl 32 t)[k].length : Int).toNat).drop (Int.toNat 1))) rfl rfl rfl rfl rfl rfl rfl rfl rfl (fun _ => rfl) (by first | omega | rfl) (by first | omega | rfl) ?_
    repeat' (first
      | (refine j_go ?_; first
        | refine j_op0 rfl rfl rfl rfl ?_ | (refine j_kBin rfl ?_; first | refine j_in rfl rfl ⟨by omega, by omega⟩ rfl rfl ?_))
      | refine j_nil ?_
      | (refine r_go ?_; first | refine run_region ?_)
      | refine seqQ_normal ?_ | refine blockQ_normal ?_)
    exact loopQ_next ((k + 1, b.set ((spl 32 t)[k][0] - UInt8.ofNat (Int.toNat 97)).toNat (pIv (((spl 32 t)[k].take ((spl 32 t)[k].length : Int).toNat).drop (Int.toNat 1)))), (((spl 32 t)[k][0] - UInt8.ofNat (Int.toNat 97)).toNat : Int)) ⟨by dsimp only; omega, R.go hu (fun q => by
      obtain ⟨j, x, q1, q2, _, q4, q5, q6, q7, q8, q9, q10⟩ := key q
      have hx := q8.1 (by omega)
      exact ⟨j, x, sub97 (q7 q6), by rw [take_drop1, q9 hx, pIv_dcm (by omega)], q10 _ rfl⟩)⟩ (by dsimp only; omega) rfl ⟨rfl, rfl, rfl, rfl, rfl, nx _, trivial⟩
  case pos.refine_1.refine_2.refine_2.refine_2 =>
    have hr : 97 ≤ (((spl 32 t)[k][0].toNat : Nat) : Int) ∧ (((spl 32 t)[k][0].toNat : Nat) : Int) ≤ 97 + (n : Int) - 1 := by assumption
    have hu0 : ((spl 32 t)[k][0] - UInt8.ofNat (Int.toNat 97)).toNat = (spl 32 t)[k][0].toNat - 97 := sub97 (by omega)
    have hu : ((spl 32 t)[k][0] - UInt8.ofNat (Int.toNat 97)).toNat < n := by omega
    refine j_midxu rfl rfl rfl rfl rfl hu rfl rfl ?_
    refine j_storeE 0 ((spl 32 t)[k][0] - UInt8.ofNat (Int.toNat 97)).toNat (g := Go.AI.encI) (1 : Int) rfl rfl rfl rfl rfl rfl rfl rfl rfl (fun _ => rfl) (by first | omega | rfl) (by first | omega | rfl) ?_
    repeat' (first
      | (refine j_go ?_; first
        | refine j_op0 rfl rfl rfl rfl ?_ | (refine j_kBin rfl ?_; first | refine j_in rfl rfl ⟨by omega, by omega⟩ rfl rfl ?_))
      | refine j_nil ?_
      | (refine r_go ?_; first | refine run_region ?_)
      | refine seqQ_normal ?_ | refine blockQ_normal ?_)
    exact loopQ_next ((k + 1, b.set ((spl 32 t)[k][0] - UInt8.ofNat (Int.toNat 97)).toNat 1), (((spl 32 t)[k][0] - UInt8.ofNat (Int.toNat 97)).toNat : Int)) ⟨by dsimp only; omega, R.go hu (fun q => by
      obtain ⟨j, x, q1, q2, _, q4, q5, q6, q7, q8, q9, q10⟩ := key q
      have hx : ¬ 1 < x := fun z => by have := q8.2 z; omega
      exact ⟨j, x, sub97 (q7 q6), by omega, q10 _ rfl⟩)⟩ (by dsimp only; omega) rfl ⟨rfl, rfl, rfl, rfl, rfl, nx _, trivial⟩
  case refine_2 =>
      have hd : t = [45] := by assumption
      have bl : (List.replicate n (0 : Int)).length = n := List.length_replicate
      have hbt : IsBagT n t → List.replicate n (0 : Int) = rdB n t := fun _ => by unfold rdB; rw [if_pos hd]
      have ro : ROI (List.replicate n (0 : Int)) (.os (some bz) n n) [(⟨some bz, 2, n * 1, ((List.replicate n (0 : Int)).map Go.AI.encI).flatten⟩ : Blk)] := .inl ⟨some bz, n, by rw [bl], rfl⟩
      have yes : Bag (List.replicate n (0 : Int)) → (IsBagT n t ↔ bagT (List.replicate n (0 : Int)) = t) := fun hb => ⟨fun q => by have := (isBagT_iff.1 q).2; rwa [← hbt q] at this, fun q => ⟨(List.replicate n (0 : Int)), hb, bl, q⟩⟩
      have nob : ¬ Bag (List.replicate n (0 : Int)) → ¬ IsBagT n t := fun hb q => hb (by have := (isBagT_iff.1 q).1; rwa [← hbt q] at this)
      refine j_kCall rfl rfl rfl rfl ?_
      refine jctq [_] (c_isBag (List.replicate n (0 : Int))) (Clo.raw _) (fun k hk => by simp only [List.mem_singleton] at hk; subst hk; exact List.mem_cons_self) (FrzL.cons ro.frz (FrzL.nil _)) rfl rfl ?_
      repeat' (first
      | (refine j_go ?_; first
        | refine j_op0 rfl rfl rfl rfl ?_ | refine j_off rfl rfl rfl ?_ | (refine j_kGuard rfl ?_; first | (refine (j_if rfl rfl rfl (fun hb => ?_) (fun hb => ?_)) <;> first | (exfalso; omega) | skip)))
      | refine j_nil ?_
      | (refine r_go ?_; first | refine run_ret ?_)
      | refine seqQ_normal ?_)
      case' refine_1 =>
        have hB : Bag (List.replicate n (0 : Int)) := by assumption
        refine j_kCall rfl rfl rfl rfl ?_
        refine jctq [_] (gT (c_bagText (List.replicate n (0 : Int)) hB)) (clo_str _) (fun k hk => by simp only [List.mem_singleton] at hk; subst hk; exact List.mem_cons_self) (FrzL.cons ro.frz (FrzL.nil _)) rfl rfl ?_
        repeat' (first
      | (refine j_go ?_; first
        | refine j_op0 rfl rfl rfl rfl ?_)
      | refine j_nil ?_
      | (refine r_go ?_; first | refine run_ret ?_)
      | refine seqQ_normal ?_)
        exact endD_ret (h1 := [_]) rfl (.cons (.tmp rfl) (.cons (.tmp rfl) .nil)) (Le.refl _) ⟨some bz, n, n, by rw [dec_congr (yes hB)]; rfl, fun q => by rw [← hbt q]; exact ro⟩ (.inl rfl)
      case' refine_2 =>
        exact endD_ret (h1 := [_]) rfl (.cons (.tmp rfl) (.cons (.tmp rfl) .nil)) (Le.refl _) ⟨some bz, n, n, by rw [dec_f (nob (by assumption))]; rfl, fun q => absurd q (nob (by assumption))⟩ (.inl rfl)
end Go.Proofs.YtmcljepicadjfaaGreatDoor

/-
  Stocks read from texts: ReadStock of the reference. No condition but that the text is not longer than a machine holds.
-/
namespace Go.Proofs.YtmcljepicadjfaaGreatDoor
open Go.AI Go.RowKit
set_option maxRecDepth 8000
set_option maxHeartbeats 3200000
def around7 : List UInt8 := [97, 114, 111, 117, 110, 100, 32]
theorem bagK_n {k : Int} {b : List Int} (h : BagK k b) : b.length = k.toNat := by have := h.2; omega
theorem no10b {b : List Int} (h : Bag b) : (10 : UInt8) ∉ bagT b := bagT_no h.2.2 (by decide) (by decide)
def IsStT (p : Passing) (t : List UInt8) : Prop := ∃ s, p.StockOk s ∧ stockT s = t
def rdS (p : Passing) (t : List UInt8) : Stock := ⟨((lnW t).take p.parents.length).map (rdB p.kinds.toNat), rdB p.kinds.toNat (trimP around7 ((lnW t).getD p.parents.length []))⟩
theorem rdB_k {k : Int} {b : List Int} (h : BagK k b) : rdB k.toNat (bagT b) = b := by rw [← bagK_n h]; exact rdB_bag h.1
open Classical in
noncomputable def resReadStock (p : Passing) (t : List UInt8) : Stock := if p.Ok ∧ IsStT p t then rdS p t else ⟨[], []⟩
open Classical in
noncomputable def codeReadStock (p : Passing) (t : List UInt8) : Int := if p.Ok then (if IsStT p t then 0 else 5) else 1
end Go.Proofs.YtmcljepicadjfaaGreatDoor
