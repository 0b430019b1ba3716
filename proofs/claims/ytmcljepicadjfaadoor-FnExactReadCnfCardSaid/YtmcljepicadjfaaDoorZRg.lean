/-
  Formulas read from texts: ReadCnf of the reference. No condition but that the text is not longer than a machine holds.
-/
import Derived.Test.YtmcljepicadjfaaDoorZPS8
import Derived.Test.YtmcljepicadjfaaDoorZVC
namespace Go.Proofs.YtmcljepicadjfaaDoor
open Go.AI Go.RowKit
set_option maxRecDepth 8000
set_option maxHeartbeats 1600000
/-- Where a text is cut so far. -/
structure SplAt (c : UInt8) (s : List UInt8) (i fr : Nat) (ws : List (List UInt8)) : Prop where
  le : fr ≤ i
  il : i ≤ s.length
  eq : spl c (s.take i) = ws ++ [(s.take i).drop fr]
theorem SplAt.nil (c : UInt8) (s : List UInt8) : SplAt c s 0 0 [] := ⟨Nat.le_refl _, Nat.zero_le _, by simp [spl]⟩
theorem SplAt.hit {c : UInt8} {s : List UInt8} {i fr : Nat} {ws : List (List UInt8)} (h : SplAt c s i fr ws) (hi : i < s.length) (hc : s[i] = c) : SplAt c s (i + 1) (i + 1) (ws ++ [(s.take i).drop fr]) := by
  refine ⟨Nat.le_refl _, hi, ?_⟩
  rw [List.take_succ_eq_append_getElem hi, hc, spl_snoc_eq, h.eq]
  congr 2
  rw [List.drop_of_length_le (by rw [List.length_append, List.length_take, List.length_singleton]; omega)]
theorem SplAt.miss {c : UInt8} {s : List UInt8} {i fr : Nat} {ws : List (List UInt8)} (h : SplAt c s i fr ws) (hi : i < s.length) (hc : ¬ s[i] = c) : SplAt c s (i + 1) fr ws := by
  refine ⟨Nat.le_succ_of_le h.le, hi, ?_⟩
  obtain ⟨vs, w, q1, q2⟩ := spl_snoc_ne c s[i] hc (s.take i)
  have q3 := q1.symm.trans h.eq
  have e1 : vs = ws := by
    have := congrArg List.dropLast q3
    simpa using this
  have e2 : w = (s.take i).drop fr := by
    have := congrArg List.getLast? q3
    simpa using this
  rw [List.take_succ_eq_append_getElem hi, q2, e1, e2, List.drop_append_of_le_length (by rw [List.length_take]; have := h.le; omega)]
theorem SplAt.len {c : UInt8} {s : List UInt8} {i fr : Nat} {ws : List (List UInt8)} (h : SplAt c s i fr ws) : ws.length ≤ i := by
  have q := spl_len c (s.take i)
  rw [h.eq, List.length_append, List.length_singleton, List.length_take] at q
  omega
theorem SplAt.all {c : UInt8} {s : List UInt8} {fr : Nat} {ws : List (List UInt8)} (h : SplAt c s s.length fr ws) : spl c s = ws ++ [s.drop fr] := by
  have := h.eq
  rwa [List.take_length] at this

theorem c_l06Lines (s : List UInt8) (hs : s.length ≤ 1048576) : Gives Tryd.prog 9 [.str s] (.tup [.sl ((lnW s).map encW), .raw (.bool (dec (lnE s = [])))]) := by
  refine fn_of_run tyOk ztOk mix Tryd.func9 rfl (by decide) Tryd.ntmps9 (fun w0 h => ?_)
  repeat' (first
      | (refine j_go ?_; first
        | refine j_op0 rfl rfl rfl rfl ?_ | (refine j_kBsl rfl ?_; first | refine j_bs0 rfl rfl rfl rfl rfl rfl ?_))
      | refine j_nil ?_
      | (refine r_go ?_; first | refine run_seq ?_ | refine run_region ?_ | refine run_block ?_)
      | refine seqQ_normal ?_)
  refine run_view (view_none 9 0 rfl) ?_
  refine run_loop (fun x : (Nat × Nat × List (List UInt8)) × Option Nat × Nat => [(0, .str s), (4, .os x.2.1 x.1.2.2.length x.2.2), (5, .int (x.1.2.1 : Int)), (6, .int (x.1.1 : Int))]) (fun x => ⟨x.2.1, 9, x.2.2 * 1, (x.1.2.2.map encW).flatten⟩ :: h) (fun x => SplAt 10 s x.1.1 x.1.2.1 x.1.2.2) (fun x => s.length - x.1.1) ((0, 0, []), none, 0) ⟨rfl, rfl, rfl, rfl, trivial⟩ rfl (SplAt.nil 10 s) (fun ⟨⟨k, fr, ws⟩, ob, cp⟩ sp => ?_)
  dsimp only at sp ⊢
  have kl := sp.il
  have fl := sp.le
  have wl := sp.len
  by_cases hk : k < s.length
  · repeat' (first
      | (refine j_go ?_; first
        | refine j_op0 rfl rfl rfl rfl ?_ | (refine j_kBin rfl ?_; first | refine j_in rfl rfl ⟨by omega, by omega⟩ rfl rfl ?_) | (refine j_kLen rfl ?_; first | refine j_op rfl rfl rfl rfl ?_) | (refine j_kBsl rfl ?_; first | refine j_bsl rfl rfl rfl rfl rfl rfl rfl rfl rfl rfl rfl ?_) | (refine j_kSlice rfl ?_; first | refine j_ss rfl rfl rfl rfl rfl rfl (by omega) rfl rfl ?_) | refine j_si rfl rfl rfl rfl rfl (by omega) rfl rfl ?_)
      | refine j_nil ?_
      | (refine r_go ?_; first | refine run_seq ?_ | refine run_region ?_ | (refine (run_if rfl (fun hb => ?_) (fun hb => ?_)) <;> first | (exfalso; omega) | skip) | refine run_block ?_ | refine run_skip ?_)
      | refine seqQ_normal ?_ | refine blockQ_normal ?_)
    · have hc : s[k] = 10 := by assumption
      refine j_append 0 (g := encW) [(s.take k).drop fr] rfl rfl rfl rfl rfl rfl rfl rfl rfl rfl rfl rfl (fun _ => rfl) (fun _ _ => rfl) ⟨by simp only [List.length_cons, List.length_nil]; omega, by simp only [List.length_cons, List.length_nil]; omega⟩ rfl rfl (fun b' cap' => ?_)
      repeat' (first
      | (refine j_go ?_; first
        | refine j_op0 rfl rfl rfl rfl ?_ | (refine j_kBin rfl ?_; first | refine j_in rfl rfl ⟨by omega, by omega⟩ rfl rfl ?_))
      | refine j_nil ?_
      | (refine r_go ?_; first | refine run_region ?_)
      | refine seqQ_normal ?_ | refine blockQ_normal ?_)
      exact loopQ_next ((k + 1, k + 1, ws ++ [(s.take k).drop fr]), b', cap') (sp.hit hk hc) (by dsimp only; omega) rfl ⟨rfl, rfl, nx _, nx _, trivial⟩
    · have hc : ¬ s[k] = 10 := by assumption
      exact loopQ_next ((k + 1, fr, ws), ob, cp) (sp.miss hk hc) (by dsimp only; omega) rfl ⟨rfl, rfl, rfl, nx _, trivial⟩
  · have hke : k = s.length := by omega
    subst hke
    have hall := sp.all
    have e1 : lnW s = ws := by unfold lnW; rw [hall]; simp
    have e2 : lnE s = s.drop fr := by unfold lnE; simp only [hall]; simp
    have e3 : lnE s = [] ↔ ((fr : Nat) : Int) = (s.length : Int) := by
      rw [e2, List.drop_eq_nil_iff]; omega
    repeat' (first
      | (refine j_go ?_; first
        | refine j_op0 rfl rfl rfl rfl ?_ | (refine j_kLen rfl ?_; first | refine j_op rfl rfl rfl rfl ?_))
      | refine j_nil ?_
      | (refine r_go ?_; first | refine run_seq ?_ | refine run_region ?_ | (refine (run_if rfl (fun hb => ?_) (fun hb => ?_)) <;> first | (exfalso; omega) | skip) | refine run_ret ?_ | refine run_exit ?_)
      | refine seqQ_normal ?_ | refine seqQ_exit ?_ | refine blockQ_eq ?_ | refine loopQ_exit ?_)
    refine end_view (view_freeze (g := encW) (z := 1) (ys := ws) 0 2 rfl rfl rfl (fun _ => rfl) rfl rfl) ?_
    exact end2 rfl rfl (List.Sublist.refl _) (by rw [e1, dec_congr e3]) (.inl rfl)

theorem c_l06Cut (s p : List UInt8) (hs : s.length ≤ 1048576) (hp : p.length ≤ 100) (hp0 : p ≠ []) : Gives Tryd.prog 10 [.str s, .str p] (.tup [.str (cutR p s).1, .str (cutR p s).2.1, .raw (.bool (cutR p s).2.2)]) := by
  refine fn_of_run tyOk ztOk mix Tryd.func10 rfl (by decide) Tryd.ntmps10 (fun w0 h => ?_)
  have hp1 : 0 < p.length := List.length_pos_iff.2 hp0
  repeat' (first
      | (refine j_go ?_; first
        | refine j_op0 rfl rfl rfl rfl ?_)
      | refine j_nil ?_
      | (refine r_go ?_; first | refine run_seq ?_ | refine run_region ?_ | refine run_block ?_)
      | refine seqQ_normal ?_)
  refine run_loop (fun k : Nat => [(0, .str s), (1, .str p), (7, .int (k : Int))]) (fun _ => _) (fun k => k ≤ s.length ∧ (∀ i (_ : i < s.length + 1), i < k → ¬ p.isPrefixOf (s.drop i) = true)) (fun k => s.length - k) 0 ⟨rfl, rfl, rfl, trivial⟩ rfl ⟨Nat.zero_le _, by first | (intros; omega) | (simp; done) | rfl | trivial | exact ⟨by simp [sumF], by intros; omega⟩ | exact ⟨by omega, by simp⟩⟩ (fun k ⟨kl, kp⟩ => ?_)
  by_cases hk : k + p.length ≤ s.length
  · have e0 : (s.take ((k : Int) + (p.length : Int)).toNat).drop (k : Int).toNat = (s.drop k).take p.length := by
      rw [show ((k : Int) + (p.length : Int)).toNat = k + p.length from by omega, Int.toNat_natCast, List.drop_take, Nat.add_sub_cancel_left]
    have e1 : (s.drop k).take p.length = p ↔ p.isPrefixOf (s.drop k) = true := by
      rw [List.isPrefixOf_iff_prefix]
      exact ⟨fun q => by rw [← q]; exact List.take_prefix _ _, fun ⟨t, q⟩ => by rw [← q]; simp⟩
    repeat' (first
      | (refine j_go ?_; first
        | refine j_op0 rfl rfl rfl rfl ?_ | (refine j_kBin rfl ?_; first | refine j_in rfl rfl ⟨by omega, by omega⟩ rfl rfl ?_) | (refine j_kLen rfl ?_; first | refine j_op rfl rfl rfl rfl ?_) | (refine j_kSlice rfl ?_; first | refine j_ss rfl rfl rfl rfl rfl rfl (by omega) rfl rfl ?_))
      | refine j_nil ?_
      | (refine r_go ?_; first | refine run_seq ?_ | refine run_region ?_ | (refine (run_if rfl (fun hb => ?_) (fun hb => ?_)) <;> first | (exfalso; omega) | skip) | refine run_block ?_ | refine run_ret ?_ | refine run_skip ?_ | refine run_regionD (by kernel_rfl) ?_)
      | refine seqQ_normal ?_ | refine seqQ_ret ?_ | refine blockQ_normal ?_ | refine blockQ_ret ?_ | refine loopQ_ret ?_)
    · have q := e1.1 (e0.symm.trans (by assumption))
      rw [cutR_at (by omega) q (fun i h => kp i (by omega) h)]
      exact end_ret (List.Sublist.refl _) (.cons (.tmp rfl) (.cons (.tmp rfl) (.cons (.tmp rfl) .nil))) (by rw [show ((k : Int) + (p.length : Int)).toNat = k + p.length from by omega, Int.toNat_natCast, Int.toNat_natCast, List.take_length]; rfl) (.inl rfl)
    · exact loopQ_nextD (k + 1) ⟨by omega, all_step kp (fun _ q => hb (e0.trans (e1.2 q)))⟩ (by omega) (by first | exact List.Sublist.refl _ | exact sub1 | exact sub2 | exact sub3) ⟨rfl, rfl, nx _, trivial⟩
  · repeat' (first
      | (refine j_go ?_; first
        | refine j_op0 rfl rfl rfl rfl ?_ | (refine j_kBin rfl ?_; first | refine j_in rfl rfl ⟨by omega, by omega⟩ rfl rfl ?_) | (refine j_kLen rfl ?_; first | refine j_op rfl rfl rfl rfl ?_))
      | refine j_nil ?_
      | (refine r_go ?_; first | refine run_seq ?_ | refine run_region ?_ | (refine (run_if rfl (fun hb => ?_) (fun hb => ?_)) <;> first | (exfalso; omega) | skip) | refine run_ret ?_ | refine run_exit ?_)
      | refine seqQ_normal ?_ | refine seqQ_exit ?_ | refine blockQ_eq ?_ | refine loopQ_exit ?_)
    rw [cutR_no (fun i hi q => by
      by_cases hik : i < k
      · exact kp i (by omega) hik q
      · have := (List.isPrefixOf_iff_prefix.1 q).length_le
        rw [List.length_drop] at this
        omega)]
    exact end_ret (List.Sublist.refl _) (.cons (.tmp rfl) (.cons (.tmp rfl) (.cons (.tmp rfl) .nil))) rfl (.inl rfl)

theorem c_l07Words (s : List UInt8) (c : UInt8) (hs : s.length ≤ 1048576) : Gives Tryd.prog 23 [.str s, .u8 c] (.sl ((spl c s).map encW)) := by
  refine fn_of_run tyOk ztOk mix Tryd.func23 rfl (by decide) Tryd.ntmps23 (fun w0 h => ?_)
  repeat' (first
      | (refine j_go ?_; first
        | refine j_op0 rfl rfl rfl rfl ?_ | (refine j_kBsl rfl ?_; first | refine j_bs0 rfl rfl rfl rfl rfl rfl ?_))
      | refine j_nil ?_
      | (refine r_go ?_; first | refine run_seq ?_ | refine run_region ?_ | refine run_block ?_)
      | refine seqQ_normal ?_)
  refine run_view (view_none 9 0 rfl) ?_
  refine run_loop (fun x : (Nat × Nat × List (List UInt8)) × Option Nat × Nat => [(0, .str s), (1, .u8 c), (5, .os x.2.1 x.1.2.2.length x.2.2), (6, .int (x.1.2.1 : Int)), (7, .int (x.1.1 : Int))]) (fun x => ⟨x.2.1, 9, x.2.2 * 1, (x.1.2.2.map encW).flatten⟩ :: h) (fun x => SplAt c s x.1.1 x.1.2.1 x.1.2.2) (fun x => s.length - x.1.1) ((0, 0, []), none, 0) ⟨rfl, rfl, rfl, rfl, rfl, trivial⟩ rfl (SplAt.nil c s) (fun ⟨⟨k, fr, ws⟩, ob, cp⟩ sp => ?_)
  dsimp only at sp ⊢
  have kl := sp.il
  have fl := sp.le
  have wl := sp.len
  by_cases hk : k < s.length
  · repeat' (first
      | (refine j_go ?_; first
        | refine j_op0 rfl rfl rfl rfl ?_ | (refine j_kBin rfl ?_; first | refine j_in rfl rfl ⟨by omega, by omega⟩ rfl rfl ?_) | (refine j_kLen rfl ?_; first | refine j_op rfl rfl rfl rfl ?_) | (refine j_kBsl rfl ?_; first | refine j_bsl rfl rfl rfl rfl rfl rfl rfl rfl rfl rfl rfl ?_) | (refine j_kSlice rfl ?_; first | refine j_ss rfl rfl rfl rfl rfl rfl (by omega) rfl rfl ?_) | refine j_si rfl rfl rfl rfl rfl (by omega) rfl rfl ?_)
      | refine j_nil ?_
      | (refine r_go ?_; first | refine run_seq ?_ | refine run_region ?_ | (refine (run_if rfl (fun hb => ?_) (fun hb => ?_)) <;> first | (exfalso; omega) | skip) | refine run_block ?_ | refine run_skip ?_)
      | refine seqQ_normal ?_ | refine blockQ_normal ?_)
    · have hc : s[k] = c := by assumption
      refine j_append 0 (g := encW) [(s.take k).drop fr] rfl rfl rfl rfl rfl rfl rfl rfl rfl rfl rfl rfl (fun _ => rfl) (fun _ _ => rfl) ⟨by simp only [List.length_cons, List.length_nil]; omega, by simp only [List.length_cons, List.length_nil]; omega⟩ rfl rfl (fun b' cap' => ?_)
      repeat' (first
      | (refine j_go ?_; first
        | refine j_op0 rfl rfl rfl rfl ?_ | (refine j_kBin rfl ?_; first | refine j_in rfl rfl ⟨by omega, by omega⟩ rfl rfl ?_))
      | refine j_nil ?_
      | (refine r_go ?_; first | refine run_region ?_)
      | refine seqQ_normal ?_ | refine blockQ_normal ?_)
      exact loopQ_next ((k + 1, k + 1, ws ++ [(s.take k).drop fr]), b', cap') (sp.hit hk hc) (by dsimp only; omega) rfl ⟨rfl, rfl, rfl, nx _, nx _, trivial⟩
    · have hc : ¬ s[k] = c := by assumption
      exact loopQ_next ((k + 1, fr, ws), ob, cp) (sp.miss hk hc) (by dsimp only; omega) rfl ⟨rfl, rfl, rfl, rfl, nx _, trivial⟩
  · have hke : k = s.length := by omega
    subst hke
    have hall := sp.all
    repeat' (first
      | (refine j_go ?_; first
        | refine j_op0 rfl rfl rfl rfl ?_ | (refine j_kLen rfl ?_; first | refine j_op rfl rfl rfl rfl ?_) | (refine j_kBsl rfl ?_; first | refine j_bsl rfl rfl rfl rfl rfl rfl rfl rfl rfl rfl rfl ?_) | (refine j_kSlice rfl ?_; first | refine j_ss rfl rfl rfl rfl rfl rfl (by omega) rfl rfl ?_))
      | refine j_nil ?_
      | (refine r_go ?_; first | refine run_seq ?_ | refine run_region ?_ | (refine (run_if rfl (fun hb => ?_) (fun hb => ?_)) <;> first | (exfalso; omega) | skip) | refine run_exit ?_)
      | refine seqQ_normal ?_ | refine seqQ_exit ?_ | refine blockQ_eq ?_ | refine loopQ_exit ?_)
    have e0 : (s.take (s.length : Int).toNat).drop (fr : Int).toNat = s.drop fr := by rw [Int.toNat_natCast, Int.toNat_natCast, List.take_length]
    rw [e0]
    refine j_append 0 (g := encW) [s.drop fr] rfl rfl rfl rfl rfl rfl rfl rfl rfl rfl rfl rfl (fun _ => rfl) (fun _ _ => rfl) ⟨by simp only [List.length_cons, List.length_nil]; omega, by simp only [List.length_cons, List.length_nil]; omega⟩ rfl rfl (fun b' cap' => ?_)
    rw [← hall]
    repeat' (first
      | (refine j_go ?_; first
        | refine j_op0 rfl rfl rfl rfl ?_)
      | refine j_nil ?_
      | (refine r_go ?_; first | refine run_ret ?_)
      | refine seqQ_normal ?_)
    refine end_view (view_freeze (g := encW) (z := 1) (ys := spl c s) 0 4 rfl rfl rfl (fun _ => rfl) rfl rfl) ?_
    exact end1 rfl (List.Sublist.refl _) rfl (.inl rfl)

theorem c_l07Number (s : List UInt8) (hs : s.length ≤ 1048576) : Gives Tryd.prog 11 [.str s] (.int (numS s)) := by
  refine fn_of_run tyOk ztOk mix Tryd.func11 rfl (by decide) Tryd.ntmps11 (fun w0 h => ?_)
  repeat' (first
      | (refine j_go ?_; first
        | refine j_op0 rfl rfl rfl rfl ?_ | refine j_off rfl rfl rfl ?_ | (refine j_kLen rfl ?_; first | refine j_op rfl rfl rfl rfl ?_) | (refine j_kGuard rfl ?_; first | (refine (j_if rfl rfl rfl (fun hb => ?_) (fun hb => ?_)) <;> first | (exfalso; omega) | skip)))
      | refine j_nil ?_
      | (refine r_go ?_; first | refine run_seq ?_ | refine run_region ?_ | refine run_cond_t rfl ?_ | (refine (run_if rfl (fun hb => ?_) (fun hb => ?_)) <;> first | (exfalso; omega) | skip) | refine run_block ?_ | refine run_ret ?_ | refine run_skip ?_)
      | refine seqQ_normal ?_ | refine seqQ_ret ?_)
  · exact end1 rfl (List.Sublist.refl _) (by show A.int (-1) = A.int (numS s); unfold numS; rw [if_pos (by omega)]) (.inl rfl)
  · exact end1 rfl (List.Sublist.refl _) (by show A.int (-1) = A.int (numS s); unfold numS; rw [if_pos (by omega)]) (.inl rfl)
  have en : numS s = numA 0 s := by unfold numS; rw [if_neg (by omega)]
  refine run_loop (fun x : Nat × Int => [(0, .str s), (3, .int x.2), (4, .int (x.1 : Int))]) (fun _ => h) (fun x => (x.1 ≤ s.length ∧ 0 ≤ x.2 ∧ x.2 < 10 ^ x.1) ∧ numA x.2 (s.drop x.1) = numA 0 s) (fun x => s.length - x.1) (0, 0) ⟨rfl, rfl, rfl, trivial⟩ rfl ⟨⟨Nat.zero_le _, Int.le_refl _, by decide⟩, rfl⟩ (fun ⟨k, m⟩ ⟨⟨kl, m0, m1⟩, hm⟩ => ?_)
  dsimp only at kl m0 m1 hm ⊢
  by_cases hk : k < s.length
  · have cb : (s[k] - UInt8.ofNat (Int.toNat 48)).toNat < 256 := UInt8.toNat_lt _
    have hd := List.drop_eq_getElem_cons hk
    have m9 : m ≤ 999 := by
      obtain rfl | rfl | rfl | rfl : k = 0 ∨ k = 1 ∨ k = 2 ∨ k = 3 := by omega
      all_goals (simp at m1; omega)
    repeat' (first
      | (refine j_go ?_; first
        | refine j_op0 rfl rfl rfl rfl ?_ | refine j_off rfl rfl rfl ?_ | (refine j_kBin rfl ?_; first | refine j_in rfl rfl ⟨by omega, by omega⟩ rfl rfl ?_) | (refine j_kLen rfl ?_; first | refine j_op rfl rfl rfl rfl ?_) | (refine j_kGuard rfl ?_; first | (refine (j_if rfl rfl rfl (fun hb => ?_) (fun hb => ?_)) <;> first | (exfalso; omega) | skip)) | refine j_si rfl rfl rfl rfl rfl (by omega) rfl rfl ?_)
      | refine j_nil ?_
      | (refine r_go ?_; first | refine run_seq ?_ | refine run_region ?_ | refine run_cond_t rfl ?_ | (refine (run_if rfl (fun hb => ?_) (fun hb => ?_)) <;> first | (exfalso; omega) | skip) | refine run_block ?_ | refine run_ret ?_ | refine run_skip ?_)
      | refine seqQ_normal ?_ | refine seqQ_ret ?_ | refine blockQ_normal ?_ | refine blockQ_ret ?_ | refine loopQ_ret ?_)
    · exact end1 rfl (List.Sublist.refl _) (by
        show A.int (-1) = A.int (numS s)
        rw [en, ← hm, hd, numA, if_pos (by first | exact .inl (by assumption) | exact .inr (by assumption))]) (.inl rfl)
    · exact end1 rfl (List.Sublist.refl _) (by
        show A.int (-1) = A.int (numS s)
        rw [en, ← hm, hd, numA, if_pos (by first | exact .inl (by assumption) | exact .inr (by assumption))]) (.inl rfl)
    have c1 : ¬ s[k] < 48 := by assumption
    have c2 : ¬ 57 < s[k] := by assumption
    have hd9 : (s[k] - UInt8.ofNat (Int.toNat 48)).toNat ≤ 9 := by
      show (s[k] - 48).toNat ≤ 9
      have h2 : 48 ≤ s[k].toNat := UInt8.le_iff_toNat_le.1 (UInt8.not_lt.1 c1)
      have h3 : s[k].toNat ≤ 57 := UInt8.le_iff_toNat_le.1 (UInt8.not_lt.1 c2)
      have : (s[k] - 48).toNat = s[k].toNat - 48 := by rw [UInt8.toNat_sub_of_le _ _ (UInt8.not_lt.1 c1)]; rfl
      omega
    refine loopQ_next (k + 1, m * 10 + ((s[k] - UInt8.ofNat (Int.toNat 48)).toNat : Int)) ⟨⟨by dsimp only; omega, by dsimp only; omega, ?_⟩, ?_⟩ (by dsimp only; omega) rfl ⟨rfl, rfl, nx _, trivial⟩
    · dsimp only
      rw [Int.pow_succ]; omega
    · dsimp only
      rw [← hm, hd, numA, if_neg (by simp only [not_or]; exact ⟨c1, c2⟩)]; rfl
  · have hke : k = s.length := by omega
    subst hke
    rw [List.drop_length, numA] at hm
    repeat' (first
      | (refine j_go ?_; first
        | refine j_op0 rfl rfl rfl rfl ?_ | (refine j_kLen rfl ?_; first | refine j_op rfl rfl rfl rfl ?_))
      | refine j_nil ?_
      | (refine r_go ?_; first | refine run_seq ?_ | refine run_region ?_ | (refine (run_if rfl (fun hb => ?_) (fun hb => ?_)) <;> first | (exfalso; omega) | skip) | refine run_ret ?_ | refine run_exit ?_)
      | refine seqQ_normal ?_ | refine seqQ_exit ?_ | refine blockQ_eq ?_ | refine loopQ_exit ?_)
    exact end1 rfl (List.Sublist.refl _) (by rw [en, hm]) (.inl rfl)

theorem wS_dot {w : List UInt8} (h : w = [46]) : wS w = [] := by unfold wS; rw [if_pos h]
theorem wS_neg {w : List UInt8} (h : ¬ w = [46]) (h2 : w.length = 2) (h3 : w[0]'(by omega) = 45) : wS w = [0 - numS ((w.take (w.length : Int).toNat).drop (1 : Int).toNat)] := by
  unfold wS
  rw [if_neg h, if_pos ⟨h2, by rw [getD_at (by omega)]; exact h3⟩, Int.toNat_natCast, List.take_length]; rfl
theorem wS_pos {w : List UInt8} (h : ¬ w = [46]) (h2 : ¬ w.length = 2 ∨ ∃ q : 0 < w.length, ¬ w[0] = 45) : wS w = [numS w] := by
  unfold wS
  rw [if_neg h, if_neg]
  rintro ⟨q1, q2⟩
  rcases h2 with h2 | ⟨q, h2⟩
  · exact h2 q1
  · rw [getD_at q] at q2; exact h2 q2
def clSk (s : List UInt8) (k : Nat) : List Int := ((((spl 32 s).take k).drop 1).map wS).flatten
theorem clSk_one (s : List UInt8) : clSk s 1 = [] := by
  unfold clSk
  cases spl 32 s with
  | nil => rfl
  | cons x r => simp
theorem clSk_succ {s : List UInt8} {k : Nat} (hk : k < (spl 32 s).length) (h1 : 1 ≤ k) : clSk s (k + 1) = clSk s k ++ wS (spl 32 s)[k] := by
  unfold clSk
  rw [List.take_succ_eq_append_getElem hk, List.drop_append_of_le_length (by rw [List.length_take]; omega), List.map_append, List.flatten_append]; simp
theorem clSk_all (s : List UInt8) : clSk s (spl 32 s).length = clS s := by unfold clSk clS; rw [List.take_length]
theorem wS_len (w : List UInt8) : (wS w).length ≤ 1 := by unfold wS; split <;> (try split) <;> simp
theorem clSk_len (s : List UInt8) : ∀ k, (clSk s k).length ≤ k := fun k => by
  unfold clSk
  have : ∀ l : List (List UInt8), ((l.map wS).flatten).length ≤ l.length := fun l => by
    induction l with
    | nil => simp
    | cons x r ih =>
      have := wS_len x
      simp only [List.map_cons, List.flatten_cons, List.length_append, List.length_cons]; omega
  have q := this (((spl 32 s).take k).drop 1)
  rw [List.length_drop, List.length_take] at q
  omega
theorem c_l07ReadClause (s : List UInt8) (hs : s.length ≤ 1048576) : Gives Tryd.prog 12 [.str s] (.sl ((clS s).map Go.AI.encI)) := by
  refine fn_of_run tyOk ztOk mix Tryd.func12 rfl (by decide) Tryd.ntmps12 (fun w0 h => ?_)
  have sl := spl_len 32 s
  have s0 : 0 < (spl 32 s).length := List.length_pos_iff.2 (spl_ne 32 s)
  repeat' (first
      | (refine j_go ?_; first
        | refine j_op0 rfl rfl rfl rfl ?_ | (refine j_kCall rfl rfl rfl rfl ?_; first | refine jc (c_l07Words s 32 hs) (LeL.refl _) rfl rfl ?_) | (refine j_kBsl rfl ?_; first | refine j_bs0 rfl rfl rfl rfl rfl rfl ?_))
      | refine j_nil ?_
      | (refine r_go ?_; first | refine run_seq ?_ | refine run_region ?_ | refine run_block ?_)
      | refine seqQ_normal ?_)
  refine run_view (view_none 2 0 rfl) ?_
  refine run_loop (fun x : Nat × Option Nat × Nat => [(4, .sl ((spl 32 s).map encW)), (3, .os x.2.1 (clSk s x.1).length x.2.2), (5, .int (x.1 : Int))]) (fun x => ⟨x.2.1, 2, x.2.2 * 1, ((clSk s x.1).map Go.AI.encI).flatten⟩ :: h) (fun x => 1 ≤ x.1 ∧ x.1 ≤ (spl 32 s).length) (fun x => (spl 32 s).length - x.1) (1, none, 0) ⟨rfl, by dsimp only; rw [clSk_one]; rfl, rfl, trivial⟩ (by dsimp only; rw [clSk_one]; rfl) ⟨Nat.le_refl _, s0⟩ (fun ⟨k, ob, cp⟩ ⟨k1, kl⟩ => ?_)
  dsimp only at k1 kl ⊢
  have cl := clSk_len s k
  by_cases hk : k < (spl 32 s).length
  · have es := clSk_succ hk k1
    have wl := (spl_mem 32 s _ (List.getElem_mem hk)).1
    have n1 := numS_in (((spl 32 s)[k].take ((spl 32 s)[k].length : Int).toNat).drop (1 : Int).toNat)
    have n2 := numS_in (spl 32 s)[k]
    repeat' (first
      | (refine j_go ?_; first
        | refine j_op0 rfl rfl rfl rfl ?_ | refine j_off rfl rfl rfl ?_ | (refine j_kIdx rfl ?_; first | refine j_idx rfl rfl rfl rfl rfl (by omega) rfl rfl rfl ?_) | (refine j_kBin rfl ?_; first | refine j_in rfl rfl ⟨by omega, by omega⟩ rfl rfl ?_) | (refine j_kLen rfl ?_; first | refine j_len rfl rfl rfl rfl rfl rfl ?_ | refine j_op rfl rfl rfl rfl ?_) | (refine j_kCall rfl rfl rfl rfl ?_; first | refine jc (c_l07Number _ (by first | omega | (simp only [List.length_drop, List.length_take]; omega))) (LeL.refl _) rfl rfl ?_) | (refine j_kBsl rfl ?_; first | refine j_bsl rfl rfl rfl rfl rfl rfl rfl rfl rfl rfl rfl ?_) | (refine j_kSlice rfl ?_; first | refine j_ss rfl rfl rfl rfl rfl rfl (by omega) rfl rfl ?_) | (refine j_kGuard rfl ?_; first | (refine (j_if rfl rfl rfl (fun hb => ?_) (fun hb => ?_)) <;> first | (exfalso; omega) | skip)) | refine j_siz rfl rfl rfl rfl rfl (by omega) rfl rfl ?_ | refine j_in rfl rfl ⟨by omega, by omega⟩ rfl rfl ?_)
      | refine j_nil ?_
      | (refine r_go ?_; first | refine run_seq ?_ | refine run_region ?_ | refine run_cond_f rfl ?_ | (refine (run_if rfl (fun hb => ?_) (fun hb => ?_)) <;> first | (exfalso; omega) | skip) | refine run_block ?_ | refine run_skip ?_)
      | refine seqQ_normal ?_ | refine blockQ_normal ?_)
    · have h46 : (spl 32 s)[k] = [46] := by assumption
      have e1 : clSk s (k + 1) = clSk s k := by rw [es, wS_dot h46, List.append_nil]
      exact loopQ_next (k + 1, ob, cp) ⟨by dsimp only; omega, by dsimp only; omega⟩ (by dsimp only; omega) (by dsimp only; rw [e1]) ⟨rfl, by dsimp only; rw [e1]; rfl, nx _, trivial⟩
    · have h46 : ¬ (spl 32 s)[k] = [46] := by assumption
      have h2 : (((spl 32 s)[k].length : Nat) : Int) = 2 := by assumption
      refine j_append 0 (g := Go.AI.encI) [0 - numS (((spl 32 s)[k].take ((spl 32 s)[k].length : Int).toNat).drop (1 : Int).toNat)] rfl rfl rfl rfl rfl rfl rfl rfl rfl rfl rfl rfl (fun _ => rfl) (fun _ _ => rfl) ⟨by simp only [List.length_cons, List.length_nil]; omega, by simp only [List.length_cons, List.length_nil]; omega⟩ rfl rfl (fun b' cap' => ?_)
      rw [show clSk s k ++ [0 - numS (((spl 32 s)[k].take ((spl 32 s)[k].length : Int).toNat).drop (1 : Int).toNat)] = clSk s (k + 1) from by rw [es, wS_neg h46 (by omega) (by assumption)]]
      repeat' (first
      | (refine j_go ?_; first
        | refine j_op0 rfl rfl rfl rfl ?_ | (refine j_kBin rfl ?_; first | refine j_in rfl rfl ⟨by omega, by omega⟩ rfl rfl ?_) | refine j_in rfl rfl ⟨by omega, by omega⟩ rfl rfl ?_)
      | refine j_nil ?_
      | (refine r_go ?_; first | refine run_region ?_)
      | refine seqQ_normal ?_ | refine blockQ_normal ?_)
      exact loopQ_next (k + 1, b', cap') ⟨by dsimp only; omega, by dsimp only; omega⟩ (by dsimp only; omega) rfl ⟨rfl, rfl, nx _, trivial⟩
    · have h46 : ¬ (spl 32 s)[k] = [46] := by assumption
      have h2 : (((spl 32 s)[k].length : Nat) : Int) = 2 := by assumption
      refine j_append 0 (g := Go.AI.encI) [numS (spl 32 s)[k]] rfl rfl rfl rfl rfl rfl rfl rfl rfl rfl rfl rfl (fun _ => rfl) (fun _ _ => rfl) ⟨by simp only [List.length_cons, List.length_nil]; omega, by simp only [List.length_cons, List.length_nil]; omega⟩ rfl rfl (fun b' cap' => ?_)
      rw [show clSk s k ++ [numS (spl 32 s)[k]] = clSk s (k + 1) from by rw [es, wS_pos h46 (.inr ⟨by omega, by assumption⟩)]]
      repeat' (first
      | (refine j_go ?_; first
        | refine j_op0 rfl rfl rfl rfl ?_ | (refine j_kBin rfl ?_; first | refine j_in rfl rfl ⟨by omega, by omega⟩ rfl rfl ?_) | refine j_in rfl rfl ⟨by omega, by omega⟩ rfl rfl ?_)
      | refine j_nil ?_
      | (refine r_go ?_; first | refine run_region ?_)
      | refine seqQ_normal ?_ | refine blockQ_normal ?_)
      exact loopQ_next (k + 1, b', cap') ⟨by dsimp only; omega, by dsimp only; omega⟩ (by dsimp only; omega) rfl ⟨rfl, rfl, nx _, trivial⟩
    · have h46 : ¬ (spl 32 s)[k] = [46] := by assumption
      refine j_append 0 (g := Go.AI.encI) [numS (spl 32 s)[k]] rfl rfl rfl rfl rfl rfl rfl rfl rfl rfl rfl rfl (fun _ => rfl) (fun _ _ => rfl) ⟨by simp only [List.length_cons, List.length_nil]; omega, by simp only [List.length_cons, List.length_nil]; omega⟩ rfl rfl (fun b' cap' => ?_)
      rw [show clSk s k ++ [numS (spl 32 s)[k]] = clSk s (k + 1) from by rw [es, wS_pos h46 (.inl (by omega))]]
      repeat' (first
      | (refine j_go ?_; first
        | refine j_op0 rfl rfl rfl rfl ?_ | (refine j_kBin rfl ?_; first | refine j_in rfl rfl ⟨by omega, by omega⟩ rfl rfl ?_) | refine j_in rfl rfl ⟨by omega, by omega⟩ rfl rfl ?_)
      | refine j_nil ?_
      | (refine r_go ?_; first | refine run_region ?_)
      | refine seqQ_normal ?_ | refine blockQ_normal ?_)
      exact loopQ_next (k + 1, b', cap') ⟨by dsimp only; omega, by dsimp only; omega⟩ (by dsimp only; omega) rfl ⟨rfl, rfl, nx _, trivial⟩
  · have hke : k = (spl 32 s).length := by omega
    subst hke
    rw [clSk_all]
    repeat' (first
      | (refine j_go ?_; first
        | refine j_op0 rfl rfl rfl rfl ?_ | (refine j_kLen rfl ?_; first | refine j_len rfl rfl rfl rfl rfl rfl ?_))
      | refine j_nil ?_
      | (refine r_go ?_; first | refine run_seq ?_ | refine run_region ?_ | (refine (run_if rfl (fun hb => ?_) (fun hb => ?_)) <;> first | (exfalso; omega) | skip) | refine run_ret ?_ | refine run_exit ?_)
      | refine seqQ_normal ?_ | refine seqQ_exit ?_ | refine blockQ_eq ?_ | refine loopQ_exit ?_)
    refine end_view (view_freeze (g := Go.AI.encI) (z := 1) (ys := clS s) 0 2 rfl rfl rfl (fun _ => rfl) rfl rfl) ?_
    exact end1 rfl (List.Sublist.refl _) rfl (.inl rfl)
end Go.Proofs.YtmcljepicadjfaaDoor
