/-
  Texts of formulas: CnfText. No condition.
-/
import Derived.Test.YtmcljepicadjfaaDoorZRe
import Derived.Test.YtmcljepicadjfaaDoorZX7a
import Derived.Test.YtmcljepicadjfaaDoorZRg
import Derived.Test.YtmcljepicadjfaaDoorZVC
namespace Go.Proofs.YtmcljepicadjfaaDoor
open Go.AI Go.RowKit
set_option maxRecDepth 8000
set_option maxHeartbeats 1600000
theorem c_l07CnfText (f : Cnf) (hv : f.Valid) : Gives Tryd.prog 14 [.ip (encCnf f)] (.str (cnfT f)) := by
  refine fn_of_run tyOk ztOk mix Tryd.func14 rfl (by decide) Tryd.ntmps14 (fun w0 h => ?_)
  have h1 := hv.1
  have h2 := hv.2.1
  have dl := dcm_len (n := f.vars) ⟨by omega, by omega⟩
  repeat' (first
      | (refine j_go ?_; first
        | refine j_op0 rfl rfl rfl rfl ?_ | (refine j_kBin rfl ?_; first | refine j_cat rfl rfl rfl rfl (by first | omega | (simp only [List.length_append, List.length_cons, List.length_nil]; omega)) rfl rfl ?_) | (refine j_kCall rfl rfl rfl rfl ?_; first | refine jc (c_dec _ ⟨by omega, by omega⟩) (LeL.refl _) rfl rfl ?_))
      | refine j_nil ?_
      | (refine r_go ?_; first | refine run_seq ?_ | refine run_region ?_ | refine run_block ?_)
      | refine seqQ_normal ?_)
  refine run_loop (fun k : Nat => [(0, .ip (encCnf f)), (3, .str ([99, 110, 102, 32] ++ dcm f.vars ++ [10] ++ catK clT f.clauses k)), (4, .int (k : Int))]) (fun _ => _) (fun k => k ≤ f.clauses.length ∧ (True)) (fun k => f.clauses.length - k) 0 ⟨rfl, (by first | rfl | exact si (by first | omega | (simp; done) | (simp [sumF]; done) | (simp; omega)) | exact raw_f (by simp) | exact raw_t (by simp) | exact sa (by first | (rw [catK_zero]; rfl) | (rw [catK_zero, List.append_nil]; rfl) | (rw [catK_zero, List.append_nil]) | (rw [joinK_zero, List.append_nil]; rfl) | (rw [joinK_zero, List.append_nil]) | (simp [catK]; done))), rfl, trivial⟩ rfl ⟨Nat.zero_le _, by first | (intros; omega) | (simp; done) | rfl | trivial | exact ⟨by simp [sumF], by intros; omega⟩ | exact ⟨by omega, by simp⟩⟩ (fun k ⟨kl, kp⟩ => ?_)
  have cl := cls_len hv k
  by_cases hk : k < f.clauses.length
  · have es := catK_succ clT hk
    have hc := cnf_cl hv hk
    repeat' (first
      | (refine j_go ?_; first
        | refine j_op0 rfl rfl rfl rfl ?_ | (refine j_kBin rfl ?_; first | refine j_cat rfl rfl rfl rfl (by first | omega | (simp only [List.length_append, List.length_cons, List.length_nil]; omega)) rfl rfl ?_) | (refine j_kLen rfl ?_; first | refine j_len rfl rfl rfl rfl rfl rfl ?_))
      | refine j_nil ?_
      | (refine r_go ?_; first | refine run_seq ?_ | refine run_region ?_ | (refine (run_if rfl (fun hb => ?_) (fun hb => ?_)) <;> first | (exfalso; omega) | skip) | refine run_block ?_ | refine run_skip ?_)
      | refine seqQ_normal ?_)
    refine run_loop (fun j : Nat => [(0, .ip (encCnf f)), (3, .str ([99, 110, 102, 32] ++ dcm f.vars ++ [10] ++ catK clT f.clauses k ++ [99, 108, 97, 117, 115, 101] ++ catK vT f.clauses[k] j)), (4, .int (k : Int)), (5, .int (j : Int))]) (fun _ => _) (fun j => j ≤ f.clauses[k].length ∧ (True)) (fun j => f.clauses[k].length - j) 0 ⟨rfl, (by first | rfl | exact si (by first | omega | (simp; done) | (simp [sumF]; done) | (simp; omega)) | exact raw_f (by simp) | exact raw_t (by simp) | exact sa (by first | (rw [catK_zero]; rfl) | (rw [catK_zero, List.append_nil]; rfl) | (rw [catK_zero, List.append_nil]) | (rw [joinK_zero, List.append_nil]; rfl) | (rw [joinK_zero, List.append_nil]) | (simp [catK]; done))), rfl, rfl, trivial⟩ rfl ⟨Nat.zero_le _, by first | (intros; omega) | (simp; done) | rfl | trivial | exact ⟨by simp [sumF], by intros; omega⟩ | exact ⟨by omega, by simp⟩⟩ (fun j ⟨jl, jp⟩ => ?_)
    have vl := catK_len (g := vT) (M := 21) (l := f.clauses[k]) (fun x hx => vT_len (hc.2 x hx)) j
    by_cases hj : j < f.clauses[k].length
    · have ev := catK_succ vT hj
      have hx := hc.2 _ (List.getElem_mem hj)
      have d1 := dcm_len (n := f.clauses[k][j]) ⟨by omega, by omega⟩
      have d2 := dcm_len (n := 0 - f.clauses[k][j]) ⟨by omega, by omega⟩
      repeat' (first
      | (refine j_go ?_; first
        | refine j_op0 rfl rfl rfl rfl ?_ | (refine j_kIdx rfl ?_; first | refine j_idx rfl rfl rfl rfl rfl (by omega) rfl rfl rfl ?_) | (refine j_kBin rfl ?_; first | refine j_in rfl rfl ⟨by omega, by omega⟩ rfl rfl ?_ | refine j_cat rfl rfl rfl rfl (by first | omega | (simp only [List.length_append, List.length_cons, List.length_nil]; omega)) rfl rfl ?_) | (refine j_kLen rfl ?_; first | refine j_len rfl rfl rfl rfl rfl rfl ?_) | (refine j_kCall rfl rfl rfl rfl ?_; first | refine jc (c_dec _ ⟨by omega, by omega⟩) (LeL.refl _) rfl rfl ?_) | refine j_in rfl rfl ⟨by omega, by omega⟩ rfl rfl ?_)
      | refine j_nil ?_
      | (refine r_go ?_; first | refine run_seq ?_ | refine run_region ?_ | (refine (run_if rfl (fun hb => ?_) (fun hb => ?_)) <;> first | (exfalso; omega) | skip) | refine run_block ?_ | refine run_skip ?_)
      | refine seqQ_normal ?_ | refine blockQ_normal ?_)
      · exact loopQ_nextD (j + 1) ⟨by omega, trivial⟩ (by omega) (by first | exact List.Sublist.refl _ | exact sub1 | exact sub2 | exact sub3) ⟨rfl, (by first | rfl | (exact sa (by rw [ev]; unfold vT; rw [dcm_neg (n := f.clauses[k][j]) (by assumption)]; simp only [List.append_assoc] <;> rfl)) | exact si (by omega)), rfl, nx _, trivial⟩
      · exact loopQ_nextD (j + 1) ⟨by omega, trivial⟩ (by omega) (by first | exact List.Sublist.refl _ | exact sub1 | exact sub2 | exact sub3) ⟨rfl, (by first | rfl | (exact sa (by rw [ev]; simp only [vT, List.append_assoc] <;> rfl)) | exact si (by omega)), rfl, nx _, trivial⟩
    · have hje : j = f.clauses[k].length := by omega
      subst hje
      repeat' (first
      | (refine j_go ?_; first
        | refine j_op0 rfl rfl rfl rfl ?_ | (refine j_kIdx rfl ?_; first | refine j_idx rfl rfl rfl rfl rfl (by omega) rfl rfl rfl ?_) | (refine j_kBin rfl ?_; first | refine j_in rfl rfl ⟨by omega, by omega⟩ rfl rfl ?_ | refine j_cat rfl rfl rfl rfl (by first | omega | (simp only [List.length_append, List.length_cons, List.length_nil]; omega)) rfl rfl ?_) | (refine j_kLen rfl ?_; first | refine j_len rfl rfl rfl rfl rfl rfl ?_) | refine j_in rfl rfl ⟨by omega, by omega⟩ rfl rfl ?_)
      | refine j_nil ?_
      | (refine r_go ?_; first | refine run_seq ?_ | refine run_region ?_ | (refine (run_if rfl (fun hb => ?_) (fun hb => ?_)) <;> first | (exfalso; omega) | skip) | refine run_exit ?_ | refine run_skip ?_)
      | refine seqQ_normal ?_ | refine seqQ_exit ?_ | refine blockQ_normal ?_ | refine blockQ_eq ?_ | refine loopQ_exit ?_)
      · exact loopQ_nextD (k + 1) ⟨by omega, trivial⟩ (by omega) (by first | exact List.Sublist.refl _ | exact sub1 | exact sub2 | exact sub3) ⟨rfl, (by first | rfl | (exact sa (by rw [es]; unfold clT; rw [if_pos (show f.clauses[k] = [] from List.eq_nil_of_length_eq_zero (by omega))]; simp only [List.append_assoc] <;> rfl)) | exact si (by omega)), nx _, trivial⟩
      · exact loopQ_nextD (k + 1) ⟨by omega, trivial⟩ (by omega) (by first | exact List.Sublist.refl _ | exact sub1 | exact sub2 | exact sub3) ⟨rfl, (by first | rfl | (exact sa (by rw [es]; unfold clT; rw [if_neg (show ¬ f.clauses[k] = [] from fun q => by rw [q] at hb; exact hb rfl)]; simp only [List.append_assoc] <;> rfl)) | exact si (by omega)), nx _, trivial⟩
  · have hke : k = f.clauses.length := by omega
    subst hke
    repeat' (first
      | (refine j_go ?_; first
        | refine j_op0 rfl rfl rfl rfl ?_ | (refine j_kLen rfl ?_; first | refine j_len rfl rfl rfl rfl rfl rfl ?_))
      | refine j_nil ?_
      | (refine r_go ?_; first | refine run_seq ?_ | refine run_region ?_ | (refine (run_if rfl (fun hb => ?_) (fun hb => ?_)) <;> first | (exfalso; omega) | skip) | refine run_ret ?_ | refine run_exit ?_)
      | refine seqQ_normal ?_ | refine seqQ_exit ?_ | refine blockQ_eq ?_ | refine loopQ_exit ?_)
    exact end1 rfl (List.Sublist.refl _) (rfl) (.inl rfl)


theorem c_iCnfText (f : Cnf) : GivesT Tryd.prog KT 19 [.agg (encCnf f)] (.str (txP f.Valid (cnfT f))) := by
  refine fn_of_runT tyOk ztOk mix Tryd.func19 rfl (by decide) Tryd.ntmps19 (fun w0 h hK => ?_)
  repeat' (first
      | (refine j_go ?_; first
        | refine j_op0 rfl rfl rfl rfl ?_ | (refine j_kCall rfl rfl rfl rfl ?_; first | refine jc (c_iValidCnf _) (LeL.refl _) rfl rfl ?_) | refine j_box rfl rfl rfl rfl rfl rfl ?_)
      | refine j_nil ?_
      | (refine r_go ?_; first | refine run_seq ?_ | refine run_region ?_ | (refine (run_ifn rfl (fun hb => ?_) (fun hb => ?_)) <;> first | (exfalso; omega) | skip) | refine run_ret ?_ | refine run_skip ?_)
      | refine seqQ_normal ?_ | refine seqQ_ret ?_)
  · exact end1 rfl (List.Sublist.refl _) (st (by rw [tx_f hb])) (.inl rfl)
  have hv := hb
  have h1 := hv.1
  have h2 := hv.2.1
  have dl := dcm_len (n := f.vars) ⟨by omega, by omega⟩
  repeat' (first
      | (refine j_go ?_; first
        | refine j_op0 rfl rfl rfl rfl ?_ | (refine j_kBin rfl ?_; first | refine j_cat rfl rfl rfl rfl (by first | omega | (simp only [List.length_append, List.length_cons, List.length_nil]; omega)) rfl rfl ?_) | (refine j_kLen rfl ?_; first | refine j_len rfl rfl rfl rfl rfl rfl ?_) | (refine j_kCall rfl rfl rfl rfl ?_; first | refine jcT (by first | exact hK | exact List.mem_cons_of_mem _ hK | exact List.mem_cons_of_mem _ (List.mem_cons_of_mem _ hK) | simp [hK]) (c_decimal _ ⟨by omega, by omega⟩) (LeL.refl _) rfl rfl ?_))
      | refine j_nil ?_
      | (refine r_go ?_; first | refine run_seq ?_ | refine run_region ?_ | refine run_block ?_)
      | refine seqQ_normal ?_)
  refine run_loop (fun k : Nat => [(17, .sl (f.clauses.map (encS Go.AI.encI))), (18, .int f.clauses.length), (3, .str ([99, 110, 102, 32] ++ dcm f.vars ++ [10] ++ catK clT f.clauses k)), (19, .int (k : Int))]) (fun _ => _) (fun k => k ≤ f.clauses.length ∧ (True)) (fun k => f.clauses.length - k) 0 ⟨rfl, rfl, (by first | rfl | exact si (by first | omega | (simp; done) | (simp [sumF]; done) | (simp; omega)) | exact raw_f (by simp) | exact raw_t (by simp) | exact sa (by first | (rw [catK_zero]; rfl) | (rw [catK_zero, List.append_nil]; rfl) | (rw [catK_zero, List.append_nil]) | (rw [joinK_zero, List.append_nil]; rfl) | (rw [joinK_zero, List.append_nil]) | (simp [catK]; done))), rfl, trivial⟩ rfl ⟨Nat.zero_le _, by first | (intros; omega) | (simp; done) | rfl | trivial | exact ⟨by simp [sumF], by intros; omega⟩ | exact ⟨by omega, by simp⟩⟩ (fun k ⟨kl, kp⟩ => ?_)
  have cl := cls_len hv k
  by_cases hk : k < f.clauses.length
  · have es := catK_succ clT hk
    have hc := cnf_cl hv hk
    repeat' (first
      | (refine j_go ?_; first
        | refine j_op0 rfl rfl rfl rfl ?_ | (refine j_kIdx rfl ?_; first | refine j_idx rfl rfl rfl rfl rfl (by omega) rfl rfl rfl ?_) | (refine j_kBin rfl ?_; first | refine j_cat rfl rfl rfl rfl (by first | omega | (simp only [List.length_append, List.length_cons, List.length_nil]; omega)) rfl rfl ?_) | (refine j_kLen rfl ?_; first | refine j_len rfl rfl rfl rfl rfl rfl ?_))
      | refine j_nil ?_
      | (refine r_go ?_; first | refine run_seq ?_ | refine run_region ?_ | (refine (run_if rfl (fun hb => ?_) (fun hb => ?_)) <;> first | (exfalso; omega) | skip) | refine run_block ?_ | refine run_skip ?_)
      | refine seqQ_normal ?_)
    refine run_loop (fun j : Nat => [(5, .sl (f.clauses[k].map Go.AI.encI)), (17, .sl (f.clauses.map (encS Go.AI.encI))), (18, .int f.clauses.length), (19, .int (k : Int)), (25, .sl (f.clauses[k].map Go.AI.encI)), (26, .int f.clauses[k].length), (3, .str ([99, 110, 102, 32] ++ dcm f.vars ++ [10] ++ catK clT f.clauses k ++ [99, 108, 97, 117, 115, 101] ++ catK vT f.clauses[k] j)), (27, .int (j : Int))]) (fun _ => _) (fun j => j ≤ f.clauses[k].length ∧ (True)) (fun j => f.clauses[k].length - j) 0 ⟨rfl, rfl, rfl, rfl, rfl, rfl, (by first | rfl | exact si (by first | omega | (simp; done) | (simp [sumF]; done) | (simp; omega)) | exact raw_f (by simp) | exact raw_t (by simp) | exact sa (by first | (rw [catK_zero]; rfl) | (rw [catK_zero, List.append_nil]; rfl) | (rw [catK_zero, List.append_nil]) | (rw [joinK_zero, List.append_nil]; rfl) | (rw [joinK_zero, List.append_nil]) | (simp [catK]; done))), rfl, trivial⟩ rfl ⟨Nat.zero_le _, by first | (intros; omega) | (simp; done) | rfl | trivial | exact ⟨by simp [sumF], by intros; omega⟩ | exact ⟨by omega, by simp⟩⟩ (fun j ⟨jl, jp⟩ => ?_)
    have vl := catK_len (g := vT) (M := 21) (l := f.clauses[k]) (fun x hx => vT_len (hc.2 x hx)) j
    by_cases hj : j < f.clauses[k].length
    · have ev := catK_succ vT hj
      have hx := hc.2 _ (List.getElem_mem hj)
      have d1 := dcm_len (n := f.clauses[k][j]) ⟨by omega, by omega⟩
      repeat' (first
      | (refine j_go ?_; first
        | refine j_op0 rfl rfl rfl rfl ?_ | (refine j_kIdx rfl ?_; first | refine j_idx rfl rfl rfl rfl rfl (by omega) rfl rfl rfl ?_) | (refine j_kBin rfl ?_; first | refine j_in rfl rfl ⟨by omega, by omega⟩ rfl rfl ?_ | refine j_cat rfl rfl rfl rfl (by first | omega | (simp only [List.length_append, List.length_cons, List.length_nil]; omega)) rfl rfl ?_) | (refine j_kCall rfl rfl rfl rfl ?_; first | refine jcT (by first | exact hK | exact List.mem_cons_of_mem _ hK | exact List.mem_cons_of_mem _ (List.mem_cons_of_mem _ hK) | simp [hK]) (c_decimal _ ⟨by omega, by omega⟩) (LeL.refl _) rfl rfl ?_))
      | refine j_nil ?_
      | (refine r_go ?_; first | refine run_seq ?_ | refine run_region ?_ | (refine (run_if rfl (fun hb => ?_) (fun hb => ?_)) <;> first | (exfalso; omega) | skip) | refine run_block ?_ | refine run_skip ?_)
      | refine seqQ_normal ?_ | refine blockQ_normal ?_)
      exact loopQ_nextD (j + 1) ⟨by omega, trivial⟩ (by omega) (by first | exact List.Sublist.refl _ | exact sub1 | exact sub2 | exact sub3) ⟨rfl, rfl, rfl, rfl, rfl, rfl, (by first | rfl | (exact sa (by rw [ev]; simp only [vT, List.append_assoc] <;> rfl)) | exact si (by omega)), nx _, trivial⟩
    · have hje : j = f.clauses[k].length := by omega
      subst hje
      repeat' (first
      | (refine j_go ?_; first
        | refine j_op0 rfl rfl rfl rfl ?_ | (refine j_kBin rfl ?_; first | refine j_in rfl rfl ⟨by omega, by omega⟩ rfl rfl ?_ | refine j_cat rfl rfl rfl rfl (by first | omega | (simp only [List.length_append, List.length_cons, List.length_nil]; omega)) rfl rfl ?_) | (refine j_kLen rfl ?_; first | refine j_len rfl rfl rfl rfl rfl rfl ?_))
      | refine j_nil ?_
      | (refine r_go ?_; first | refine run_seq ?_ | refine run_region ?_ | (refine (run_if rfl (fun hb => ?_) (fun hb => ?_)) <;> first | (exfalso; omega) | skip) | refine run_exit ?_ | refine run_skip ?_)
      | refine seqQ_normal ?_ | refine seqQ_exit ?_ | refine blockQ_normal ?_ | refine blockQ_eq ?_ | refine loopQ_exit ?_)
      · exact loopQ_nextD (k + 1) ⟨by omega, trivial⟩ (by omega) (by first | exact List.Sublist.refl _ | exact sub1 | exact sub2 | exact sub3) ⟨rfl, rfl, (by first | rfl | (exact sa (by rw [es]; unfold clT; rw [if_pos (show f.clauses[k] = [] from List.eq_nil_of_length_eq_zero (by omega))]; simp only [List.append_assoc] <;> rfl)) | exact si (by omega)), nx _, trivial⟩
      · exact loopQ_nextD (k + 1) ⟨by omega, trivial⟩ (by omega) (by first | exact List.Sublist.refl _ | exact sub1 | exact sub2 | exact sub3) ⟨rfl, rfl, (by first | rfl | (exact sa (by rw [es]; unfold clT; rw [if_neg (show ¬ f.clauses[k] = [] from fun q => by rw [q] at hb; exact hb rfl)]; simp only [List.append_assoc] <;> rfl)) | exact si (by omega)), nx _, trivial⟩
  · have hke : k = f.clauses.length := by omega
    subst hke
    repeat' (first
      | (refine j_go ?_; first
        | refine j_op0 rfl rfl rfl rfl ?_)
      | refine j_nil ?_
      | (refine r_go ?_; first | refine run_seq ?_ | refine run_region ?_ | (refine (run_if rfl (fun hb => ?_) (fun hb => ?_)) <;> first | (exfalso; omega) | skip) | refine run_ret ?_ | refine run_exit ?_)
      | refine seqQ_normal ?_ | refine seqQ_exit ?_ | refine blockQ_eq ?_ | refine loopQ_exit ?_)
    exact end1 rfl (List.Sublist.refl _) (st (by rw [tx_t hv]; rfl)) (.inl rfl)

end Go.Proofs.YtmcljepicadjfaaDoor

/-
  Formulas read from texts: ReadCnf of both sides. No condition but that the text is not longer than a machine holds.
-/
namespace Go.Proofs.YtmcljepicadjfaaDoor
open Go.AI Go.RowKit
set_option maxRecDepth 8000
set_option maxHeartbeats 1600000
theorem td_succ {α : Type} {l : List α} {k : Nat} (hk : k < l.length) (h1 : 1 ≤ k) : (l.take (k + 1)).drop 1 = (l.take k).drop 1 ++ [l[k]] := by
  rw [List.take_succ_eq_append_getElem hk, List.drop_append_of_le_length (by rw [List.length_take]; omega)]
theorem td_all {α : Type} {x : α} {l : List α} : ((x :: l).take (x :: l).length).drop 1 = l := by rw [List.take_length]; rfl
theorem td_len {α : Type} {l : List α} {k : Nat} : ((l.take k).drop 1).length ≤ k := by rw [List.length_drop, List.length_take]; omega
abbrev cnB (b : Nat) (cs : List A) : Blk := ⟨some b, 24, 2, cs⟩
abbrev llB (b : Option Nat) (cap : Nat) (L : List (List Int)) : Blk := ⟨b, 36, cap * 1, (L.map (encS Go.AI.encI)).flatten⟩
theorem candS_cons {s l0 : List UInt8} {ls : List (List UInt8)} (el : lnW s = l0 :: ls) : candS s = ⟨numS (cutR cnf4 l0).2.1, ls.map clS⟩ := by unfold candS; rw [el]; rfl
theorem candI_cons {s l0 : List UInt8} {ls : List (List UInt8)} (el : lnW s = l0 :: ls) : candI s = ⟨pIv (trimP cnf4 l0), ls.map clI⟩ := by unfold candI; rw [el]; rfl
theorem c_sReadCnf (s : List UInt8) (hs : s.length ≤ 1048576) : Gives Tryd.prog 4 [.str s] (.tup [.agg (encCnf (resReadCnf s)), .int (codeReadCnf s)]) := by
  refine fn_of_run tyOk ztOk mix Tryd.func4 rfl (by decide) Tryd.ntmps4 (fun w0 h => ?_)
  have cL := c_l06Lines s hs
  have no : ¬ IsCnfT s → ∀ e h1, endQ ty Tryd.f4.results (.tup [.agg [.int 0, .sl []], .int 5]) h .ret e h1 → endQ ty Tryd.f4.results (.tup [.agg (encCnf (resReadCnf s)), .int (codeReadCnf s)]) h .ret e h1 := fun hn e h1 q => by
    rw [(read_not hn).1, (read_not hn).2]; exact q
  have fin : ∀ (b : Nat) (e : Env) (h1 : Heap) (T r : Nat), lk e 2 = some (.op (some b) 0) → lk e 3 = some (.int 5) → h1 = ⟨some b, T, r, [.int 0, .os none 0 0]⟩ :: h → endQ ty Tryd.f4.results (.tup [.agg [.int 0, .sl []], .int 5]) h .ret e h1 := fun b e h1 T r q1 q2 q3 => by
    subst q3
    exact end_view (view_freezeP 0 2 q1 rfl) (end_le (List.Sublist.refl _) (vs := [_, _]) (.cons (.cellI rfl rfl) (.cons (.tmp (by rw [lk_cons_ne _ _ (by decide)]; exact q2)) .nil)) (Le.tup (LeL.cons (Le.agg (LeL.cons (Le.refl _) (LeL.cons (Le.nil 0) LeL.nil))) (LeL.cons (Le.refl _) LeL.nil))) (.inl rfl))
  have lw := lnW_mem s
  cases el : lnW s with
  | nil =>
    rw [el] at cL
    repeat' (first
      | (refine j_go ?_; first
        | refine j_op0 rfl rfl rfl rfl ?_ | refine j_off rfl rfl rfl ?_ | (refine j_kIdx rfl ?_; first | refine j_idxz rfl rfl rfl rfl rfl ⟨by omega, by omega⟩ rfl rfl rfl ?_) | (refine j_kLen rfl ?_; first | refine j_len rfl rfl rfl rfl rfl rfl ?_) | (refine j_kCall rfl rfl rfl rfl ?_; first | refine jc (cL) (LeL.refl _) rfl rfl ?_) | (refine j_kStore rfl ?_; first | refine j_storeN 0 rfl rfl rfl rfl rfl rfl rfl rfl rfl rfl rfl ?_) | (refine j_kGuard rfl ?_; first | (refine (j_if rfl rfl rfl (fun hb => ?_) (fun hb => ?_)) <;> first | (exfalso; omega) | skip) | (refine (j_ifn rfl rfl rfl (fun hb => ?_) (fun hb => ?_)) <;> first | (exfalso; omega) | skip)) | refine j_build rfl rfl rfl rfl rfl rfl rfl ?_ | refine j_alloc rfl rfl rfl rfl rfl (fun _ => ?_))
      | refine j_nil ?_
      | (refine r_go ?_; first | refine run_seq ?_ | refine run_region ?_ | refine run_cond_t rfl ?_ | (refine (run_if rfl (fun hb => ?_) (fun hb => ?_)) <;> first | (exfalso; omega) | skip) | refine run_ret ?_ | refine run_skip ?_)
      | refine seqQ_normal ?_ | refine seqQ_ret ?_)
    · refine no (fun q => by have := (isCnfT_ln q).2.1; rw [el] at this; simp at this) _ _ ?_; exact fin _ _ _ _ _ rfl rfl rfl
    · refine no (fun q => by have := (isCnfT_ln q).2.1; rw [el] at this; simp at this) _ _ ?_; exact fin _ _ _ _ _ rfl rfl rfl
    all_goals exact absurd (show ((([] : List (List UInt8)).length : Nat) : Int) < 1 by decide) (by assumption)
  | cons l0 ls =>
    rw [el] at cL
    have l0l := (lw l0 (by rw [el]; simp)).1
    have rl := (cutR_len cnf4 l0).2
    repeat' (first
      | (refine j_go ?_; first
        | refine j_op0 rfl rfl rfl rfl ?_ | refine j_off rfl rfl rfl ?_ | (refine j_kIdx rfl ?_; first | refine j_idxz rfl rfl rfl rfl rfl ⟨by omega, by omega⟩ rfl rfl rfl ?_) | (refine j_kLen rfl ?_; first | refine j_len rfl rfl rfl rfl rfl rfl ?_) | (refine j_kCall rfl rfl rfl rfl ?_; first | refine jc (cL) (LeL.refl _) rfl rfl ?_ | refine jc (c_l06Cut l0 cnf4 (by omega) (by decide) (by decide)) (LeL.refl _) rfl rfl ?_ | refine jc (c_l07Number (cutR cnf4 l0).2.1 (by omega)) (LeL.refl _) rfl rfl ?_) | (refine j_kStore rfl ?_; first | refine j_storeN 0 rfl rfl rfl rfl rfl rfl rfl rfl rfl rfl rfl ?_) | (refine j_kGuard rfl ?_; first | (refine (j_if rfl rfl rfl (fun hb => ?_) (fun hb => ?_)) <;> first | (exfalso; omega) | skip) | (refine (j_ifn rfl rfl rfl (fun hb => ?_) (fun hb => ?_)) <;> first | (exfalso; omega) | skip)) | refine j_build rfl rfl rfl rfl rfl rfl rfl ?_ | refine j_alloc rfl rfl rfl rfl rfl (fun _ => ?_))
      | refine j_nil ?_
      | (refine r_go ?_; first | refine run_seq ?_ | refine run_region ?_ | refine run_cond_t rfl ?_ | (refine (run_if rfl (fun hb => ?_) (fun hb => ?_)) <;> first | (exfalso; omega) | skip) | refine run_block ?_ | refine run_ret ?_ | refine run_skip ?_)
      | refine seqQ_normal ?_ | refine seqQ_ret ?_)
    · refine no (fun q => absurd (isCnfT_ln q).1 (by assumption)) _ _ ?_; exact fin _ _ _ _ _ rfl rfl rfl
    · exact absurd hb (by simp only [List.length_cons]; omega)
    · refine no (fun q => by have := (isCnfT_ln q).2.2; rw [el] at this; omega) _ _ ?_; exact fin _ _ _ _ _ rfl rfl rfl
    rename_i b2 _ _ b9
    refine run_view (view_none 36 0 rfl) ?_
    refine run_loop (fun x : Nat × Option Nat × Nat => [(0, .str s), (2, .op (some b2) 0), (4, .sl ((l0 :: ls).map encW)), (9, .op (some b9) 0), (10, .int (x.1 : Int))])
      (fun x => llB x.2.1 x.2.2 ((((l0 :: ls).take x.1).drop 1).map clS) :: cnB b9 [.int (numS (cutR cnf4 l0).2.1), .os x.2.1 ((((l0 :: ls).take x.1).drop 1).map clS).length x.2.2] :: cnB b2 [.int 0, .os none 0 0] :: h)
      (fun x => 1 ≤ x.1 ∧ x.1 ≤ (l0 :: ls).length) (fun x => (l0 :: ls).length - x.1) (1, none, 0) ⟨rfl, rfl, rfl, rfl, rfl, trivial⟩ rfl ⟨Nat.le_refl _, by simp⟩ (fun ⟨k, ob, cp⟩ ⟨k1, kl⟩ => ?_)
    dsimp only at k1 kl ⊢
    by_cases hk : k < (l0 :: ls).length
    · have wl := (lw (l0 :: ls)[k] (by rw [el]; exact List.getElem_mem hk)).1
      have ml : ((((l0 :: ls).take k).drop 1).map clS).length ≤ k := by rw [List.length_map]; exact td_len
      repeat' (first
      | (refine j_go ?_; first
        | refine j_op0 rfl rfl rfl rfl ?_ | (refine j_kLen rfl ?_; first | refine j_len rfl rfl rfl rfl rfl rfl ?_))
      | refine j_nil ?_
      | (refine j_goO ?_; first
        | refine j_op0O rfl rfl rfl rfl ?_ | (refine j_kIdxO rfl ?_; first | refine j_idxO rfl rfl rfl rfl rfl (by omega) rfl rfl rfl ?_) | (refine j_kCallO rfl rfl rfl rfl ?_; first | refine jcO (c_l07ReadClause (l0 :: ls)[k] (by omega)) (LeL.refl _) rfl rfl ?_) | (refine j_kLoadO rfl ?_; first | refine j_mloadO 1 rfl rfl rfl rfl rfl rfl rfl rfl ?_) | (refine j_kBslO rfl ?_; first | refine j_bslO rfl rfl rfl rfl rfl rfl rfl rfl rfl rfl rfl ?_))
      | (refine r_go ?_; first | refine run_seq ?_ | refine run_region ?_ | (refine (run_if rfl (fun hb => ?_) (fun hb => ?_)) <;> first | (exfalso; omega) | skip) | refine run_block ?_ | refine run_skip ?_ | refine run_opn 9 [⟨0, true, false, 0⟩, ⟨1, true, false, 0⟩, ⟨2, true, false, 0⟩, ⟨3, true, false, 0⟩, ⟨4, true, false, 0⟩, ⟨5, true, false, 0⟩, ⟨6, true, false, 0⟩, ⟨7, true, false, 0⟩, ⟨8, false, true, 0⟩, ⟨9, true, false, 0⟩, ⟨10, false, true, 0⟩] rfl rfl (by kernel_rfl) ?_)
      | refine seqQ_normal ?_)
      refine j_appendO 0 (g := encS Go.AI.encI) [clS (l0 :: ls)[k]] rfl (fun _ hk => nomatch hk) rfl rfl rfl rfl rfl rfl rfl rfl rfl rfl rfl rfl (fun _ => rfl) (fun _ _ => rfl) ⟨by simp only [List.length_cons, List.length_nil] at *; omega, by simp only [List.length_cons, List.length_nil] at *; omega⟩ rfl rfl (fun b' cap' => ?_)
      rw [show (((l0 :: ls).take k).drop 1).map clS ++ [clS (l0 :: ls)[k]] = (((l0 :: ls).take (k + 1)).drop 1).map clS from by rw [td_succ hk k1, List.map_append]; rfl]
      repeat' (first
      | (refine j_go ?_; first
        | refine j_op0 rfl rfl rfl rfl ?_ | (refine j_kBin rfl ?_; first | refine j_in rfl rfl ⟨by omega, by omega⟩ rfl rfl ?_))
      | refine j_nil ?_
      | (refine j_goO ?_; first
        | refine j_op0O rfl rfl rfl rfl ?_ | (refine j_kStoreO rfl ?_; first | refine j_storeO 1 rfl rfl rfl rfl rfl rfl rfl rfl rfl rfl rfl rfl (by first | (intro _ hk; exact absurd hk List.not_mem_nil) | (intro k hk; simp at hk ⊢; try simp [hk])) ?_))
      | refine j_nilO ?_
      | (refine r_go ?_; first | refine run_region ?_)
      | refine seqQ_normal ?_ | refine blockQ_normal ?_)
      exact loopQ_next (k + 1, b', cap') ⟨by dsimp only; omega, by dsimp only; omega⟩ (by dsimp only; omega) rfl ⟨rfl, rfl, rfl, rfl, nx _, trivial⟩
    · have hke : k = (l0 :: ls).length := by omega
      subst hke
      rw [td_all]
      repeat' (first
      | (refine j_go ?_; first
        | refine j_op0 rfl rfl rfl rfl ?_ | (refine j_kLen rfl ?_; first | refine j_len rfl rfl rfl rfl rfl rfl ?_))
      | refine j_nil ?_
      | (refine r_go ?_; first | refine run_seq ?_ | refine run_region ?_ | (refine (run_if rfl (fun hb => ?_) (fun hb => ?_)) <;> first | (exfalso; omega) | skip) | refine run_exit ?_)
      | refine seqQ_normal ?_ | refine seqQ_exit ?_ | refine blockQ_eq ?_ | refine loopQ_exit ?_)
      refine j_view (view_cellF (k := 1) (b := some b9) (T := 24) (room := 2) (cs := [.int (numS (cutR cnf4 l0).2.1), .os ob (ls.map clS).length cp]) (h1 := [llB ob cp (ls.map clS)]) (F := cnB b2 [.int 0, .os none 0 0] :: h) (List.Perm.swap _ _ _) rfl (FrzF.flat (g := encS Go.AI.encI) (ys := ls.map clS) (z := 1) rfl rfl (fun _ => rfl) rfl rfl)) ?_
      refine j_view (view_freezeP 0 9 rfl rfl) ?_
      have ec := candS_cons el
      repeat' (first
      | (refine j_go ?_; first
        | refine j_op0 rfl rfl rfl rfl ?_ | refine j_off rfl rfl rfl ?_ | (refine j_kCall rfl rfl rfl rfl ?_; first | refine jc (c_l07Cnf ⟨numS (cutR cnf4 l0).2.1, ls.map clS⟩) (LeL.refl _) rfl rfl ?_ | refine jc (c_l07CnfText ⟨numS (cutR cnf4 l0).2.1, ls.map clS⟩ (by assumption)) (LeL.refl _) rfl rfl ?_) | (refine j_kStore rfl ?_; first | refine j_storeN 0 rfl rfl rfl rfl rfl rfl rfl rfl rfl rfl rfl ?_) | (refine j_kGuard rfl ?_; first | (refine (j_ifn rfl rfl rfl (fun hb => ?_) (fun hb => ?_)) <;> first | (exfalso; omega) | skip)) | refine j_build rfl rfl rfl rfl rfl rfl rfl ?_)
      | refine j_nil ?_
      | (refine r_go ?_; first | refine run_seq ?_ | refine run_region ?_ | refine run_cond_t rfl ?_ | (refine (run_ifn rfl (fun hb => ?_) (fun hb => ?_)) <;> first | (exfalso; omega) | skip) | refine run_ret ?_ | refine run_skip ?_)
      | refine seqQ_normal ?_ | refine seqQ_ret ?_)
      · refine no (readS_no (.inl (by rw [ec]; assumption))) _ _ ?_; exact fin _ _ _ _ _ rfl rfl rfl
      · refine no (readS_no (.inr (by rw [ec]; assumption))) _ _ ?_; exact fin _ _ _ _ _ rfl rfl rfl
      · have hv : (⟨numS (cutR cnf4 l0).2.1, ls.map clS⟩ : Cnf).Valid := by assumption
        have ht : cnfT ⟨numS (cutR cnf4 l0).2.1, ls.map clS⟩ = s := by assumption
        rw [← ec] at hv ht
        obtain ⟨q1, q2⟩ := readS_ok hv ht
        rw [read_yes q1, q2, ec]
        exact end_view (view_freezeP 0 2 rfl rfl) (end_le (List.Sublist.refl _) (vs := [_, _]) (.cons (.cellI rfl rfl) (.cons (.tmp rfl) .nil)) (Le.refl _) (.inl rfl))
end Go.Proofs.YtmcljepicadjfaaDoor
