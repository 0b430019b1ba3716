/-
  Texts of formulas: CnfText. No condition.
-/
import Derived.Test.YtdlhajkidekjaaaDoorZX0
import Derived.Test.YtdlhajkidekjaaaDoorZS7a
namespace Go.Proofs.YtdlhajkidekjaaaDoor
open Go.AI Go.RowKit
set_option maxRecDepth 8000
set_option maxHeartbeats 1600000
open Classical in
/-- A text where a condition holds, else the empty one. -/
noncomputable def txP (p : Prop) (l : List UInt8) : List UInt8 := if p then l else []
theorem tx_t {p : Prop} (h : p) (l : List UInt8) : txP p l = l := by unfold txP; rw [if_pos h]
theorem tx_f {p : Prop} (h : ¬p) (l : List UInt8) : txP p l = [] := by unfold txP; rw [if_neg h]
def vT (v : Int) : List UInt8 := [32] ++ dcm v
def clT (c : List Int) : List UInt8 := [99, 108, 97, 117, 115, 101] ++ catK vT c c.length ++ (if c = [] then [32, 46] else []) ++ [10]
def cnfT (f : Cnf) : List UInt8 := [99, 110, 102, 32] ++ dcm f.vars ++ [10] ++ catK clT f.clauses f.clauses.length
theorem rises_ge {lo hi : Int} {c : List Int} (h : Rises lo hi c) : ∀ i (hi : i < c.length), lo + (i : Int) ≤ c[i]
  | 0, hi => by have := (h 0 hi).1; omega
  | i + 1, hi => by
    have h1 := rises_ge h i (by omega)
    have h2 := (h (i + 1) hi).2 (by omega)
    simp only [Nat.add_sub_cancel] at h2
    omega
theorem rises_len {lo hi : Int} {c : List Int} (h : Rises lo hi c) (h0 : lo ≤ hi) : (c.length : Int) ≤ hi - lo + 1 := by
  by_cases q : c.length = 0
  · omega
  · have h1 := rises_ge h (c.length - 1) (by omega)
    have h2 := (h (c.length - 1) (by omega)).1
    omega
theorem cnf_cl {f : Cnf} (hv : f.Valid) {k : Nat} (hk : k < f.clauses.length) : f.clauses[k].length ≤ 9 ∧ ∀ x ∈ f.clauses[k], -4 ≤ x ∧ x ≤ 4 := by
  have h1 := (hv.2.2 _ (List.getElem_mem hk)).1
  have h2 := rises_len h1 (by have := hv.1; omega)
  have h3 := hv.1
  refine ⟨by omega, fun x hx => ?_⟩
  obtain ⟨i, hi, rfl⟩ := List.getElem_of_mem hx
  have := (h1 i hi).1
  omega
theorem vT_len {v : Int} (h : -4 ≤ v ∧ v ≤ 4) : (vT v).length ≤ 21 := by
  unfold vT
  have := dcm_len (n := v) ⟨by omega, by omega⟩
  simp; omega
theorem clT_len {c : List Int} (h : c.length ≤ 9) (h2 : ∀ x ∈ c, -4 ≤ x ∧ x ≤ 4) : (clT c).length ≤ 200 := by
  have h3 := catK_len (g := vT) (M := 21) (l := c) (fun x hx => vT_len (h2 x hx)) c.length
  unfold clT
  split <;> simp only [List.length_append, List.length_cons, List.length_nil] <;> omega
theorem cls_len {f : Cnf} (hv : f.Valid) (k : Nat) : (catK clT f.clauses k).length ≤ 1200 := by
  have h1 := catK_len (g := clT) (M := 200) (l := f.clauses) (fun x hx => by
    obtain ⟨i, hi, rfl⟩ := List.getElem_of_mem hx
    have := cnf_cl hv hi
    exact clT_len this.1 this.2) k
  have := hv.2.1
  omega

theorem c_l07CnfText (f : Cnf) (hv : f.Valid) : Gives Tryd.prog 50 [.ip (encCnf f)] (.str (cnfT f)) := by
  refine fn_of_run tyOk ztOk mix Tryd.func50 rfl (by decide) Tryd.ntmps50 (fun w0 h => ?_)
  have h1 := hv.1
  have h2 := hv.2.1
  have dl := dcm_len (n := f.vars) ⟨by omega, by omega⟩
  repeat' (first
      | (refine j_go ?_; first
        | refine j_op0 rfl rfl rfl rfl ?_ | (refine j_kIdx rfl ?_; first | refine j_idx rfl rfl rfl rfl rfl (by omega) rfl rfl rfl ?_ | refine j_idxz rfl rfl rfl rfl rfl ⟨by omega, by omega⟩ rfl rfl rfl ?_) | (refine j_kBin rfl ?_; first | refine j_in rfl rfl ⟨by omega, by omega⟩ rfl rfl ?_ | refine j_cat rfl rfl rfl rfl (by first | omega | (simp only [List.length_append, List.length_cons, List.length_nil]; omega)) rfl rfl ?_) | (refine j_kLen rfl ?_; first | refine j_len rfl rfl rfl rfl rfl rfl ?_ | refine j_op rfl rfl rfl rfl ?_) | (refine j_kCall rfl rfl rfl rfl ?_; first | refine jc (c_dec _ ⟨by omega, by omega⟩) (LeL.refl _) rfl rfl ?_ | refine jc (c_dec _ ⟨by omega, by omega⟩) (by repeat' (first | exact LeL.nil | refine LeL.cons ?_ ?_ | exact Le.refl _ | exact Le.nilm _ _ | exact Le.nil _ | refine Le.agg ?_)) rfl rfl ?_) | refine j_in rfl rfl ⟨by omega, by omega⟩ rfl rfl ?_)
      | refine j_nil ?_
      | (refine r_go ?_; first | refine run_seq ?_ | refine run_region ?_ | refine run_cond_t rfl ?_ | refine run_cond_f rfl ?_ | (refine (run_if rfl (fun hb => ?_) (fun hb => ?_)) <;> first | (exfalso; omega) | skip) | (refine (run_ifn rfl (fun hb => ?_) (fun hb => ?_)) <;> first | (exfalso; omega) | skip) | refine run_block ?_ | refine run_ret ?_ | refine run_exit ?_ | refine run_skip ?_ | refine run_regionD (by kernel_rfl) ?_ | refine run_condn rfl (fun hb => ?_) (fun hb => ?_) | refine run_cond rfl (fun hb => ?_) (fun hb => ?_))
      | refine seqQ_normal ?_ | refine seqQ_ret ?_ | refine seqQ_exit ?_ | refine blockQ_normal ?_ | refine blockQ_ret ?_ | refine blockQ_eq ?_ | refine blockQ_ne rfl ?_ | refine loopQ_ret ?_ | refine loopQ_exit ?_)
  refine run_loop (fun k : Nat => [(0, .ip (encCnf f)), (3, .str ([99, 110, 102, 32] ++ dcm f.vars ++ [10] ++ catK clT f.clauses k)), (4, .int (k : Int))]) (fun _ => _) (fun k => k ≤ f.clauses.length ∧ (True)) (fun k => f.clauses.length - k) 0 ⟨rfl, (by first | rfl | exact si (by first | omega | (simp; done) | (simp [sumF]; done) | (simp; omega)) | exact raw_f (by simp) | exact raw_t (by simp) | exact sa (by first | (rw [catK_zero]; rfl) | (rw [catK_zero, List.append_nil]; rfl) | (rw [catK_zero, List.append_nil]) | (rw [joinK_zero, List.append_nil]; rfl) | (rw [joinK_zero, List.append_nil]) | (simp [catK]; done))), rfl, trivial⟩ rfl ⟨Nat.zero_le _, by first | (intros; omega) | (simp; done) | rfl | trivial | exact ⟨by simp [sumF], by intros; omega⟩ | exact ⟨by omega, by simp⟩⟩ (fun k ⟨kl, kp⟩ => ?_)
  have cl := cls_len hv k
  by_cases hk : k < f.clauses.length
  · have es := catK_succ clT hk
    have hc := cnf_cl hv hk
    repeat' (first
      | (refine j_go ?_; first
        | refine j_op0 rfl rfl rfl rfl ?_ | (refine j_kIdx rfl ?_; first | refine j_idx rfl rfl rfl rfl rfl (by omega) rfl rfl rfl ?_ | refine j_idxz rfl rfl rfl rfl rfl ⟨by omega, by omega⟩ rfl rfl rfl ?_) | (refine j_kBin rfl ?_; first | refine j_in rfl rfl ⟨by omega, by omega⟩ rfl rfl ?_ | refine j_cat rfl rfl rfl rfl (by first | omega | (simp only [List.length_append, List.length_cons, List.length_nil]; omega)) rfl rfl ?_) | (refine j_kLen rfl ?_; first | refine j_len rfl rfl rfl rfl rfl rfl ?_ | refine j_op rfl rfl rfl rfl ?_) | refine j_in rfl rfl ⟨by omega, by omega⟩ rfl rfl ?_)
      | refine j_nil ?_
      | (refine r_go ?_; first | refine run_seq ?_ | refine run_region ?_ | refine run_cond_t rfl ?_ | refine run_cond_f rfl ?_ | (refine (run_if rfl (fun hb => ?_) (fun hb => ?_)) <;> first | (exfalso; omega) | skip) | (refine (run_ifn rfl (fun hb => ?_) (fun hb => ?_)) <;> first | (exfalso; omega) | skip) | refine run_block ?_ | refine run_ret ?_ | refine run_exit ?_ | refine run_skip ?_ | refine run_regionD (by kernel_rfl) ?_ | refine run_condn rfl (fun hb => ?_) (fun hb => ?_) | refine run_cond rfl (fun hb => ?_) (fun hb => ?_))
      | refine seqQ_normal ?_ | refine seqQ_ret ?_ | refine seqQ_exit ?_ | refine blockQ_normal ?_ | refine blockQ_ret ?_ | refine blockQ_eq ?_ | refine blockQ_ne rfl ?_ | refine loopQ_ret ?_ | refine loopQ_exit ?_)
    refine run_loop (fun j : Nat => [(0, .ip (encCnf f)), (3, .str ([99, 110, 102, 32] ++ dcm f.vars ++ [10] ++ catK clT f.clauses k ++ [99, 108, 97, 117, 115, 101] ++ catK vT f.clauses[k] j)), (4, .int (k : Int)), (5, .int (j : Int))]) (fun _ => _) (fun j => j ≤ f.clauses[k].length ∧ (True)) (fun j => f.clauses[k].length - j) 0 ⟨rfl, (by first | rfl | exact si (by first | omega | (simp; done) | (simp [sumF]; done) | (simp; omega)) | exact raw_f (by simp) | exact raw_t (by simp) | exact sa (by first | (rw [catK_zero]; rfl) | (rw [catK_zero, List.append_nil]; rfl) | (rw [catK_zero, List.append_nil]) | (rw [joinK_zero, List.append_nil]; rfl) | (rw [joinK_zero, List.append_nil]) | (simp [catK]; done))), rfl, rfl, trivial⟩ rfl ⟨Nat.zero_le _, by first | (intros; omega) | (simp; done) | rfl | trivial | exact ⟨by simp [sumF], by intros; omega⟩ | exact ⟨by omega, by simp⟩⟩ (fun j ⟨jl, jp⟩ => ?_)
    have vl := catK_len (g := vT) (M := 21) (l := f.clauses[k]) (fun x hx => vT_len (hc.2 x hx)) j
    by_cases hj : j < f.clauses[k].length
    · have ev := catK_succ vT hj
      have hx := hc.2 _ (List.getElem_mem hj)
      have d1 := dcm_len (n := f.clauses[k][j]) ⟨by omega, by omega⟩
      have d2 := dcm_len (n := 0 - f.clauses[k][j]) ⟨by omega, by omega⟩
      repeat' (first
      | (refine j_go ?_; first
        | refine j_op0 rfl rfl rfl rfl ?_ | (refine j_kIdx rfl ?_; first | refine j_idx rfl rfl rfl rfl rfl (by omega) rfl rfl rfl ?_ | refine j_idxz rfl rfl rfl rfl rfl ⟨by omega, by omega⟩ rfl rfl rfl ?_) | (refine j_kBin rfl ?_; first | refine j_in rfl rfl ⟨by omega, by omega⟩ rfl rfl ?_ | refine j_cat rfl rfl rfl rfl (by first | omega | (simp only [List.length_append, List.length_cons, List.length_nil]; omega)) rfl rfl ?_) | (refine j_kLen rfl ?_; first | refine j_len rfl rfl rfl rfl rfl rfl ?_ | refine j_op rfl rfl rfl rfl ?_) | (refine j_kCall rfl rfl rfl rfl ?_; first | refine jc (c_dec _ ⟨by omega, by omega⟩) (LeL.refl _) rfl rfl ?_ | refine jc (c_dec _ ⟨by omega, by omega⟩) (by repeat' (first | exact LeL.nil | refine LeL.cons ?_ ?_ | exact Le.refl _ | exact Le.nilm _ _ | exact Le.nil _ | refine Le.agg ?_)) rfl rfl ?_) | refine j_in rfl rfl ⟨by omega, by omega⟩ rfl rfl ?_)
      | refine j_nil ?_
      | (refine r_go ?_; first | refine run_seq ?_ | refine run_region ?_ | refine run_cond_t rfl ?_ | refine run_cond_f rfl ?_ | (refine (run_if rfl (fun hb => ?_) (fun hb => ?_)) <;> first | (exfalso; omega) | skip) | (refine (run_ifn rfl (fun hb => ?_) (fun hb => ?_)) <;> first | (exfalso; omega) | skip) | refine run_block ?_ | refine run_ret ?_ | refine run_exit ?_ | refine run_skip ?_ | refine run_regionD (by kernel_rfl) ?_ | refine run_condn rfl (fun hb => ?_) (fun hb => ?_) | refine run_cond rfl (fun hb => ?_) (fun hb => ?_))
      | refine seqQ_normal ?_ | refine seqQ_ret ?_ | refine seqQ_exit ?_ | refine blockQ_normal ?_ | refine blockQ_ret ?_ | refine blockQ_eq ?_ | refine blockQ_ne rfl ?_ | refine loopQ_ret ?_ | refine loopQ_exit ?_)
      · exact loopQ_nextD (j + 1) ⟨by omega, trivial⟩ (by omega) (by first | exact List.Sublist.refl _ | exact sub1 | exact sub2 | exact sub3) ⟨rfl, (by first | rfl | (exact sa (by rw [ev]; unfold vT; rw [dcm_neg (n := f.clauses[k][j]) (by assumption)]; simp only [List.append_assoc] <;> rfl)) | exact si (by omega)), rfl, nx _, trivial⟩
      · exact loopQ_nextD (j + 1) ⟨by omega, trivial⟩ (by omega) (by first | exact List.Sublist.refl _ | exact sub1 | exact sub2 | exact sub3) ⟨rfl, (by first | rfl | (exact sa (by rw [ev]; simp only [vT, List.append_assoc] <;> rfl)) | exact si (by omega)), rfl, nx _, trivial⟩
    · have hje : j = f.clauses[k].length := by omega
      subst hje
      repeat' (first
      | (refine j_go ?_; first
        | refine j_op0 rfl rfl rfl rfl ?_ | (refine j_kIdx rfl ?_; first | refine j_idx rfl rfl rfl rfl rfl (by omega) rfl rfl rfl ?_ | refine j_idxz rfl rfl rfl rfl rfl ⟨by omega, by omega⟩ rfl rfl rfl ?_) | (refine j_kBin rfl ?_; first | refine j_in rfl rfl ⟨by omega, by omega⟩ rfl rfl ?_ | refine j_cat rfl rfl rfl rfl (by first | omega | (simp only [List.length_append, List.length_cons, List.length_nil]; omega)) rfl rfl ?_) | (refine j_kLen rfl ?_; first | refine j_len rfl rfl rfl rfl rfl rfl ?_ | refine j_op rfl rfl rfl rfl ?_) | refine j_in rfl rfl ⟨by omega, by omega⟩ rfl rfl ?_)
      | refine j_nil ?_
      | (refine r_go ?_; first | refine run_seq ?_ | refine run_region ?_ | refine run_cond_t rfl ?_ | refine run_cond_f rfl ?_ | (refine (run_if rfl (fun hb => ?_) (fun hb => ?_)) <;> first | (exfalso; omega) | skip) | (refine (run_ifn rfl (fun hb => ?_) (fun hb => ?_)) <;> first | (exfalso; omega) | skip) | refine run_block ?_ | refine run_ret ?_ | refine run_exit ?_ | refine run_skip ?_ | refine run_regionD (by kernel_rfl) ?_ | refine run_condn rfl (fun hb => ?_) (fun hb => ?_) | refine run_cond rfl (fun hb => ?_) (fun hb => ?_))
      | refine seqQ_normal ?_ | refine seqQ_ret ?_ | refine seqQ_exit ?_ | refine blockQ_normal ?_ | refine blockQ_ret ?_ | refine blockQ_eq ?_ | refine blockQ_ne rfl ?_ | refine loopQ_ret ?_ | refine loopQ_exit ?_)
      · exact loopQ_nextD (k + 1) ⟨by omega, trivial⟩ (by omega) (by first | exact List.Sublist.refl _ | exact sub1 | exact sub2 | exact sub3) ⟨rfl, (by first | rfl | (exact sa (by rw [es]; unfold clT; rw [if_pos (show f.clauses[k] = [] from List.eq_nil_of_length_eq_zero (by omega))]; simp only [List.append_assoc] <;> rfl)) | exact si (by omega)), nx _, trivial⟩
      · exact loopQ_nextD (k + 1) ⟨by omega, trivial⟩ (by omega) (by first | exact List.Sublist.refl _ | exact sub1 | exact sub2 | exact sub3) ⟨rfl, (by first | rfl | (exact sa (by rw [es]; unfold clT; rw [if_neg (show ¬ f.clauses[k] = [] from fun q => by rw [q] at hb; exact hb rfl)]; simp only [List.append_assoc] <;> rfl)) | exact si (by omega)), nx _, trivial⟩
  · have hke : k = f.clauses.length := by omega
    subst hke
    repeat' (first
      | (refine j_go ?_; first
        | refine j_op0 rfl rfl rfl rfl ?_ | (refine j_kIdx rfl ?_; first | refine j_idx rfl rfl rfl rfl rfl (by omega) rfl rfl rfl ?_ | refine j_idxz rfl rfl rfl rfl rfl ⟨by omega, by omega⟩ rfl rfl rfl ?_) | (refine j_kBin rfl ?_; first | refine j_in rfl rfl ⟨by omega, by omega⟩ rfl rfl ?_ | refine j_cat rfl rfl rfl rfl (by first | omega | (simp only [List.length_append, List.length_cons, List.length_nil]; omega)) rfl rfl ?_) | (refine j_kLen rfl ?_; first | refine j_len rfl rfl rfl rfl rfl rfl ?_ | refine j_op rfl rfl rfl rfl ?_) | refine j_in rfl rfl ⟨by omega, by omega⟩ rfl rfl ?_)
      | refine j_nil ?_
      | (refine r_go ?_; first | refine run_seq ?_ | refine run_region ?_ | refine run_cond_t rfl ?_ | refine run_cond_f rfl ?_ | (refine (run_if rfl (fun hb => ?_) (fun hb => ?_)) <;> first | (exfalso; omega) | skip) | (refine (run_ifn rfl (fun hb => ?_) (fun hb => ?_)) <;> first | (exfalso; omega) | skip) | refine run_block ?_ | refine run_ret ?_ | refine run_exit ?_ | refine run_skip ?_ | refine run_regionD (by kernel_rfl) ?_ | refine run_condn rfl (fun hb => ?_) (fun hb => ?_) | refine run_cond rfl (fun hb => ?_) (fun hb => ?_))
      | refine seqQ_normal ?_ | refine seqQ_ret ?_ | refine seqQ_exit ?_ | refine blockQ_normal ?_ | refine blockQ_ret ?_ | refine blockQ_eq ?_ | refine blockQ_ne rfl ?_ | refine loopQ_ret ?_ | refine loopQ_exit ?_)
    exact end1 rfl (List.Sublist.refl _) (rfl) (.inl rfl)

theorem c_sCnfText (f : Cnf) : Gives Tryd.prog 11 [.agg (encCnf f)] (.str (txP f.Valid (cnfT f))) := by
  refine fn_of_run tyOk ztOk mix Tryd.func11 rfl (by decide) Tryd.ntmps11 (fun w0 h => ?_)
  repeat' (first
      | (refine j_go ?_; first
        | refine j_op0 rfl rfl rfl rfl ?_ | (refine j_kCall rfl rfl rfl rfl ?_; first | refine jc (c_l07Cnf _) (LeL.refl _) rfl rfl ?_ | refine jc (c_l07Cnf _) (by repeat' (first | exact LeL.nil | refine LeL.cons ?_ ?_ | exact Le.refl _ | exact Le.nilm _ _ | exact Le.nil _ | refine Le.agg ?_)) rfl rfl ?_) | refine j_box rfl rfl rfl rfl rfl rfl ?_)
      | refine j_nil ?_
      | (refine r_go ?_; first | refine run_seq ?_ | refine run_region ?_ | refine run_cond_t rfl ?_ | refine run_cond_f rfl ?_ | (refine (run_if rfl (fun hb => ?_) (fun hb => ?_)) <;> first | (exfalso; omega) | skip) | (refine (run_ifn rfl (fun hb => ?_) (fun hb => ?_)) <;> first | (exfalso; omega) | skip) | refine run_block ?_ | refine run_ret ?_ | refine run_exit ?_ | refine run_skip ?_ | refine run_regionD (by kernel_rfl) ?_ | refine run_condn rfl (fun hb => ?_) (fun hb => ?_) | refine run_cond rfl (fun hb => ?_) (fun hb => ?_))
      | refine seqQ_normal ?_ | refine seqQ_ret ?_ | refine seqQ_exit ?_ | refine blockQ_normal ?_ | refine blockQ_ret ?_ | refine blockQ_eq ?_ | refine blockQ_ne rfl ?_ | refine loopQ_ret ?_ | refine loopQ_exit ?_)
  · exact end1 rfl (List.Sublist.refl _) (st (by rw [tx_f hb])) (.inl rfl)
  · have hv := hb
    repeat' (first
      | (refine j_go ?_; first
        | refine j_op0 rfl rfl rfl rfl ?_ | (refine j_kCall rfl rfl rfl rfl ?_; first | refine jc (c_l07CnfText _ hv) (LeL.refl _) rfl rfl ?_ | refine jc (c_l07CnfText _ hv) (by repeat' (first | exact LeL.nil | refine LeL.cons ?_ ?_ | exact Le.refl _ | exact Le.nilm _ _ | exact Le.nil _ | refine Le.agg ?_)) rfl rfl ?_) | refine j_box rfl rfl rfl rfl rfl rfl ?_)
      | refine j_nil ?_
      | (refine r_go ?_; first | refine run_seq ?_ | refine run_region ?_ | refine run_cond_t rfl ?_ | refine run_cond_f rfl ?_ | (refine (run_if rfl (fun hb => ?_) (fun hb => ?_)) <;> first | (exfalso; omega) | skip) | (refine (run_ifn rfl (fun hb => ?_) (fun hb => ?_)) <;> first | (exfalso; omega) | skip) | refine run_block ?_ | refine run_ret ?_ | refine run_exit ?_ | refine run_skip ?_ | refine run_regionD (by kernel_rfl) ?_ | refine run_condn rfl (fun hb => ?_) (fun hb => ?_) | refine run_cond rfl (fun hb => ?_) (fun hb => ?_))
      | refine seqQ_normal ?_ | refine seqQ_ret ?_ | refine seqQ_exit ?_ | refine blockQ_normal ?_ | refine blockQ_ret ?_ | refine blockQ_eq ?_ | refine blockQ_ne rfl ?_ | refine loopQ_ret ?_ | refine loopQ_exit ?_)
    exact end1 rfl (List.Sublist.refl _) (st (by rw [tx_t hv])) (.inl rfl)

theorem c_iCnfText (f : Cnf) : GivesT Tryd.prog KT 13 [.agg (encCnf f)] (.str (txP f.Valid (cnfT f))) := by
  refine fn_of_runT tyOk ztOk mix Tryd.func13 rfl (by decide) Tryd.ntmps13 (fun w0 h hK => ?_)
  repeat' (first
      | (refine j_go ?_; first
        | refine j_op0 rfl rfl rfl rfl ?_ | (refine j_kIdx rfl ?_; first | refine j_idx rfl rfl rfl rfl rfl (by omega) rfl rfl rfl ?_ | refine j_idxz rfl rfl rfl rfl rfl ⟨by omega, by omega⟩ rfl rfl rfl ?_) | (refine j_kBin rfl ?_; first | refine j_in rfl rfl ⟨by omega, by omega⟩ rfl rfl ?_ | refine j_cat rfl rfl rfl rfl (by first | omega | (simp only [List.length_append, List.length_cons, List.length_nil]; omega)) rfl rfl ?_) | (refine j_kLen rfl ?_; first | refine j_len rfl rfl rfl rfl rfl rfl ?_ | refine j_op rfl rfl rfl rfl ?_) | (refine j_kCall rfl rfl rfl rfl ?_; first | refine jc (c_iValidCnf _) (LeL.refl _) rfl rfl ?_ | refine jc (c_iValidCnf _) (by repeat' (first | exact LeL.nil | refine LeL.cons ?_ ?_ | exact Le.refl _ | exact Le.nilm _ _ | exact Le.nil _ | refine Le.agg ?_)) rfl rfl ?_) | refine j_box rfl rfl rfl rfl rfl rfl ?_)
      | refine j_nil ?_
      | (refine r_go ?_; first | refine run_seq ?_ | refine run_region ?_ | refine run_cond_t rfl ?_ | refine run_cond_f rfl ?_ | (refine (run_if rfl (fun hb => ?_) (fun hb => ?_)) <;> first | (exfalso; omega) | skip) | (refine (run_ifn rfl (fun hb => ?_) (fun hb => ?_)) <;> first | (exfalso; omega) | skip) | refine run_block ?_ | refine run_ret ?_ | refine run_exit ?_ | refine run_skip ?_ | refine run_regionD (by kernel_rfl) ?_ | refine run_condn rfl (fun hb => ?_) (fun hb => ?_) | refine run_cond rfl (fun hb => ?_) (fun hb => ?_))
      | refine seqQ_normal ?_ | refine seqQ_ret ?_ | refine seqQ_exit ?_ | refine blockQ_normal ?_ | refine blockQ_ret ?_ | refine blockQ_eq ?_ | refine blockQ_ne rfl ?_ | refine loopQ_ret ?_ | refine loopQ_exit ?_)
  · exact end1 rfl (List.Sublist.refl _) (st (by rw [tx_f hb])) (.inl rfl)
  have hv := hb
  have h1 := hv.1
  have h2 := hv.2.1
  have dl := dcm_len (n := f.vars) ⟨by omega, by omega⟩
  repeat' (first
      | (refine j_go ?_; first
        | refine j_op0 rfl rfl rfl rfl ?_ | (refine j_kIdx rfl ?_; first | refine j_idx rfl rfl rfl rfl rfl (by omega) rfl rfl rfl ?_ | refine j_idxz rfl rfl rfl rfl rfl ⟨by omega, by omega⟩ rfl rfl rfl ?_) | (refine j_kBin rfl ?_; first | refine j_in rfl rfl ⟨by omega, by omega⟩ rfl rfl ?_ | refine j_cat rfl rfl rfl rfl (by first | omega | (simp only [List.length_append, List.length_cons, List.length_nil]; omega)) rfl rfl ?_) | (refine j_kLen rfl ?_; first | refine j_len rfl rfl rfl rfl rfl rfl ?_ | refine j_op rfl rfl rfl rfl ?_) | (refine j_kCall rfl rfl rfl rfl ?_; first | refine jcT (by first | exact hK | exact List.mem_cons_of_mem _ hK | exact List.mem_cons_of_mem _ (List.mem_cons_of_mem _ hK) | simp [hK]) (c_decimal _ ⟨by omega, by omega⟩) (LeL.refl _) rfl rfl ?_ | refine jcT (by first | exact hK | exact List.mem_cons_of_mem _ hK | exact List.mem_cons_of_mem _ (List.mem_cons_of_mem _ hK) | simp [hK]) (c_decimal _ ⟨by omega, by omega⟩) (by repeat' (first | exact LeL.nil | refine LeL.cons ?_ ?_ | exact Le.refl _ | exact Le.nilm _ _ | exact Le.nil _ | refine Le.agg ?_)) rfl rfl ?_) | refine j_box rfl rfl rfl rfl rfl rfl ?_)
      | refine j_nil ?_
      | (refine r_go ?_; first | refine run_seq ?_ | refine run_region ?_ | refine run_cond_t rfl ?_ | refine run_cond_f rfl ?_ | (refine (run_if rfl (fun hb => ?_) (fun hb => ?_)) <;> first | (exfalso; omega) | skip) | (refine (run_ifn rfl (fun hb => ?_) (fun hb => ?_)) <;> first | (exfalso; omega) | skip) | refine run_block ?_ | refine run_ret ?_ | refine run_exit ?_ | refine run_skip ?_ | refine run_regionD (by kernel_rfl) ?_ | refine run_condn rfl (fun hb => ?_) (fun hb => ?_) | refine run_cond rfl (fun hb => ?_) (fun hb => ?_))
      | refine seqQ_normal ?_ | refine seqQ_ret ?_ | refine seqQ_exit ?_ | refine blockQ_normal ?_ | refine blockQ_ret ?_ | refine blockQ_eq ?_ | refine blockQ_ne rfl ?_ | refine loopQ_ret ?_ | refine loopQ_exit ?_)
  refine run_loop (fun k : Nat => [(17, .sl (f.clauses.map (encS encI))), (18, .int f.clauses.length), (3, .str ([99, 110, 102, 32] ++ dcm f.vars ++ [10] ++ catK clT f.clauses k)), (19, .int (k : Int))]) (fun _ => _) (fun k => k ≤ f.clauses.length ∧ (True)) (fun k => f.clauses.length - k) 0 ⟨rfl, rfl, (by first | rfl | exact si (by first | omega | (simp; done) | (simp [sumF]; done) | (simp; omega)) | exact raw_f (by simp) | exact raw_t (by simp) | exact sa (by first | (rw [catK_zero]; rfl) | (rw [catK_zero, List.append_nil]; rfl) | (rw [catK_zero, List.append_nil]) | (rw [joinK_zero, List.append_nil]; rfl) | (rw [joinK_zero, List.append_nil]) | (simp [catK]; done))), rfl, trivial⟩ rfl ⟨Nat.zero_le _, by first | (intros; omega) | (simp; done) | rfl | trivial | exact ⟨by simp [sumF], by intros; omega⟩ | exact ⟨by omega, by simp⟩⟩ (fun k ⟨kl, kp⟩ => ?_)
  have cl := cls_len hv k
  by_cases hk : k < f.clauses.length
  · have es := catK_succ clT hk
    have hc := cnf_cl hv hk
    repeat' (first
      | (refine j_go ?_; first
        | refine j_op0 rfl rfl rfl rfl ?_ | (refine j_kIdx rfl ?_; first | refine j_idx rfl rfl rfl rfl rfl (by omega) rfl rfl rfl ?_ | refine j_idxz rfl rfl rfl rfl rfl ⟨by omega, by omega⟩ rfl rfl rfl ?_) | (refine j_kBin rfl ?_; first | refine j_in rfl rfl ⟨by omega, by omega⟩ rfl rfl ?_ | refine j_cat rfl rfl rfl rfl (by first | omega | (simp only [List.length_append, List.length_cons, List.length_nil]; omega)) rfl rfl ?_) | (refine j_kLen rfl ?_; first | refine j_len rfl rfl rfl rfl rfl rfl ?_ | refine j_op rfl rfl rfl rfl ?_) | refine j_box rfl rfl rfl rfl rfl rfl ?_)
      | refine j_nil ?_
      | (refine r_go ?_; first | refine run_seq ?_ | refine run_region ?_ | refine run_cond_t rfl ?_ | refine run_cond_f rfl ?_ | (refine (run_if rfl (fun hb => ?_) (fun hb => ?_)) <;> first | (exfalso; omega) | skip) | (refine (run_ifn rfl (fun hb => ?_) (fun hb => ?_)) <;> first | (exfalso; omega) | skip) | refine run_block ?_ | refine run_ret ?_ | refine run_exit ?_ | refine run_skip ?_ | refine run_regionD (by kernel_rfl) ?_ | refine run_condn rfl (fun hb => ?_) (fun hb => ?_) | refine run_cond rfl (fun hb => ?_) (fun hb => ?_))
      | refine seqQ_normal ?_ | refine seqQ_ret ?_ | refine seqQ_exit ?_ | refine blockQ_normal ?_ | refine blockQ_ret ?_ | refine blockQ_eq ?_ | refine blockQ_ne rfl ?_ | refine loopQ_ret ?_ | refine loopQ_exit ?_)
    refine run_loop (fun j : Nat => [(5, .sl (f.clauses[k].map encI)), (17, .sl (f.clauses.map (encS encI))), (18, .int f.clauses.length), (19, .int (k : Int)), (25, .sl (f.clauses[k].map encI)), (26, .int f.clauses[k].length), (3, .str ([99, 110, 102, 32] ++ dcm f.vars ++ [10] ++ catK clT f.clauses k ++ [99, 108, 97, 117, 115, 101] ++ catK vT f.clauses[k] j)), (27, .int (j : Int))]) (fun _ => _) (fun j => j ≤ f.clauses[k].length ∧ (True)) (fun j => f.clauses[k].length - j) 0 ⟨rfl, rfl, rfl, rfl, rfl, rfl, (by first | rfl | exact si (by first | omega | (simp; done) | (simp [sumF]; done) | (simp; omega)) | exact raw_f (by simp) | exact raw_t (by simp) | exact sa (by first | (rw [catK_zero]; rfl) | (rw [catK_zero, List.append_nil]; rfl) | (rw [catK_zero, List.append_nil]) | (rw [joinK_zero, List.append_nil]; rfl) | (rw [joinK_zero, List.append_nil]) | (simp [catK]; done))), rfl, trivial⟩ rfl ⟨Nat.zero_le _, by first | (intros; omega) | (simp; done) | rfl | trivial | exact ⟨by simp [sumF], by intros; omega⟩ | exact ⟨by omega, by simp⟩⟩ (fun j ⟨jl, jp⟩ => ?_)
    have vl := catK_len (g := vT) (M := 21) (l := f.clauses[k]) (fun x hx => vT_len (hc.2 x hx)) j
    by_cases hj : j < f.clauses[k].length
    · have ev := catK_succ vT hj
      have hx := hc.2 _ (List.getElem_mem hj)
      have d1 := dcm_len (n := f.clauses[k][j]) ⟨by omega, by omega⟩
      repeat' (first
      | (refine j_go ?_; first
        | refine j_op0 rfl rfl rfl rfl ?_ | (refine j_kIdx rfl ?_; first | refine j_idx rfl rfl rfl rfl rfl (by omega) rfl rfl rfl ?_ | refine j_idxz rfl rfl rfl rfl rfl ⟨by omega, by omega⟩ rfl rfl rfl ?_) | (refine j_kBin rfl ?_; first | refine j_in rfl rfl ⟨by omega, by omega⟩ rfl rfl ?_ | refine j_cat rfl rfl rfl rfl (by first | omega | (simp only [List.length_append, List.length_cons, List.length_nil]; omega)) rfl rfl ?_) | (refine j_kLen rfl ?_; first | refine j_len rfl rfl rfl rfl rfl rfl ?_ | refine j_op rfl rfl rfl rfl ?_) | (refine j_kCall rfl rfl rfl rfl ?_; first | refine jcT (by first | exact hK | exact List.mem_cons_of_mem _ hK | exact List.mem_cons_of_mem _ (List.mem_cons_of_mem _ hK) | simp [hK]) (c_decimal _ ⟨by omega, by omega⟩) (LeL.refl _) rfl rfl ?_ | refine jcT (by first | exact hK | exact List.mem_cons_of_mem _ hK | exact List.mem_cons_of_mem _ (List.mem_cons_of_mem _ hK) | simp [hK]) (c_decimal _ ⟨by omega, by omega⟩) (by repeat' (first | exact LeL.nil | refine LeL.cons ?_ ?_ | exact Le.refl _ | exact Le.nilm _ _ | exact Le.nil _ | refine Le.agg ?_)) rfl rfl ?_) | refine j_box rfl rfl rfl rfl rfl rfl ?_)
      | refine j_nil ?_
      | (refine r_go ?_; first | refine run_seq ?_ | refine run_region ?_ | refine run_cond_t rfl ?_ | refine run_cond_f rfl ?_ | (refine (run_if rfl (fun hb => ?_) (fun hb => ?_)) <;> first | (exfalso; omega) | skip) | (refine (run_ifn rfl (fun hb => ?_) (fun hb => ?_)) <;> first | (exfalso; omega) | skip) | refine run_block ?_ | refine run_ret ?_ | refine run_exit ?_ | refine run_skip ?_ | refine run_regionD (by kernel_rfl) ?_ | refine run_condn rfl (fun hb => ?_) (fun hb => ?_) | refine run_cond rfl (fun hb => ?_) (fun hb => ?_))
      | refine seqQ_normal ?_ | refine seqQ_ret ?_ | refine seqQ_exit ?_ | refine blockQ_normal ?_ | refine blockQ_ret ?_ | refine blockQ_eq ?_ | refine blockQ_ne rfl ?_ | refine loopQ_ret ?_ | refine loopQ_exit ?_)
      exact loopQ_nextD (j + 1) ⟨by omega, trivial⟩ (by omega) (by first | exact List.Sublist.refl _ | exact sub1 | exact sub2 | exact sub3) ⟨rfl, rfl, rfl, rfl, rfl, rfl, (by first | rfl | (exact sa (by rw [ev]; simp only [vT, List.append_assoc] <;> rfl)) | exact si (by omega)), nx _, trivial⟩
    · have hje : j = f.clauses[k].length := by omega
      subst hje
      repeat' (first
      | (refine j_go ?_; first
        | refine j_op0 rfl rfl rfl rfl ?_ | (refine j_kIdx rfl ?_; first | refine j_idx rfl rfl rfl rfl rfl (by omega) rfl rfl rfl ?_ | refine j_idxz rfl rfl rfl rfl rfl ⟨by omega, by omega⟩ rfl rfl rfl ?_) | (refine j_kBin rfl ?_; first | refine j_in rfl rfl ⟨by omega, by omega⟩ rfl rfl ?_ | refine j_cat rfl rfl rfl rfl (by first | omega | (simp only [List.length_append, List.length_cons, List.length_nil]; omega)) rfl rfl ?_) | (refine j_kLen rfl ?_; first | refine j_len rfl rfl rfl rfl rfl rfl ?_ | refine j_op rfl rfl rfl rfl ?_) | refine j_box rfl rfl rfl rfl rfl rfl ?_)
      | refine j_nil ?_
      | (refine r_go ?_; first | refine run_seq ?_ | refine run_region ?_ | refine run_cond_t rfl ?_ | refine run_cond_f rfl ?_ | (refine (run_if rfl (fun hb => ?_) (fun hb => ?_)) <;> first | (exfalso; omega) | skip) | (refine (run_ifn rfl (fun hb => ?_) (fun hb => ?_)) <;> first | (exfalso; omega) | skip) | refine run_block ?_ | refine run_ret ?_ | refine run_exit ?_ | refine run_skip ?_ | refine run_regionD (by kernel_rfl) ?_ | refine run_condn rfl (fun hb => ?_) (fun hb => ?_) | refine run_cond rfl (fun hb => ?_) (fun hb => ?_))
      | refine seqQ_normal ?_ | refine seqQ_ret ?_ | refine seqQ_exit ?_ | refine blockQ_normal ?_ | refine blockQ_ret ?_ | refine blockQ_eq ?_ | refine blockQ_ne rfl ?_ | refine loopQ_ret ?_ | refine loopQ_exit ?_)
      · exact loopQ_nextD (k + 1) ⟨by omega, trivial⟩ (by omega) (by first | exact List.Sublist.refl _ | exact sub1 | exact sub2 | exact sub3) ⟨rfl, rfl, (by first | rfl | (exact sa (by rw [es]; unfold clT; rw [if_pos (show f.clauses[k] = [] from List.eq_nil_of_length_eq_zero (by omega))]; simp only [List.append_assoc] <;> rfl)) | exact si (by omega)), nx _, trivial⟩
      · exact loopQ_nextD (k + 1) ⟨by omega, trivial⟩ (by omega) (by first | exact List.Sublist.refl _ | exact sub1 | exact sub2 | exact sub3) ⟨rfl, rfl, (by first | rfl | (exact sa (by rw [es]; unfold clT; rw [if_neg (show ¬ f.clauses[k] = [] from fun q => by rw [q] at hb; exact hb rfl)]; simp only [List.append_assoc] <;> rfl)) | exact si (by omega)), nx _, trivial⟩
  · have hke : k = f.clauses.length := by omega
    subst hke
    repeat' (first
      | (refine j_go ?_; first
        | refine j_op0 rfl rfl rfl rfl ?_ | (refine j_kIdx rfl ?_; first | refine j_idx rfl rfl rfl rfl rfl (by omega) rfl rfl rfl ?_ | refine j_idxz rfl rfl rfl rfl rfl ⟨by omega, by omega⟩ rfl rfl rfl ?_) | (refine j_kBin rfl ?_; first | refine j_in rfl rfl ⟨by omega, by omega⟩ rfl rfl ?_ | refine j_cat rfl rfl rfl rfl (by first | omega | (simp only [List.length_append, List.length_cons, List.length_nil]; omega)) rfl rfl ?_) | (refine j_kLen rfl ?_; first | refine j_len rfl rfl rfl rfl rfl rfl ?_ | refine j_op rfl rfl rfl rfl ?_) | refine j_box rfl rfl rfl rfl rfl rfl ?_)
      | refine j_nil ?_
      | (refine r_go ?_; first | refine run_seq ?_ | refine run_region ?_ | refine run_cond_t rfl ?_ | refine run_cond_f rfl ?_ | (refine (run_if rfl (fun hb => ?_) (fun hb => ?_)) <;> first | (exfalso; omega) | skip) | (refine (run_ifn rfl (fun hb => ?_) (fun hb => ?_)) <;> first | (exfalso; omega) | skip) | refine run_block ?_ | refine run_ret ?_ | refine run_exit ?_ | refine run_skip ?_ | refine run_regionD (by kernel_rfl) ?_ | refine run_condn rfl (fun hb => ?_) (fun hb => ?_) | refine run_cond rfl (fun hb => ?_) (fun hb => ?_))
      | refine seqQ_normal ?_ | refine seqQ_ret ?_ | refine seqQ_exit ?_ | refine blockQ_normal ?_ | refine blockQ_ret ?_ | refine blockQ_eq ?_ | refine blockQ_ne rfl ?_ | refine loopQ_ret ?_ | refine loopQ_exit ?_)
    exact end1 rfl (List.Sublist.refl _) (st (by rw [tx_t hv]; rfl)) (.inl rfl)

end Go.Proofs.YtdlhajkidekjaaaDoor
