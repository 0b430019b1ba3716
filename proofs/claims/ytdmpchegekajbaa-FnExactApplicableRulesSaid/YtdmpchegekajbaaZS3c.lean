/-
  Steps: the program's list of applicable rules; IsHalted. No condition.
-/
import Derived.Test.YtdmpchegekajbaaZS3b
namespace Go.Proofs.Ytdmpchegekajbaa
open Go.AI
set_option maxRecDepth 8000
set_option maxHeartbeats 1600000

theorem rep_set {α : Type} {a z : α} {m k : Nat} (hk : k < m) : (List.replicate k a ++ List.replicate (m - k) z).set k a = List.replicate (k + 1) a ++ List.replicate (m - (k + 1)) z := by
  have e : m - k = (m - (k + 1)) + 1 := by omega
  rw [e, List.replicate_succ, List.set_append_right _ _ (by simp), List.length_replicate, Nat.sub_self, List.set_cons_zero, List.replicate_succ' (n := k), List.append_assoc]
  rfl

noncomputable def idxL (s : System) (t : State) (k : Nat) : List Int := ((List.range k).filter (fun i => dec (∃ h : i < s.rules.length, App s t s.rules[i]))).map (fun i : Nat => (i : Int))
theorem idxL_yes {s : System} {t : State} {k : Nat} (hk : k < s.rules.length) (ha : App s t s.rules[k]) : idxL s t k ++ [(k : Int)] = idxL s t (k + 1) := by
  unfold idxL
  rw [List.range_succ, List.filter_append, List.map_append, List.filter_cons_of_pos (by exact dec_t ⟨hk, ha⟩)]
  rfl
theorem idxL_no {s : System} {t : State} {k : Nat} (hk : k < s.rules.length) (ha : ¬ App s t s.rules[k]) : idxL s t k = idxL s t (k + 1) := by
  unfold idxL
  rw [List.range_succ, List.filter_append, List.map_append, List.filter_cons_of_neg (by rw [dec_f (fun ⟨_, q⟩ => ha q)]; simp)]
  simp
theorem idxL_len (s : System) (t : State) (k : Nat) : (idxL s t k).length ≤ k := by
  unfold idxL
  rw [List.length_map]
  exact Nat.le_trans (List.length_filter_le _ _) (by simp)
theorem appL_get {s : System} {t : State} {k : Nat} (hk : k < (appL s t).length) : (appL s t)[k] = dec (App s t (s.rules[k]'(by simpa [appL] using hk))) := by simp [appL]
theorem appL_len (s : System) (t : State) : (appL s t).length = s.rules.length := by simp [appL]

theorem c_l03Both (s : System) (t : State) : Gives Try.prog 61 [.ip (encSystem s), .ip (encState t)] (.raw (.bool (dec (s.Ok ∧ s.StateOk t)))) := by
  refine fn_of_run tyOk ztOk mix Try.func61 rfl (by decide) Try.ntmps61 (fun w0 h => ?_)
  repeat' (first
      | (refine j_go ?_; first
        | refine j_op0 rfl rfl rfl rfl ?_ | refine j_off rfl rfl rfl ?_ | (refine j_kCall rfl rfl rfl rfl ?_; first | refine jc (c_l02Ok _) (LeL.refl _) rfl rfl ?_ | refine jc (c_l02Ok _) (by repeat' (first | exact LeL.nil | refine LeL.cons ?_ ?_ | exact Le.refl _ | exact Le.nilm _ _ | exact Le.nil _ | refine Le.agg ?_)) rfl rfl ?_) | (refine j_kGuard rfl ?_; first | (refine (j_if rfl rfl rfl (fun hb => ?_) (fun hb => ?_)) <;> first | (exfalso; omega) | skip) | (refine (j_ifn rfl rfl rfl (fun hb => ?_) (fun hb => ?_)) <;> first | (exfalso; omega) | skip) | (refine (j_branch rfl rfl rfl (fun hb => ?_) (fun hb => ?_)) <;> skip; (fail_if_success guard_hyp hb : true = true); (fail_if_success guard_hyp hb : true = false); (fail_if_success guard_hyp hb : false = true); (fail_if_success guard_hyp hb : false = false))))
      | refine j_nil ?_
      | (refine r_go ?_; first | refine run_seq ?_ | refine run_region ?_ | refine run_cond_t rfl ?_ | refine run_cond_f rfl ?_ | (refine (run_if rfl (fun hb => ?_) (fun hb => ?_)) <;> first | (exfalso; omega) | skip) | (refine (run_ifn rfl (fun hb => ?_) (fun hb => ?_)) <;> first | (exfalso; omega) | skip) | refine run_block ?_ | refine run_ret ?_ | refine run_exit ?_ | refine run_skip ?_ | refine run_regionD (by kernel_rfl) ?_ | refine run_condn rfl (fun hb => ?_) (fun hb => ?_) | refine run_cond rfl (fun hb => ?_) (fun hb => ?_))
      | refine seqQ_normal ?_ | refine seqQ_ret ?_ | refine seqQ_exit ?_ | refine blockQ_normal ?_ | refine blockQ_ret ?_ | refine blockQ_eq ?_ | refine blockQ_ne rfl ?_ | refine loopQ_ret ?_ | refine loopQ_exit ?_)
  · have hv : s.Ok := by assumption
    repeat' (first
      | (refine j_go ?_; first
        | refine j_op0 rfl rfl rfl rfl ?_ | refine j_off rfl rfl rfl ?_ | (refine j_kCall rfl rfl rfl rfl ?_; first | refine jc (c_l02State _ _ hv.1.2.1) (LeL.refl _) rfl rfl ?_ | refine jc (c_l02State _ _ hv.1.2.1) (by repeat' (first | exact LeL.nil | refine LeL.cons ?_ ?_ | exact Le.refl _ | exact Le.nilm _ _ | exact Le.nil _ | refine Le.agg ?_)) rfl rfl ?_) | (refine j_kGuard rfl ?_; first | (refine (j_if rfl rfl rfl (fun hb => ?_) (fun hb => ?_)) <;> first | (exfalso; omega) | skip) | (refine (j_ifn rfl rfl rfl (fun hb => ?_) (fun hb => ?_)) <;> first | (exfalso; omega) | skip) | (refine (j_branch rfl rfl rfl (fun hb => ?_) (fun hb => ?_)) <;> skip; (fail_if_success guard_hyp hb : true = true); (fail_if_success guard_hyp hb : true = false); (fail_if_success guard_hyp hb : false = true); (fail_if_success guard_hyp hb : false = false))))
      | refine j_nil ?_
      | (refine r_go ?_; first | refine run_seq ?_ | refine run_region ?_ | refine run_cond_t rfl ?_ | refine run_cond_f rfl ?_ | (refine (run_if rfl (fun hb => ?_) (fun hb => ?_)) <;> first | (exfalso; omega) | skip) | (refine (run_ifn rfl (fun hb => ?_) (fun hb => ?_)) <;> first | (exfalso; omega) | skip) | refine run_block ?_ | refine run_ret ?_ | refine run_exit ?_ | refine run_skip ?_ | refine run_regionD (by kernel_rfl) ?_ | refine run_condn rfl (fun hb => ?_) (fun hb => ?_) | refine run_cond rfl (fun hb => ?_) (fun hb => ?_))
      | refine seqQ_normal ?_ | refine seqQ_ret ?_ | refine seqQ_exit ?_ | refine blockQ_normal ?_ | refine blockQ_ret ?_ | refine blockQ_eq ?_ | refine blockQ_ne rfl ?_ | refine loopQ_ret ?_ | refine loopQ_exit ?_)
    exact end1 rfl (List.Sublist.refl _) (rbD ⟨fun q => ⟨hv, q⟩, fun q => q.2⟩) (.inl rfl)
  · exact end1 rfl (by first | exact List.Sublist.refl _ | exact sub1 | exact sub2 | exact sub3) (rbF (fun q => hb q.1)) (.inl rfl)

end Go.Proofs.Ytdmpchegekajbaa
