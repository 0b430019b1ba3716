/-
  Steps: the program's list of applicable rules; IsHalted. No condition.
-/
import Derived.Test.YtgjlemedckhlfaaZS3b
namespace Go.Proofs.Ytgjlemedckhlfaa
open Go.AI
set_option maxRecDepth 8000
set_option maxHeartbeats 1600000

theorem c_l03Both (s : System) (t : State) : Gives Try.prog 76 [.ip (encSystem s), .ip (encState t)] (.raw (.bool (dec (s.Ok ∧ s.StateOk t)))) := by
  refine fn_of_run tyOk ztOk mix Try.func76 rfl (by decide) Try.ntmps76 (fun w0 h => ?_)
  repeat' (first
      | (refine j_go ?_; first
        | refine j_op0 rfl rfl rfl rfl ?_ | refine j_off rfl rfl rfl ?_ | (refine j_kCall rfl rfl rfl rfl ?_; first | refine jc (c_l02Ok _) (LeL.refl _) rfl rfl ?_ | refine jc (c_l02Ok _) (by repeat' (first | exact LeL.nil | refine LeL.cons ?_ ?_ | exact Le.refl _ | exact Le.nilm _ _ | exact Le.nil _ | refine Le.agg ?_)) rfl rfl ?_) | (refine j_kGuard rfl ?_; first | (refine (j_if rfl rfl rfl (fun hb => ?_) (fun hb => ?_)) <;> first | (exfalso; omega) | skip) | (refine (j_ifn rfl rfl rfl (fun hb => ?_) (fun hb => ?_)) <;> first | (exfalso; omega) | skip) | (refine (j_branch rfl rfl rfl (fun hb => ?_) (fun hb => ?_)) <;> skip; (fail_if_success guard_hyp hb : true = true); (fail_if_success guard_hyp hb : true = false); (fail_if_success guard_hyp hb : false = true); (fail_if_success guard_hyp hb : false = false))))
      | refine j_nil ?_
      | (refine r_go ?_; first | refine run_seq ?_ | refine run_region ?_ | refine run_cond_t rfl ?_ | refine run_cond_f rfl ?_ | (refine (run_if rfl (fun hb => ?_) (fun hb => ?_)) <;> first | (exfalso; omega) | skip) | (refine (run_ifn rfl (fun hb => ?_) (fun hb => ?_)) <;> first | (exfalso; omega) | skip) | refine run_block ?_ | refine run_ret ?_ | refine run_exit ?_ | refine run_skip ?_ | refine run_regionD (by kernel_rfl) ?_ | refine run_condn rfl (fun hb => ?_) (fun hb => ?_) | refine run_cond rfl (fun hb => ?_) (fun hb => ?_))
      | refine seqQ_normal ?_ | refine seqQ_ret ?_ | refine seqQ_exit ?_ | refine blockQ_normal ?_ | refine blockQ_ret ?_ | refine blockQ_eq ?_ | refine blockQ_ne rfl ?_ | refine loopQ_ret ?_ | refine loopQ_exit ?_)
  · have hv : s.Ok := by assumption
    repeat' (first
      | (refine j_go ?_; first
        | refine j_op0 rfl rfl rfl rfl ?_ | refine j_off rfl rfl rfl ?_ | (refine j_kCall rfl rfl rfl rfl ?_; first | refine jc (c_l02State _ _ hv.1.2.1) (LeL.refl _) rfl rfl ?_ | refine jc (c_l02State _ _ hv.1.2.1) (by repeat' (first | exact LeL.nil | refine LeL.cons ?_ ?_ | exact Le.refl _ | exact Le.nilm _ _ | exact Le.nil _ | refine Le.agg ?_)) rfl rfl ?_) | (refine j_kGuard rfl ?_; first | (refine (j_if rfl rfl rfl (fun hb => ?_) (fun hb => ?_)) <;> first | (exfalso; omega) | skip) | (refine (j_ifn rfl rfl rfl (fun hb => ?_) (fun hb => ?_)) <;> first | (exfalso; omega) | skip) | (refine (j_branch rfl rfl rfl (fun hb => ?_) (fun hb => ?_)) <;> skip; (fail_if_success guard_hyp hb : true = true); (fail_if_success guard_hyp hb : true = false); (fail_if_success guard_hyp hb : false = true); (fail_if_success guard_hyp hb : false = false))))
      | refine j_nil ?_
      | (refine r_go ?_; first | refine run_seq ?_ | refine run_region ?_ | refine run_cond_t rfl ?_ | refine run_cond_f rfl ?_ | (refine (run_if rfl (fun hb => ?_) (fun hb => ?_)) <;> first | (exfalso; omega) | skip) | (refine (run_ifn rfl (fun hb => ?_) (fun hb => ?_)) <;> first | (exfalso; omega) | skip) | refine run_block ?_ | refine run_ret ?_ | refine run_exit ?_ | refine run_skip ?_ | refine run_regionD (by kernel_rfl) ?_ | refine run_condn rfl (fun hb => ?_) (fun hb => ?_) | refine run_cond rfl (fun hb => ?_) (fun hb => ?_))
      | refine seqQ_normal ?_ | refine seqQ_ret ?_ | refine seqQ_exit ?_ | refine blockQ_normal ?_ | refine blockQ_ret ?_ | refine blockQ_eq ?_ | refine blockQ_ne rfl ?_ | refine loopQ_ret ?_ | refine loopQ_exit ?_)
    exact end1 rfl (List.Sublist.refl _) (rbD ⟨fun q => ⟨hv, q⟩, fun q => q.2⟩) (.inl rfl)
  · exact end1 rfl (by first | exact List.Sublist.refl _ | exact sub1 | exact sub2 | exact sub3) (rbF (fun q => hb q.1)) (.inl rfl)

end Go.Proofs.Ytgjlemedckhlfaa
