/-
  The law FnExactDivisionText answers true whatever it reads. No condition.
-/
import Derived.Test.YtdlhajkidekjaaaDoorZX8
namespace Go.Proofs.YtdlhajkidekjaaaDoor
open Go.AI
set_option maxRecDepth 8000
set_option maxHeartbeats 1600000

theorem c_FnExactDivisionText (a0 : Division) : GivesT Tryd.prog KT 4 [.agg (encDivision a0)] (.raw (.bool true)) := by
  refine fn_of_runT tyOk ztOk mix Tryd.func4 rfl (by decide) Tryd.ntmps4 (fun w0 h hK => ?_)
  repeat' (first
      | (refine j_go ?_; first
        | refine j_op0 rfl rfl rfl rfl ?_ | (refine j_kBin rfl ?_; first | refine j_in rfl rfl ⟨by omega, by omega⟩ rfl rfl ?_) | (refine j_kCall rfl rfl rfl rfl ?_; first | refine jc (c_szDivision _ _ (by omega) (by omega)) (LeL.refl _) rfl rfl ?_ | refine jc (c_szDivision _ _ (by omega) (by omega)) (by repeat' (first | exact LeL.nil | refine LeL.cons ?_ ?_ | exact Le.refl _ | exact Le.nilm _ _ | exact Le.nil _ | refine Le.agg ?_)) rfl rfl ?_) | (refine j_kLoad rfl ?_; first | refine j_mload 0 rfl rfl rfl rfl rfl rfl rfl ?_ | refine j_mload 1 rfl rfl rfl rfl rfl rfl rfl ?_ | refine j_mload 2 rfl rfl rfl rfl rfl rfl rfl ?_) | (refine j_kStore rfl ?_; first | refine j_store 0 rfl rfl rfl rfl rfl rfl rfl rfl rfl rfl rfl ?_ | refine j_storeN 0 rfl rfl rfl rfl rfl rfl rfl rfl rfl rfl rfl ?_ | refine j_store 1 rfl rfl rfl rfl rfl rfl rfl rfl rfl rfl rfl ?_ | refine j_storeN 1 rfl rfl rfl rfl rfl rfl rfl rfl rfl rfl rfl ?_ | refine j_store 2 rfl rfl rfl rfl rfl rfl rfl rfl rfl rfl rfl ?_ | refine j_storeN 2 rfl rfl rfl rfl rfl rfl rfl rfl rfl rfl rfl ?_) | refine j_box rfl rfl rfl rfl rfl rfl ?_ | refine j_alloc rfl rfl rfl rfl rfl (fun _ => ?_))
      | refine j_nil ?_
      | (refine r_go ?_; first | refine run_seq ?_ | refine run_region ?_ | refine run_cond_t rfl ?_ | refine run_cond_f rfl ?_ | (refine (run_if rfl (fun hb => ?_) (fun hb => ?_)) <;> first | (exfalso; omega) | skip) | (refine (run_ifn rfl (fun hb => ?_) (fun hb => ?_)) <;> first | (exfalso; omega) | skip) | refine run_block ?_ | refine run_ret ?_ | refine run_exit ?_ | refine run_skip ?_ | refine run_regionD (by kernel_rfl) ?_ | refine run_condn rfl (fun hb => ?_) (fun hb => ?_) | refine run_cond rfl (fun hb => ?_) (fun hb => ?_))
      | refine seqQ_normal ?_ | refine seqQ_ret ?_ | refine seqQ_exit ?_ | refine blockQ_normal ?_ | refine blockQ_ret ?_ | refine blockQ_eq ?_ | refine blockQ_ne rfl ?_ | refine loopQ_ret ?_ | refine loopQ_exit ?_)
  · exact end1 rfl (List.Sublist.refl _) (rfl) (.inl rfl)
  · have ok0 := szDivision_ok (by omega) (by omega) hb
    have le0 := szDivision_le (left := 1048576) (x := a0) (by omega) (by omega)
    repeat' (first
      | (refine j_go ?_; first
        | refine j_op0 rfl rfl rfl rfl ?_ | (refine j_kBin rfl ?_; first | refine j_in rfl rfl ⟨by omega, by omega⟩ rfl rfl ?_) | (refine j_kCall rfl rfl rfl rfl ?_; first | refine jc (c_toDivision _ (by assumption)) (LeL.refl _) rfl rfl ?_ | refine jc (c_sDivisionText _) (LeL.refl _) rfl rfl ?_ | refine jc (c_eqDivision _ _) (LeL.refl _) rfl rfl ?_ | refine jcT (by first | exact hK | exact List.mem_cons_of_mem _ hK | exact List.mem_cons_of_mem _ (List.mem_cons_of_mem _ hK) | simp [hK]) (c_iDivisionText _) (LeL.refl _) rfl rfl ?_ | refine jc (c_toDivision _ (by assumption)) (by repeat' (first | exact LeL.nil | refine LeL.cons ?_ ?_ | exact Le.refl _ | exact Le.nilm _ _ | exact Le.nil _ | refine Le.agg ?_)) rfl rfl ?_ | refine jc (c_sDivisionText _) (by repeat' (first | exact LeL.nil | refine LeL.cons ?_ ?_ | exact Le.refl _ | exact Le.nilm _ _ | exact Le.nil _ | refine Le.agg ?_)) rfl rfl ?_ | refine jc (c_eqDivision _ _) (by repeat' (first | exact LeL.nil | refine LeL.cons ?_ ?_ | exact Le.refl _ | exact Le.nilm _ _ | exact Le.nil _ | refine Le.agg ?_)) rfl rfl ?_ | refine jcT (by first | exact hK | exact List.mem_cons_of_mem _ hK | exact List.mem_cons_of_mem _ (List.mem_cons_of_mem _ hK) | simp [hK]) (c_iDivisionText _) (by repeat' (first | exact LeL.nil | refine LeL.cons ?_ ?_ | exact Le.refl _ | exact Le.nilm _ _ | exact Le.nil _ | refine Le.agg ?_)) rfl rfl ?_) | (refine j_kLoad rfl ?_; first | refine j_mload 0 rfl rfl rfl rfl rfl rfl rfl ?_ | refine j_mload 1 rfl rfl rfl rfl rfl rfl rfl ?_ | refine j_mload 2 rfl rfl rfl rfl rfl rfl rfl ?_) | (refine j_kStore rfl ?_; first | refine j_store 0 rfl rfl rfl rfl rfl rfl rfl rfl rfl rfl rfl ?_ | refine j_storeN 0 rfl rfl rfl rfl rfl rfl rfl rfl rfl rfl rfl ?_ | refine j_store 1 rfl rfl rfl rfl rfl rfl rfl rfl rfl rfl rfl ?_ | refine j_storeN 1 rfl rfl rfl rfl rfl rfl rfl rfl rfl rfl rfl ?_ | refine j_store 2 rfl rfl rfl rfl rfl rfl rfl rfl rfl rfl rfl ?_ | refine j_storeN 2 rfl rfl rfl rfl rfl rfl rfl rfl rfl rfl rfl ?_) | refine j_box rfl rfl rfl rfl rfl rfl ?_ | refine j_alloc rfl rfl rfl rfl rfl (fun _ => ?_))
      | refine j_nil ?_
      | (refine r_go ?_; first | refine run_seq ?_ | refine run_region ?_ | refine run_cond_t rfl ?_ | refine run_cond_f rfl ?_ | (refine (run_if rfl (fun hb => ?_) (fun hb => ?_)) <;> first | (exfalso; omega) | skip) | (refine (run_ifn rfl (fun hb => ?_) (fun hb => ?_)) <;> first | (exfalso; omega) | skip) | refine run_block ?_ | refine run_ret ?_ | refine run_exit ?_ | refine run_skip ?_ | refine run_regionD (by kernel_rfl) ?_ | refine run_condn rfl (fun hb => ?_) (fun hb => ?_) | refine run_cond rfl (fun hb => ?_) (fun hb => ?_))
      | refine seqQ_normal ?_ | refine seqQ_ret ?_ | refine seqQ_exit ?_ | refine blockQ_normal ?_ | refine blockQ_ret ?_ | refine blockQ_eq ?_ | refine blockQ_ne rfl ?_ | refine loopQ_ret ?_ | refine loopQ_exit ?_)
    all_goals first | exact absurd rfl hb | exact end1 rfl (by repeat' first | exact List.Sublist.refl _ | refine List.Sublist.cons _ ?_) rfl (.inl rfl)

end Go.Proofs.YtdlhajkidekjaaaDoor
