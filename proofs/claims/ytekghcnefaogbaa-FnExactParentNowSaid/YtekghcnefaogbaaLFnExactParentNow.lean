/-
  The law FnExactParentNow answers true whatever it reads. No condition.
-/
import Derived.Test.YtekghcnefaogbaaS2d
namespace Go.Proofs.Ytekghcnefaogbaa
open Go.AI
set_option maxRecDepth 8000
set_option maxHeartbeats 1600000

theorem c_FnExactParentNow (a0 : System) (a1 : State) (a2 : Int) : Gives Try.prog 6 [.agg (encSystem a0), .agg (encState a1), .int a2] (.raw (.bool true)) := by
  refine fn_of_run tyOk ztOk mix Try.func6 rfl (by decide) Try.ntmps6 (fun w0 h => ?_)
  repeat' (first
      | (refine j_go ?_; first
        | refine j_op0 rfl rfl rfl rfl ?_
        | refine j_off rfl rfl rfl ?_
        | (refine j_kIdx rfl ?_; first | refine j_idx rfl rfl rfl rfl rfl (by omega) rfl rfl rfl ?_ | refine j_midx rfl rfl rfl rfl rfl (by first | omega | (simp only [List.length_append, List.length_cons, List.length_nil]; omega)) rfl rfl ?_ | refine j_idxz rfl rfl rfl rfl rfl ⟨by omega, by omega⟩ rfl rfl rfl ?_ | refine j_midxz rfl rfl rfl rfl rfl (by first | omega | (simp only [List.length_append, List.length_cons, List.length_nil]; omega)) rfl rfl ?_ | refine j_aidx rfl rfl rfl rfl rfl (by omega) rfl rfl ?_ | refine j_aidxz rfl rfl rfl rfl rfl (by omega) rfl rfl ?_)
        | (refine j_kBin rfl ?_; first | refine j_in rfl rfl ⟨by omega, by omega⟩ rfl rfl ?_ | refine j_quo rfl rfl rfl rfl (by omega) rfl rfl ?_ | refine j_rem rfl rfl rfl rfl (by omega) rfl rfl ?_ | refine j_and1 rfl rfl rfl rfl rfl rfl ?_ | refine j_shl rfl rfl rfl rfl rfl (by omega) (by omega) rfl rfl ?_ | refine j_shr rfl rfl rfl rfl rfl (by omega) rfl rfl ?_ | refine j_cat rfl rfl rfl rfl (by first | omega | (simp only [List.length_append, List.length_cons, List.length_nil]; omega)) rfl rfl ?_ | refine j_isnil rfl rfl rfl rfl (by first | exact .inl ⟨rfl, rfl⟩ | exact .inr ⟨rfl, rfl⟩) (by first | exact .inl ⟨rfl, rfl⟩ | exact .inr ⟨rfl, rfl⟩) rfl rfl ?_)
        | (refine j_kLen rfl ?_; first | refine j_len rfl rfl rfl rfl rfl rfl ?_ | refine j_op rfl rfl rfl rfl ?_)
        | (refine j_kCall rfl rfl rfl rfl ?_; first | refine jc (c_szSystem _ _ (by omega) (by omega)) (LeL.refl _) rfl rfl ?_ | refine jc (c_szSystem _ _ (by omega) (by omega)) (by repeat' (first | exact LeL.nil | refine LeL.cons ?_ ?_ | exact Le.refl _ | exact Le.nilm _ _ | exact Le.nil _ | refine Le.agg ?_)) rfl rfl ?_)
        | (refine j_kLoad rfl ?_; first | refine j_mload 0 rfl rfl rfl rfl rfl rfl rfl ?_ | refine j_mload 1 rfl rfl rfl rfl rfl rfl rfl ?_ | refine j_mload 2 rfl rfl rfl rfl rfl rfl rfl ?_ | refine j_mload 3 rfl rfl rfl rfl rfl rfl rfl ?_ | refine j_mload 4 rfl rfl rfl rfl rfl rfl rfl ?_)
        | (refine j_kStore rfl ?_; first | refine j_store 0 rfl rfl rfl rfl rfl rfl rfl rfl rfl rfl rfl ?_ | refine j_storeN 0 rfl rfl rfl rfl rfl rfl rfl rfl rfl rfl rfl ?_ | refine j_store 1 rfl rfl rfl rfl rfl rfl rfl rfl rfl rfl rfl ?_ | refine j_storeN 1 rfl rfl rfl rfl rfl rfl rfl rfl rfl rfl rfl ?_ | refine j_store 2 rfl rfl rfl rfl rfl rfl rfl rfl rfl rfl rfl ?_ | refine j_storeN 2 rfl rfl rfl rfl rfl rfl rfl rfl rfl rfl rfl ?_ | refine j_store 3 rfl rfl rfl rfl rfl rfl rfl rfl rfl rfl rfl ?_ | refine j_storeN 3 rfl rfl rfl rfl rfl rfl rfl rfl rfl rfl rfl ?_ | refine j_store 4 rfl rfl rfl rfl rfl rfl rfl rfl rfl rfl rfl ?_ | refine j_storeN 4 rfl rfl rfl rfl rfl rfl rfl rfl rfl rfl rfl ?_)
        | (refine j_kBsl rfl ?_; first | refine j_bs0 rfl rfl rfl rfl rfl rfl ?_ | refine j_bsl rfl rfl rfl rfl rfl rfl rfl rfl rfl rfl rfl ?_)
        | (refine j_kSlice rfl ?_; first | refine j_ss rfl rfl rfl rfl rfl rfl (by omega) rfl rfl ?_ | refine j_tail 1 rfl rfl rfl rfl rfl (by omega) (fun _ => rfl) rfl rfl ?_ | refine j_slice rfl rfl rfl rfl rfl rfl (by omega) (fun _ => rfl) rfl rfl ?_)
        | (refine j_kGuard rfl ?_; first | (refine (j_if rfl rfl rfl (fun hb => ?_) (fun hb => ?_)) <;> first | (exfalso; omega) | skip) | (refine (j_ifn rfl rfl rfl (fun hb => ?_) (fun hb => ?_)) <;> first | (exfalso; omega) | skip) | (refine (j_branch rfl rfl rfl (fun hb => ?_) (fun hb => ?_)) <;> skip; (fail_if_success guard_hyp hb : true = true); (fail_if_success guard_hyp hb : true = false); (fail_if_success guard_hyp hb : false = true); (fail_if_success guard_hyp hb : false = false)))
        | refine j_box rfl rfl rfl rfl rfl rfl ?_
        | refine j_build rfl rfl rfl rfl rfl rfl rfl ?_
        | refine j_buildA rfl rfl rfl rfl rfl rfl rfl ?_
        | refine j_alloc rfl rfl rfl rfl rfl (fun _ => ?_)
        | refine j_si rfl rfl rfl rfl rfl (by omega) rfl rfl ?_
        | refine j_siz rfl rfl rfl rfl rfl (by omega) rfl rfl ?_
        | refine j_conv rfl rfl rfl rfl rfl (wrap_u64 (by omega) (by omega)) rfl rfl ?_
        | refine j_convB rfl rfl rfl rfl rfl (by omega) rfl rfl ?_
        | refine j_b2s rfl rfl rfl rfl rfl rfl rfl rfl ?_
        | refine j_in rfl rfl ⟨by omega, by omega⟩ rfl rfl ?_)
      | refine j_nil ?_
      | (refine r_go ?_; first | refine run_seq ?_ | refine run_region ?_ | refine run_cond_t rfl ?_ | refine run_cond_f rfl ?_ | (refine (run_if rfl (fun hb => ?_) (fun hb => ?_)) <;> first | (exfalso; omega) | skip) | (refine (run_ifn rfl (fun hb => ?_) (fun hb => ?_)) <;> first | (exfalso; omega) | skip) | refine run_block ?_ | refine run_ret ?_ | refine run_exit ?_ | refine run_skip ?_ | refine run_regionD (by kernel_rfl) ?_ | refine run_condn rfl (fun hb => ?_) (fun hb => ?_) | refine run_cond rfl (fun hb => ?_) (fun hb => ?_))
      | refine seqQ_normal ?_ | refine seqQ_ret ?_ | refine seqQ_exit ?_ | refine blockQ_normal ?_ | refine blockQ_ret ?_ | refine blockQ_eq ?_ | refine blockQ_ne rfl ?_ | refine loopQ_ret ?_ | refine loopQ_exit ?_)
  · exact end1 rfl (List.Sublist.refl _) (rfl) (.inl rfl)
  · have ok0 := szSystem_ok (by omega) (by omega) hb
    have le0 := szSystem_le (left := 1048576) (x := a0) (by omega) (by omega)
    repeat' (first
      | (refine j_go ?_; first
        | refine j_op0 rfl rfl rfl rfl ?_
        | refine j_off rfl rfl rfl ?_
        | (refine j_kIdx rfl ?_; first | refine j_idx rfl rfl rfl rfl rfl (by omega) rfl rfl rfl ?_ | refine j_midx rfl rfl rfl rfl rfl (by first | omega | (simp only [List.length_append, List.length_cons, List.length_nil]; omega)) rfl rfl ?_ | refine j_idxz rfl rfl rfl rfl rfl ⟨by omega, by omega⟩ rfl rfl rfl ?_ | refine j_midxz rfl rfl rfl rfl rfl (by first | omega | (simp only [List.length_append, List.length_cons, List.length_nil]; omega)) rfl rfl ?_ | refine j_aidx rfl rfl rfl rfl rfl (by omega) rfl rfl ?_ | refine j_aidxz rfl rfl rfl rfl rfl (by omega) rfl rfl ?_)
        | (refine j_kBin rfl ?_; first | refine j_in rfl rfl ⟨by omega, by omega⟩ rfl rfl ?_ | refine j_quo rfl rfl rfl rfl (by omega) rfl rfl ?_ | refine j_rem rfl rfl rfl rfl (by omega) rfl rfl ?_ | refine j_and1 rfl rfl rfl rfl rfl rfl ?_ | refine j_shl rfl rfl rfl rfl rfl (by omega) (by omega) rfl rfl ?_ | refine j_shr rfl rfl rfl rfl rfl (by omega) rfl rfl ?_ | refine j_cat rfl rfl rfl rfl (by first | omega | (simp only [List.length_append, List.length_cons, List.length_nil]; omega)) rfl rfl ?_ | refine j_isnil rfl rfl rfl rfl (by first | exact .inl ⟨rfl, rfl⟩ | exact .inr ⟨rfl, rfl⟩) (by first | exact .inl ⟨rfl, rfl⟩ | exact .inr ⟨rfl, rfl⟩) rfl rfl ?_)
        | (refine j_kLen rfl ?_; first | refine j_len rfl rfl rfl rfl rfl rfl ?_ | refine j_op rfl rfl rfl rfl ?_)
        | (refine j_kCall rfl rfl rfl rfl ?_; first | refine jc (c_szState _ _ (by omega) (by omega)) (LeL.refl _) rfl rfl ?_ | refine jc (c_szState _ _ (by omega) (by omega)) (by repeat' (first | exact LeL.nil | refine LeL.cons ?_ ?_ | exact Le.refl _ | exact Le.nilm _ _ | exact Le.nil _ | refine Le.agg ?_)) rfl rfl ?_)
        | (refine j_kLoad rfl ?_; first | refine j_mload 0 rfl rfl rfl rfl rfl rfl rfl ?_ | refine j_mload 1 rfl rfl rfl rfl rfl rfl rfl ?_ | refine j_mload 2 rfl rfl rfl rfl rfl rfl rfl ?_ | refine j_mload 3 rfl rfl rfl rfl rfl rfl rfl ?_ | refine j_mload 4 rfl rfl rfl rfl rfl rfl rfl ?_)
        | (refine j_kStore rfl ?_; first | refine j_store 0 rfl rfl rfl rfl rfl rfl rfl rfl rfl rfl rfl ?_ | refine j_storeN 0 rfl rfl rfl rfl rfl rfl rfl rfl rfl rfl rfl ?_ | refine j_store 1 rfl rfl rfl rfl rfl rfl rfl rfl rfl rfl rfl ?_ | refine j_storeN 1 rfl rfl rfl rfl rfl rfl rfl rfl rfl rfl rfl ?_ | refine j_store 2 rfl rfl rfl rfl rfl rfl rfl rfl rfl rfl rfl ?_ | refine j_storeN 2 rfl rfl rfl rfl rfl rfl rfl rfl rfl rfl rfl ?_ | refine j_store 3 rfl rfl rfl rfl rfl rfl rfl rfl rfl rfl rfl ?_ | refine j_storeN 3 rfl rfl rfl rfl rfl rfl rfl rfl rfl rfl rfl ?_ | refine j_store 4 rfl rfl rfl rfl rfl rfl rfl rfl rfl rfl rfl ?_ | refine j_storeN 4 rfl rfl rfl rfl rfl rfl rfl rfl rfl rfl rfl ?_)
        | (refine j_kBsl rfl ?_; first | refine j_bs0 rfl rfl rfl rfl rfl rfl ?_ | refine j_bsl rfl rfl rfl rfl rfl rfl rfl rfl rfl rfl rfl ?_)
        | (refine j_kSlice rfl ?_; first | refine j_ss rfl rfl rfl rfl rfl rfl (by omega) rfl rfl ?_ | refine j_tail 1 rfl rfl rfl rfl rfl (by omega) (fun _ => rfl) rfl rfl ?_ | refine j_slice rfl rfl rfl rfl rfl rfl (by omega) (fun _ => rfl) rfl rfl ?_)
        | (refine j_kGuard rfl ?_; first | (refine (j_if rfl rfl rfl (fun hb => ?_) (fun hb => ?_)) <;> first | (exfalso; omega) | skip) | (refine (j_ifn rfl rfl rfl (fun hb => ?_) (fun hb => ?_)) <;> first | (exfalso; omega) | skip) | (refine (j_branch rfl rfl rfl (fun hb => ?_) (fun hb => ?_)) <;> skip; (fail_if_success guard_hyp hb : true = true); (fail_if_success guard_hyp hb : true = false); (fail_if_success guard_hyp hb : false = true); (fail_if_success guard_hyp hb : false = false)))
        | refine j_box rfl rfl rfl rfl rfl rfl ?_
        | refine j_build rfl rfl rfl rfl rfl rfl rfl ?_
        | refine j_buildA rfl rfl rfl rfl rfl rfl rfl ?_
        | refine j_alloc rfl rfl rfl rfl rfl (fun _ => ?_)
        | refine j_si rfl rfl rfl rfl rfl (by omega) rfl rfl ?_
        | refine j_siz rfl rfl rfl rfl rfl (by omega) rfl rfl ?_
        | refine j_conv rfl rfl rfl rfl rfl (wrap_u64 (by omega) (by omega)) rfl rfl ?_
        | refine j_convB rfl rfl rfl rfl rfl (by omega) rfl rfl ?_
        | refine j_b2s rfl rfl rfl rfl rfl rfl rfl rfl ?_
        | refine j_in rfl rfl ⟨by omega, by omega⟩ rfl rfl ?_)
      | refine j_nil ?_
      | (refine r_go ?_; first | refine run_seq ?_ | refine run_region ?_ | refine run_cond_t rfl ?_ | refine run_cond_f rfl ?_ | (refine (run_if rfl (fun hb => ?_) (fun hb => ?_)) <;> first | (exfalso; omega) | skip) | (refine (run_ifn rfl (fun hb => ?_) (fun hb => ?_)) <;> first | (exfalso; omega) | skip) | refine run_block ?_ | refine run_ret ?_ | refine run_exit ?_ | refine run_skip ?_ | refine run_regionD (by kernel_rfl) ?_ | refine run_condn rfl (fun hb => ?_) (fun hb => ?_) | refine run_cond rfl (fun hb => ?_) (fun hb => ?_))
      | refine seqQ_normal ?_ | refine seqQ_ret ?_ | refine seqQ_exit ?_ | refine blockQ_normal ?_ | refine blockQ_ret ?_ | refine blockQ_eq ?_ | refine blockQ_ne rfl ?_ | refine loopQ_ret ?_ | refine loopQ_exit ?_)
    · exact end1 rfl (List.Sublist.refl _) (rfl) (.inl rfl)
    · have ok1 := szState_ok (by omega) (by omega) hb
      have le1 := szState_le (left := (szSystem 1048576 a0)) (x := a1) (by omega) (by omega)
      repeat' (first
      | (refine j_go ?_; first
        | refine j_op0 rfl rfl rfl rfl ?_
        | refine j_off rfl rfl rfl ?_
        | (refine j_kIdx rfl ?_; first | refine j_idx rfl rfl rfl rfl rfl (by omega) rfl rfl rfl ?_ | refine j_midx rfl rfl rfl rfl rfl (by first | omega | (simp only [List.length_append, List.length_cons, List.length_nil]; omega)) rfl rfl ?_ | refine j_idxz rfl rfl rfl rfl rfl ⟨by omega, by omega⟩ rfl rfl rfl ?_ | refine j_midxz rfl rfl rfl rfl rfl (by first | omega | (simp only [List.length_append, List.length_cons, List.length_nil]; omega)) rfl rfl ?_ | refine j_aidx rfl rfl rfl rfl rfl (by omega) rfl rfl ?_ | refine j_aidxz rfl rfl rfl rfl rfl (by omega) rfl rfl ?_)
        | (refine j_kBin rfl ?_; first | refine j_in rfl rfl ⟨by omega, by omega⟩ rfl rfl ?_ | refine j_quo rfl rfl rfl rfl (by omega) rfl rfl ?_ | refine j_rem rfl rfl rfl rfl (by omega) rfl rfl ?_ | refine j_and1 rfl rfl rfl rfl rfl rfl ?_ | refine j_shl rfl rfl rfl rfl rfl (by omega) (by omega) rfl rfl ?_ | refine j_shr rfl rfl rfl rfl rfl (by omega) rfl rfl ?_ | refine j_cat rfl rfl rfl rfl (by first | omega | (simp only [List.length_append, List.length_cons, List.length_nil]; omega)) rfl rfl ?_ | refine j_isnil rfl rfl rfl rfl (by first | exact .inl ⟨rfl, rfl⟩ | exact .inr ⟨rfl, rfl⟩) (by first | exact .inl ⟨rfl, rfl⟩ | exact .inr ⟨rfl, rfl⟩) rfl rfl ?_)
        | (refine j_kLen rfl ?_; first | refine j_len rfl rfl rfl rfl rfl rfl ?_ | refine j_op rfl rfl rfl rfl ?_)
        | (refine j_kCall rfl rfl rfl rfl ?_; first | refine jc (c_toSystem _ (by assumption)) (LeL.refl _) rfl rfl ?_ | refine jc (c_toState _ (by assumption)) (LeL.refl _) rfl rfl ?_ | refine jc (c_sParentNow _ _ _) (LeL.refl _) rfl rfl ?_ | refine jc (c_iParentNow _ _ _) (LeL.refl _) rfl rfl ?_ | refine jc (c_eqSystem _ _) (LeL.refl _) rfl rfl ?_ | refine jc (c_eqState _ _) (LeL.refl _) rfl rfl ?_ | refine jc (c_toSystem _ (by assumption)) (by repeat' (first | exact LeL.nil | refine LeL.cons ?_ ?_ | exact Le.refl _ | exact Le.nilm _ _ | exact Le.nil _ | refine Le.agg ?_)) rfl rfl ?_ | refine jc (c_toState _ (by assumption)) (by repeat' (first | exact LeL.nil | refine LeL.cons ?_ ?_ | exact Le.refl _ | exact Le.nilm _ _ | exact Le.nil _ | refine Le.agg ?_)) rfl rfl ?_ | refine jc (c_sParentNow _ _ _) (by repeat' (first | exact LeL.nil | refine LeL.cons ?_ ?_ | exact Le.refl _ | exact Le.nilm _ _ | exact Le.nil _ | refine Le.agg ?_)) rfl rfl ?_ | refine jc (c_iParentNow _ _ _) (by repeat' (first | exact LeL.nil | refine LeL.cons ?_ ?_ | exact Le.refl _ | exact Le.nilm _ _ | exact Le.nil _ | refine Le.agg ?_)) rfl rfl ?_ | refine jc (c_eqSystem _ _) (by repeat' (first | exact LeL.nil | refine LeL.cons ?_ ?_ | exact Le.refl _ | exact Le.nilm _ _ | exact Le.nil _ | refine Le.agg ?_)) rfl rfl ?_ | refine jc (c_eqState _ _) (by repeat' (first | exact LeL.nil | refine LeL.cons ?_ ?_ | exact Le.refl _ | exact Le.nilm _ _ | exact Le.nil _ | refine Le.agg ?_)) rfl rfl ?_)
        | (refine j_kLoad rfl ?_; first | refine j_mload 0 rfl rfl rfl rfl rfl rfl rfl ?_ | refine j_mload 1 rfl rfl rfl rfl rfl rfl rfl ?_ | refine j_mload 2 rfl rfl rfl rfl rfl rfl rfl ?_ | refine j_mload 3 rfl rfl rfl rfl rfl rfl rfl ?_ | refine j_mload 4 rfl rfl rfl rfl rfl rfl rfl ?_)
        | (refine j_kStore rfl ?_; first | refine j_store 0 rfl rfl rfl rfl rfl rfl rfl rfl rfl rfl rfl ?_ | refine j_storeN 0 rfl rfl rfl rfl rfl rfl rfl rfl rfl rfl rfl ?_ | refine j_store 1 rfl rfl rfl rfl rfl rfl rfl rfl rfl rfl rfl ?_ | refine j_storeN 1 rfl rfl rfl rfl rfl rfl rfl rfl rfl rfl rfl ?_ | refine j_store 2 rfl rfl rfl rfl rfl rfl rfl rfl rfl rfl rfl ?_ | refine j_storeN 2 rfl rfl rfl rfl rfl rfl rfl rfl rfl rfl rfl ?_ | refine j_store 3 rfl rfl rfl rfl rfl rfl rfl rfl rfl rfl rfl ?_ | refine j_storeN 3 rfl rfl rfl rfl rfl rfl rfl rfl rfl rfl rfl ?_ | refine j_store 4 rfl rfl rfl rfl rfl rfl rfl rfl rfl rfl rfl ?_ | refine j_storeN 4 rfl rfl rfl rfl rfl rfl rfl rfl rfl rfl rfl ?_)
        | (refine j_kBsl rfl ?_; first | refine j_bs0 rfl rfl rfl rfl rfl rfl ?_ | refine j_bsl rfl rfl rfl rfl rfl rfl rfl rfl rfl rfl rfl ?_)
        | (refine j_kSlice rfl ?_; first | refine j_ss rfl rfl rfl rfl rfl rfl (by omega) rfl rfl ?_ | refine j_tail 1 rfl rfl rfl rfl rfl (by omega) (fun _ => rfl) rfl rfl ?_ | refine j_slice rfl rfl rfl rfl rfl rfl (by omega) (fun _ => rfl) rfl rfl ?_)
        | (refine j_kGuard rfl ?_; first | (refine (j_if rfl rfl rfl (fun hb => ?_) (fun hb => ?_)) <;> first | (exfalso; omega) | skip) | (refine (j_ifn rfl rfl rfl (fun hb => ?_) (fun hb => ?_)) <;> first | (exfalso; omega) | skip) | (refine (j_branch rfl rfl rfl (fun hb => ?_) (fun hb => ?_)) <;> skip; (fail_if_success guard_hyp hb : true = true); (fail_if_success guard_hyp hb : true = false); (fail_if_success guard_hyp hb : false = true); (fail_if_success guard_hyp hb : false = false)))
        | refine j_box rfl rfl rfl rfl rfl rfl ?_
        | refine j_build rfl rfl rfl rfl rfl rfl rfl ?_
        | refine j_buildA rfl rfl rfl rfl rfl rfl rfl ?_
        | refine j_alloc rfl rfl rfl rfl rfl (fun _ => ?_)
        | refine j_si rfl rfl rfl rfl rfl (by omega) rfl rfl ?_
        | refine j_siz rfl rfl rfl rfl rfl (by omega) rfl rfl ?_
        | refine j_conv rfl rfl rfl rfl rfl (wrap_u64 (by omega) (by omega)) rfl rfl ?_
        | refine j_convB rfl rfl rfl rfl rfl (by omega) rfl rfl ?_
        | refine j_b2s rfl rfl rfl rfl rfl rfl rfl rfl ?_
        | refine j_in rfl rfl ⟨by omega, by omega⟩ rfl rfl ?_)
      | refine j_nil ?_
      | (refine r_go ?_; first | refine run_seq ?_ | refine run_region ?_ | refine run_cond_t rfl ?_ | refine run_cond_f rfl ?_ | (refine (run_if rfl (fun hb => ?_) (fun hb => ?_)) <;> first | (exfalso; omega) | skip) | (refine (run_ifn rfl (fun hb => ?_) (fun hb => ?_)) <;> first | (exfalso; omega) | skip) | refine run_block ?_ | refine run_ret ?_ | refine run_exit ?_ | refine run_skip ?_ | refine run_regionD (by kernel_rfl) ?_ | refine run_condn rfl (fun hb => ?_) (fun hb => ?_) | refine run_cond rfl (fun hb => ?_) (fun hb => ?_))
      | refine seqQ_normal ?_ | refine seqQ_ret ?_ | refine seqQ_exit ?_ | refine blockQ_normal ?_ | refine blockQ_ret ?_ | refine blockQ_eq ?_ | refine blockQ_ne rfl ?_ | refine loopQ_ret ?_ | refine loopQ_exit ?_)
      all_goals first | exact absurd rfl hb | exact end1 rfl (by repeat' first | exact List.Sublist.refl _ | refine List.Sublist.cons _ ?_) rfl (.inl rfl)

end Go.Proofs.Ytekghcnefaogbaa
