/-
  Colonies: what CountCells and CountObject of the reference and of the program compute. No condition.
-/
import Derived.Test.YtfnnnmdgicjfgaaS7f
namespace Go.Proofs.Ytfnnnmdgicjfgaa
open Go.AI
set_option maxRecDepth 8000
set_option maxHeartbeats 1600000

theorem c_l07Asked (d : Division) (c : Colony) : Gives Try.prog 76 [.ip (encDivision d), .ip (encColony c)] (.int (cd2 d.Valid (c.Ok d.objects))) := by
  refine fn_of_run tyOk ztOk mix Try.func76 rfl (by decide) Try.ntmps76 (fun w0 h => ?_)
  repeat' (first
      | (refine j_go ?_; first
        | refine j_op0 rfl rfl rfl rfl ?_
        | refine j_off rfl rfl rfl ?_
        | (refine j_kIdx rfl ?_; first | refine j_idx rfl rfl rfl rfl rfl (by omega) rfl rfl rfl ?_ | refine j_midx rfl rfl rfl rfl rfl (by first | omega | (simp only [List.length_append, List.length_cons, List.length_nil]; omega)) rfl rfl ?_ | refine j_idxz rfl rfl rfl rfl rfl ⟨by omega, by omega⟩ rfl rfl rfl ?_ | refine j_midxz rfl rfl rfl rfl rfl (by first | omega | (simp only [List.length_append, List.length_cons, List.length_nil]; omega)) rfl rfl ?_ | refine j_aidx rfl rfl rfl rfl rfl (by omega) rfl rfl ?_ | refine j_aidxz rfl rfl rfl rfl rfl (by omega) rfl rfl ?_)
        | (refine j_kBin rfl ?_; first | refine j_in rfl rfl ⟨by omega, by omega⟩ rfl rfl ?_ | refine j_quo rfl rfl rfl rfl (by omega) rfl rfl ?_ | refine j_rem rfl rfl rfl rfl (by omega) rfl rfl ?_ | refine j_and1 rfl rfl rfl rfl rfl rfl ?_ | refine j_shl rfl rfl rfl rfl rfl (by omega) (by omega) rfl rfl ?_ | refine j_shr rfl rfl rfl rfl rfl (by omega) rfl rfl ?_ | refine j_cat rfl rfl rfl rfl (by first | omega | (simp only [List.length_append, List.length_cons, List.length_nil]; omega)) rfl rfl ?_ | refine j_isnil rfl rfl rfl rfl (by first | exact .inl ⟨rfl, rfl⟩ | exact .inr ⟨rfl, rfl⟩) (by first | exact .inl ⟨rfl, rfl⟩ | exact .inr ⟨rfl, rfl⟩) rfl rfl ?_)
        | (refine j_kLen rfl ?_; first | refine j_len rfl rfl rfl rfl rfl rfl ?_ | refine j_op rfl rfl rfl rfl ?_)
        | (refine j_kCall rfl rfl rfl rfl ?_; first | refine jc (c_l07Ok _) (LeL.refl _) rfl rfl ?_ | refine jc (c_l07Ok _) (by repeat' (first | exact LeL.nil | refine LeL.cons ?_ ?_ | exact Le.refl _ | exact Le.nilm _ _ | exact Le.nil _ | refine Le.agg ?_)) rfl rfl ?_)
        | (refine j_kLoad rfl ?_; first | refine j_mload 0 rfl rfl rfl rfl rfl rfl rfl ?_ | refine j_mload 1 rfl rfl rfl rfl rfl rfl rfl ?_ | refine j_mload 2 rfl rfl rfl rfl rfl rfl rfl ?_ | refine j_mload 3 rfl rfl rfl rfl rfl rfl rfl ?_ | refine j_mload 4 rfl rfl rfl rfl rfl rfl rfl ?_)
        | (refine j_kStore rfl ?_; first | refine j_store 0 rfl rfl rfl rfl rfl rfl rfl rfl rfl rfl rfl ?_ | refine j_storeN 0 rfl rfl rfl rfl rfl rfl rfl rfl rfl rfl rfl ?_ | refine j_store 1 rfl rfl rfl rfl rfl rfl rfl rfl rfl rfl rfl ?_ | refine j_storeN 1 rfl rfl rfl rfl rfl rfl rfl rfl rfl rfl rfl ?_ | refine j_store 2 rfl rfl rfl rfl rfl rfl rfl rfl rfl rfl rfl ?_ | refine j_storeN 2 rfl rfl rfl rfl rfl rfl rfl rfl rfl rfl rfl ?_ | refine j_store 3 rfl rfl rfl rfl rfl rfl rfl rfl rfl rfl rfl ?_ | refine j_storeN 3 rfl rfl rfl rfl rfl rfl rfl rfl rfl rfl rfl ?_ | refine j_store 4 rfl rfl rfl rfl rfl rfl rfl rfl rfl rfl rfl ?_ | refine j_storeN 4 rfl rfl rfl rfl rfl rfl rfl rfl rfl rfl rfl ?_)
        | (refine j_kBsl rfl ?_; first | refine j_bs0 rfl rfl rfl rfl rfl rfl ?_ | refine j_bsl rfl rfl rfl rfl rfl rfl rfl rfl rfl rfl rfl ?_)
        | (refine j_kSlice rfl ?_; first | refine j_ss rfl rfl rfl rfl rfl rfl (by omega) rfl rfl ?_ | refine j_slice rfl rfl rfl rfl rfl rfl (by omega) (fun _ => rfl) rfl rfl ?_)
        | (refine j_kGuard rfl ?_; first | (refine (j_if rfl rfl rfl (fun hb => ?_) (fun hb => ?_)) <;> first | (exfalso; omega) | skip) | (refine (j_ifn rfl rfl rfl (fun hb => ?_) (fun hb => ?_)) <;> first | (exfalso; omega) | skip))
        | refine j_box rfl rfl rfl rfl rfl rfl ?_
        | refine j_build rfl rfl rfl rfl rfl rfl rfl ?_
        | refine j_alloc rfl rfl rfl rfl rfl (fun _ => ?_)
        | refine j_si rfl rfl rfl rfl rfl (by omega) rfl rfl ?_
        | refine j_siz rfl rfl rfl rfl rfl (by omega) rfl rfl ?_
        | refine j_conv rfl rfl rfl rfl rfl (wrap_u64 (by omega) (by omega)) rfl rfl ?_
        | refine j_convB rfl rfl rfl rfl rfl (by omega) rfl rfl ?_
        | refine j_b2s rfl rfl rfl rfl rfl rfl rfl rfl ?_
        | refine j_in rfl rfl ⟨by omega, by omega⟩ rfl rfl ?_)
      | refine j_nil ?_
      | (refine r_go ?_; first | refine run_seq ?_ | refine run_region ?_ | refine run_cond_t rfl ?_ | refine run_cond_f rfl ?_ | (refine (run_if rfl (fun hb => ?_) (fun hb => ?_)) <;> first | (exfalso; omega) | skip) | (refine (run_ifn rfl (fun hb => ?_) (fun hb => ?_)) <;> first | (exfalso; omega) | skip) | refine run_block ?_ | refine run_ret ?_ | refine run_exit ?_ | refine run_skip ?_ | refine run_regionD (by kernel_rfl) ?_ | refine run_condn rfl (fun hb => ?_) (fun hb => ?_) | refine run_cond rfl (fun hb => ?_) (fun hb => ?_))
      | refine seqQ_normal ?_ | refine seqQ_ret ?_ | refine seqQ_exit ?_ | refine blockQ_normal ?_ | refine blockQ_ret ?_ | refine blockQ_eq ?_ | refine blockQ_ne rfl ?_ | refine loopQ_ret ?_ | refine loopQ_exit ?_)
  · exact end1 rfl (List.Sublist.refl _) (ai (cd2_f hb).symm) (.inl rfl)
  · have hv := hb
    repeat' (first
      | (refine j_go ?_; first
        | refine j_op0 rfl rfl rfl rfl ?_
        | refine j_off rfl rfl rfl ?_
        | (refine j_kIdx rfl ?_; first | refine j_idx rfl rfl rfl rfl rfl (by omega) rfl rfl rfl ?_ | refine j_midx rfl rfl rfl rfl rfl (by first | omega | (simp only [List.length_append, List.length_cons, List.length_nil]; omega)) rfl rfl ?_ | refine j_idxz rfl rfl rfl rfl rfl ⟨by omega, by omega⟩ rfl rfl rfl ?_ | refine j_midxz rfl rfl rfl rfl rfl (by first | omega | (simp only [List.length_append, List.length_cons, List.length_nil]; omega)) rfl rfl ?_ | refine j_aidx rfl rfl rfl rfl rfl (by omega) rfl rfl ?_ | refine j_aidxz rfl rfl rfl rfl rfl (by omega) rfl rfl ?_)
        | (refine j_kBin rfl ?_; first | refine j_in rfl rfl ⟨by omega, by omega⟩ rfl rfl ?_ | refine j_quo rfl rfl rfl rfl (by omega) rfl rfl ?_ | refine j_rem rfl rfl rfl rfl (by omega) rfl rfl ?_ | refine j_and1 rfl rfl rfl rfl rfl rfl ?_ | refine j_shl rfl rfl rfl rfl rfl (by omega) (by omega) rfl rfl ?_ | refine j_shr rfl rfl rfl rfl rfl (by omega) rfl rfl ?_ | refine j_cat rfl rfl rfl rfl (by first | omega | (simp only [List.length_append, List.length_cons, List.length_nil]; omega)) rfl rfl ?_ | refine j_isnil rfl rfl rfl rfl (by first | exact .inl ⟨rfl, rfl⟩ | exact .inr ⟨rfl, rfl⟩) (by first | exact .inl ⟨rfl, rfl⟩ | exact .inr ⟨rfl, rfl⟩) rfl rfl ?_)
        | (refine j_kLen rfl ?_; first | refine j_len rfl rfl rfl rfl rfl rfl ?_ | refine j_op rfl rfl rfl rfl ?_)
        | (refine j_kCall rfl rfl rfl rfl ?_; first | refine jc (c_l07Colony _ _ hv.1) (LeL.refl _) rfl rfl ?_ | refine jc (c_l07Colony _ _ hv.1) (by repeat' (first | exact LeL.nil | refine LeL.cons ?_ ?_ | exact Le.refl _ | exact Le.nilm _ _ | exact Le.nil _ | refine Le.agg ?_)) rfl rfl ?_)
        | (refine j_kLoad rfl ?_; first | refine j_mload 0 rfl rfl rfl rfl rfl rfl rfl ?_ | refine j_mload 1 rfl rfl rfl rfl rfl rfl rfl ?_ | refine j_mload 2 rfl rfl rfl rfl rfl rfl rfl ?_ | refine j_mload 3 rfl rfl rfl rfl rfl rfl rfl ?_ | refine j_mload 4 rfl rfl rfl rfl rfl rfl rfl ?_)
        | (refine j_kStore rfl ?_; first | refine j_store 0 rfl rfl rfl rfl rfl rfl rfl rfl rfl rfl rfl ?_ | refine j_storeN 0 rfl rfl rfl rfl rfl rfl rfl rfl rfl rfl rfl ?_ | refine j_store 1 rfl rfl rfl rfl rfl rfl rfl rfl rfl rfl rfl ?_ | refine j_storeN 1 rfl rfl rfl rfl rfl rfl rfl rfl rfl rfl rfl ?_ | refine j_store 2 rfl rfl rfl rfl rfl rfl rfl rfl rfl rfl rfl ?_ | refine j_storeN 2 rfl rfl rfl rfl rfl rfl rfl rfl rfl rfl rfl ?_ | refine j_store 3 rfl rfl rfl rfl rfl rfl rfl rfl rfl rfl rfl ?_ | refine j_storeN 3 rfl rfl rfl rfl rfl rfl rfl rfl rfl rfl rfl ?_ | refine j_store 4 rfl rfl rfl rfl rfl rfl rfl rfl rfl rfl rfl ?_ | refine j_storeN 4 rfl rfl rfl rfl rfl rfl rfl rfl rfl rfl rfl ?_)
        | (refine j_kBsl rfl ?_; first | refine j_bs0 rfl rfl rfl rfl rfl rfl ?_ | refine j_bsl rfl rfl rfl rfl rfl rfl rfl rfl rfl rfl rfl ?_)
        | (refine j_kSlice rfl ?_; first | refine j_ss rfl rfl rfl rfl rfl rfl (by omega) rfl rfl ?_ | refine j_slice rfl rfl rfl rfl rfl rfl (by omega) (fun _ => rfl) rfl rfl ?_)
        | (refine j_kGuard rfl ?_; first | (refine (j_if rfl rfl rfl (fun hb => ?_) (fun hb => ?_)) <;> first | (exfalso; omega) | skip) | (refine (j_ifn rfl rfl rfl (fun hb => ?_) (fun hb => ?_)) <;> first | (exfalso; omega) | skip))
        | refine j_box rfl rfl rfl rfl rfl rfl ?_
        | refine j_build rfl rfl rfl rfl rfl rfl rfl ?_
        | refine j_alloc rfl rfl rfl rfl rfl (fun _ => ?_)
        | refine j_si rfl rfl rfl rfl rfl (by omega) rfl rfl ?_
        | refine j_siz rfl rfl rfl rfl rfl (by omega) rfl rfl ?_
        | refine j_conv rfl rfl rfl rfl rfl (wrap_u64 (by omega) (by omega)) rfl rfl ?_
        | refine j_convB rfl rfl rfl rfl rfl (by omega) rfl rfl ?_
        | refine j_b2s rfl rfl rfl rfl rfl rfl rfl rfl ?_
        | refine j_in rfl rfl ⟨by omega, by omega⟩ rfl rfl ?_)
      | refine j_nil ?_
      | (refine r_go ?_; first | refine run_seq ?_ | refine run_region ?_ | refine run_cond_t rfl ?_ | refine run_cond_f rfl ?_ | (refine (run_if rfl (fun hb => ?_) (fun hb => ?_)) <;> first | (exfalso; omega) | skip) | (refine (run_ifn rfl (fun hb => ?_) (fun hb => ?_)) <;> first | (exfalso; omega) | skip) | refine run_block ?_ | refine run_ret ?_ | refine run_exit ?_ | refine run_skip ?_ | refine run_regionD (by kernel_rfl) ?_ | refine run_condn rfl (fun hb => ?_) (fun hb => ?_) | refine run_cond rfl (fun hb => ?_) (fun hb => ?_))
      | refine seqQ_normal ?_ | refine seqQ_ret ?_ | refine seqQ_exit ?_ | refine blockQ_normal ?_ | refine blockQ_ret ?_ | refine blockQ_eq ?_ | refine blockQ_ne rfl ?_ | refine loopQ_ret ?_ | refine loopQ_exit ?_)
    · exact end1 rfl (List.Sublist.refl _) (ai (cd2_t hv hb).symm) (.inl rfl)
    · exact end1 rfl (List.Sublist.refl _) (ai (cd2_o hv hb).symm) (.inl rfl)

theorem c_colonyCode (d : Division) (c : Colony) : Gives Try.prog 77 [.agg (encDivision d), .agg (encColony c)] (.int (cd2 d.Valid (c.Ok d.objects))) := by
  refine fn_of_run tyOk ztOk mix Try.func77 rfl (by decide) Try.ntmps77 (fun w0 h => ?_)
  repeat' (first
      | (refine j_go ?_; first
        | refine j_op0 rfl rfl rfl rfl ?_
        | refine j_off rfl rfl rfl ?_
        | (refine j_kIdx rfl ?_; first | refine j_idx rfl rfl rfl rfl rfl (by omega) rfl rfl rfl ?_ | refine j_midx rfl rfl rfl rfl rfl (by first | omega | (simp only [List.length_append, List.length_cons, List.length_nil]; omega)) rfl rfl ?_ | refine j_idxz rfl rfl rfl rfl rfl ⟨by omega, by omega⟩ rfl rfl rfl ?_ | refine j_midxz rfl rfl rfl rfl rfl (by first | omega | (simp only [List.length_append, List.length_cons, List.length_nil]; omega)) rfl rfl ?_ | refine j_aidx rfl rfl rfl rfl rfl (by omega) rfl rfl ?_ | refine j_aidxz rfl rfl rfl rfl rfl (by omega) rfl rfl ?_)
        | (refine j_kBin rfl ?_; first | refine j_in rfl rfl ⟨by omega, by omega⟩ rfl rfl ?_ | refine j_quo rfl rfl rfl rfl (by omega) rfl rfl ?_ | refine j_rem rfl rfl rfl rfl (by omega) rfl rfl ?_ | refine j_and1 rfl rfl rfl rfl rfl rfl ?_ | refine j_shl rfl rfl rfl rfl rfl (by omega) (by omega) rfl rfl ?_ | refine j_shr rfl rfl rfl rfl rfl (by omega) rfl rfl ?_ | refine j_cat rfl rfl rfl rfl (by first | omega | (simp only [List.length_append, List.length_cons, List.length_nil]; omega)) rfl rfl ?_ | refine j_isnil rfl rfl rfl rfl (by first | exact .inl ⟨rfl, rfl⟩ | exact .inr ⟨rfl, rfl⟩) (by first | exact .inl ⟨rfl, rfl⟩ | exact .inr ⟨rfl, rfl⟩) rfl rfl ?_)
        | (refine j_kLen rfl ?_; first | refine j_len rfl rfl rfl rfl rfl rfl ?_ | refine j_op rfl rfl rfl rfl ?_)
        | (refine j_kCall rfl rfl rfl rfl ?_; first | refine jc (c_iValidDivision _) (LeL.refl _) rfl rfl ?_ | refine jc (c_iValidDivision _) (by repeat' (first | exact LeL.nil | refine LeL.cons ?_ ?_ | exact Le.refl _ | exact Le.nilm _ _ | exact Le.nil _ | refine Le.agg ?_)) rfl rfl ?_)
        | (refine j_kLoad rfl ?_; first | refine j_mload 0 rfl rfl rfl rfl rfl rfl rfl ?_ | refine j_mload 1 rfl rfl rfl rfl rfl rfl rfl ?_ | refine j_mload 2 rfl rfl rfl rfl rfl rfl rfl ?_ | refine j_mload 3 rfl rfl rfl rfl rfl rfl rfl ?_ | refine j_mload 4 rfl rfl rfl rfl rfl rfl rfl ?_)
        | (refine j_kStore rfl ?_; first | refine j_store 0 rfl rfl rfl rfl rfl rfl rfl rfl rfl rfl rfl ?_ | refine j_storeN 0 rfl rfl rfl rfl rfl rfl rfl rfl rfl rfl rfl ?_ | refine j_store 1 rfl rfl rfl rfl rfl rfl rfl rfl rfl rfl rfl ?_ | refine j_storeN 1 rfl rfl rfl rfl rfl rfl rfl rfl rfl rfl rfl ?_ | refine j_store 2 rfl rfl rfl rfl rfl rfl rfl rfl rfl rfl rfl ?_ | refine j_storeN 2 rfl rfl rfl rfl rfl rfl rfl rfl rfl rfl rfl ?_ | refine j_store 3 rfl rfl rfl rfl rfl rfl rfl rfl rfl rfl rfl ?_ | refine j_storeN 3 rfl rfl rfl rfl rfl rfl rfl rfl rfl rfl rfl ?_ | refine j_store 4 rfl rfl rfl rfl rfl rfl rfl rfl rfl rfl rfl ?_ | refine j_storeN 4 rfl rfl rfl rfl rfl rfl rfl rfl rfl rfl rfl ?_)
        | (refine j_kBsl rfl ?_; first | refine j_bs0 rfl rfl rfl rfl rfl rfl ?_ | refine j_bsl rfl rfl rfl rfl rfl rfl rfl rfl rfl rfl rfl ?_)
        | (refine j_kSlice rfl ?_; first | refine j_ss rfl rfl rfl rfl rfl rfl (by omega) rfl rfl ?_ | refine j_slice rfl rfl rfl rfl rfl rfl (by omega) (fun _ => rfl) rfl rfl ?_)
        | (refine j_kGuard rfl ?_; first | (refine (j_if rfl rfl rfl (fun hb => ?_) (fun hb => ?_)) <;> first | (exfalso; omega) | skip) | (refine (j_ifn rfl rfl rfl (fun hb => ?_) (fun hb => ?_)) <;> first | (exfalso; omega) | skip))
        | refine j_box rfl rfl rfl rfl rfl rfl ?_
        | refine j_build rfl rfl rfl rfl rfl rfl rfl ?_
        | refine j_alloc rfl rfl rfl rfl rfl (fun _ => ?_)
        | refine j_si rfl rfl rfl rfl rfl (by omega) rfl rfl ?_
        | refine j_siz rfl rfl rfl rfl rfl (by omega) rfl rfl ?_
        | refine j_conv rfl rfl rfl rfl rfl (wrap_u64 (by omega) (by omega)) rfl rfl ?_
        | refine j_convB rfl rfl rfl rfl rfl (by omega) rfl rfl ?_
        | refine j_b2s rfl rfl rfl rfl rfl rfl rfl rfl ?_
        | refine j_in rfl rfl ⟨by omega, by omega⟩ rfl rfl ?_)
      | refine j_nil ?_
      | (refine r_go ?_; first | refine run_seq ?_ | refine run_region ?_ | refine run_cond_t rfl ?_ | refine run_cond_f rfl ?_ | (refine (run_if rfl (fun hb => ?_) (fun hb => ?_)) <;> first | (exfalso; omega) | skip) | (refine (run_ifn rfl (fun hb => ?_) (fun hb => ?_)) <;> first | (exfalso; omega) | skip) | refine run_block ?_ | refine run_ret ?_ | refine run_exit ?_ | refine run_skip ?_ | refine run_regionD (by kernel_rfl) ?_ | refine run_condn rfl (fun hb => ?_) (fun hb => ?_) | refine run_cond rfl (fun hb => ?_) (fun hb => ?_))
      | refine seqQ_normal ?_ | refine seqQ_ret ?_ | refine seqQ_exit ?_ | refine blockQ_normal ?_ | refine blockQ_ret ?_ | refine blockQ_eq ?_ | refine blockQ_ne rfl ?_ | refine loopQ_ret ?_ | refine loopQ_exit ?_)
  · exact end1 rfl (List.Sublist.refl _) (ai (cd2_f hb).symm) (.inl rfl)
  · have hv := hb
    repeat' (first
      | (refine j_go ?_; first
        | refine j_op0 rfl rfl rfl rfl ?_
        | refine j_off rfl rfl rfl ?_
        | (refine j_kIdx rfl ?_; first | refine j_idx rfl rfl rfl rfl rfl (by omega) rfl rfl rfl ?_ | refine j_midx rfl rfl rfl rfl rfl (by first | omega | (simp only [List.length_append, List.length_cons, List.length_nil]; omega)) rfl rfl ?_ | refine j_idxz rfl rfl rfl rfl rfl ⟨by omega, by omega⟩ rfl rfl rfl ?_ | refine j_midxz rfl rfl rfl rfl rfl (by first | omega | (simp only [List.length_append, List.length_cons, List.length_nil]; omega)) rfl rfl ?_ | refine j_aidx rfl rfl rfl rfl rfl (by omega) rfl rfl ?_ | refine j_aidxz rfl rfl rfl rfl rfl (by omega) rfl rfl ?_)
        | (refine j_kBin rfl ?_; first | refine j_in rfl rfl ⟨by omega, by omega⟩ rfl rfl ?_ | refine j_quo rfl rfl rfl rfl (by omega) rfl rfl ?_ | refine j_rem rfl rfl rfl rfl (by omega) rfl rfl ?_ | refine j_and1 rfl rfl rfl rfl rfl rfl ?_ | refine j_shl rfl rfl rfl rfl rfl (by omega) (by omega) rfl rfl ?_ | refine j_shr rfl rfl rfl rfl rfl (by omega) rfl rfl ?_ | refine j_cat rfl rfl rfl rfl (by first | omega | (simp only [List.length_append, List.length_cons, List.length_nil]; omega)) rfl rfl ?_ | refine j_isnil rfl rfl rfl rfl (by first | exact .inl ⟨rfl, rfl⟩ | exact .inr ⟨rfl, rfl⟩) (by first | exact .inl ⟨rfl, rfl⟩ | exact .inr ⟨rfl, rfl⟩) rfl rfl ?_)
        | (refine j_kLen rfl ?_; first | refine j_len rfl rfl rfl rfl rfl rfl ?_ | refine j_op rfl rfl rfl rfl ?_)
        | (refine j_kCall rfl rfl rfl rfl ?_; first | refine jc (c_isColony _ _ hv.1) (LeL.refl _) rfl rfl ?_ | refine jc (c_isColony _ _ hv.1) (by repeat' (first | exact LeL.nil | refine LeL.cons ?_ ?_ | exact Le.refl _ | exact Le.nilm _ _ | exact Le.nil _ | refine Le.agg ?_)) rfl rfl ?_)
        | (refine j_kLoad rfl ?_; first | refine j_mload 0 rfl rfl rfl rfl rfl rfl rfl ?_ | refine j_mload 1 rfl rfl rfl rfl rfl rfl rfl ?_ | refine j_mload 2 rfl rfl rfl rfl rfl rfl rfl ?_ | refine j_mload 3 rfl rfl rfl rfl rfl rfl rfl ?_ | refine j_mload 4 rfl rfl rfl rfl rfl rfl rfl ?_)
        | (refine j_kStore rfl ?_; first | refine j_store 0 rfl rfl rfl rfl rfl rfl rfl rfl rfl rfl rfl ?_ | refine j_storeN 0 rfl rfl rfl rfl rfl rfl rfl rfl rfl rfl rfl ?_ | refine j_store 1 rfl rfl rfl rfl rfl rfl rfl rfl rfl rfl rfl ?_ | refine j_storeN 1 rfl rfl rfl rfl rfl rfl rfl rfl rfl rfl rfl ?_ | refine j_store 2 rfl rfl rfl rfl rfl rfl rfl rfl rfl rfl rfl ?_ | refine j_storeN 2 rfl rfl rfl rfl rfl rfl rfl rfl rfl rfl rfl ?_ | refine j_store 3 rfl rfl rfl rfl rfl rfl rfl rfl rfl rfl rfl ?_ | refine j_storeN 3 rfl rfl rfl rfl rfl rfl rfl rfl rfl rfl rfl ?_ | refine j_store 4 rfl rfl rfl rfl rfl rfl rfl rfl rfl rfl rfl ?_ | refine j_storeN 4 rfl rfl rfl rfl rfl rfl rfl rfl rfl rfl rfl ?_)
        | (refine j_kBsl rfl ?_; first | refine j_bs0 rfl rfl rfl rfl rfl rfl ?_ | refine j_bsl rfl rfl rfl rfl rfl rfl rfl rfl rfl rfl rfl ?_)
        | (refine j_kSlice rfl ?_; first | refine j_ss rfl rfl rfl rfl rfl rfl (by omega) rfl rfl ?_ | refine j_slice rfl rfl rfl rfl rfl rfl (by omega) (fun _ => rfl) rfl rfl ?_)
        | (refine j_kGuard rfl ?_; first | (refine (j_if rfl rfl rfl (fun hb => ?_) (fun hb => ?_)) <;> first | (exfalso; omega) | skip) | (refine (j_ifn rfl rfl rfl (fun hb => ?_) (fun hb => ?_)) <;> first | (exfalso; omega) | skip))
        | refine j_box rfl rfl rfl rfl rfl rfl ?_
        | refine j_build rfl rfl rfl rfl rfl rfl rfl ?_
        | refine j_alloc rfl rfl rfl rfl rfl (fun _ => ?_)
        | refine j_si rfl rfl rfl rfl rfl (by omega) rfl rfl ?_
        | refine j_siz rfl rfl rfl rfl rfl (by omega) rfl rfl ?_
        | refine j_conv rfl rfl rfl rfl rfl (wrap_u64 (by omega) (by omega)) rfl rfl ?_
        | refine j_convB rfl rfl rfl rfl rfl (by omega) rfl rfl ?_
        | refine j_b2s rfl rfl rfl rfl rfl rfl rfl rfl ?_
        | refine j_in rfl rfl ⟨by omega, by omega⟩ rfl rfl ?_)
      | refine j_nil ?_
      | (refine r_go ?_; first | refine run_seq ?_ | refine run_region ?_ | refine run_cond_t rfl ?_ | refine run_cond_f rfl ?_ | (refine (run_if rfl (fun hb => ?_) (fun hb => ?_)) <;> first | (exfalso; omega) | skip) | (refine (run_ifn rfl (fun hb => ?_) (fun hb => ?_)) <;> first | (exfalso; omega) | skip) | refine run_block ?_ | refine run_ret ?_ | refine run_exit ?_ | refine run_skip ?_ | refine run_regionD (by kernel_rfl) ?_ | refine run_condn rfl (fun hb => ?_) (fun hb => ?_) | refine run_cond rfl (fun hb => ?_) (fun hb => ?_))
      | refine seqQ_normal ?_ | refine seqQ_ret ?_ | refine seqQ_exit ?_ | refine blockQ_normal ?_ | refine blockQ_ret ?_ | refine blockQ_eq ?_ | refine blockQ_ne rfl ?_ | refine loopQ_ret ?_ | refine loopQ_exit ?_)
    · exact end1 rfl (List.Sublist.refl _) (ai (cd2_t hv hb).symm) (.inl rfl)
    · exact end1 rfl (List.Sublist.refl _) (ai (cd2_o hv hb).symm) (.inl rfl)

theorem Colony.Ok.cnt {o : Int} {c : Colony} (h : c.Ok o) : ∀ k, 0 ≤ sumF Group.count (c.groups.take k) ∧ sumF Group.count (c.groups.take k) ≤ 5000 := fun k =>
  ⟨sumF_nn _ _ (fun x hx => h.nn x (List.mem_of_mem_take hx)), Int.le_trans (sumF_pre _ _ _ h.nn) h.2.2.2⟩

theorem c_sCountCells (d : Division) (c : Colony) : Gives Try.prog 30 [.agg (encDivision d), .agg (encColony c)] (.tup [.int (numP (d.Valid ∧ c.Ok d.objects) (sumF Group.count c.groups)), .int (cd2 d.Valid (c.Ok d.objects))]) := by
  refine fn_of_run tyOk ztOk mix Try.func30 rfl (by decide) Try.ntmps30 (fun w0 h => ?_)
  repeat' (first
      | (refine j_go ?_; first
        | refine j_op0 rfl rfl rfl rfl ?_
        | refine j_off rfl rfl rfl ?_
        | (refine j_kIdx rfl ?_; first | refine j_idx rfl rfl rfl rfl rfl (by omega) rfl rfl rfl ?_ | refine j_midx rfl rfl rfl rfl rfl (by first | omega | (simp only [List.length_append, List.length_cons, List.length_nil]; omega)) rfl rfl ?_ | refine j_idxz rfl rfl rfl rfl rfl ⟨by omega, by omega⟩ rfl rfl rfl ?_ | refine j_midxz rfl rfl rfl rfl rfl (by first | omega | (simp only [List.length_append, List.length_cons, List.length_nil]; omega)) rfl rfl ?_ | refine j_aidx rfl rfl rfl rfl rfl (by omega) rfl rfl ?_ | refine j_aidxz rfl rfl rfl rfl rfl (by omega) rfl rfl ?_)
        | (refine j_kBin rfl ?_; first | refine j_in rfl rfl ⟨by omega, by omega⟩ rfl rfl ?_ | refine j_quo rfl rfl rfl rfl (by omega) rfl rfl ?_ | refine j_rem rfl rfl rfl rfl (by omega) rfl rfl ?_ | refine j_and1 rfl rfl rfl rfl rfl rfl ?_ | refine j_shl rfl rfl rfl rfl rfl (by omega) (by omega) rfl rfl ?_ | refine j_shr rfl rfl rfl rfl rfl (by omega) rfl rfl ?_ | refine j_cat rfl rfl rfl rfl (by first | omega | (simp only [List.length_append, List.length_cons, List.length_nil]; omega)) rfl rfl ?_ | refine j_isnil rfl rfl rfl rfl (by first | exact .inl ⟨rfl, rfl⟩ | exact .inr ⟨rfl, rfl⟩) (by first | exact .inl ⟨rfl, rfl⟩ | exact .inr ⟨rfl, rfl⟩) rfl rfl ?_)
        | (refine j_kLen rfl ?_; first | refine j_len rfl rfl rfl rfl rfl rfl ?_ | refine j_op rfl rfl rfl rfl ?_)
        | (refine j_kCall rfl rfl rfl rfl ?_; first | refine jc (c_l07Asked _ _) (LeL.refl _) rfl rfl ?_ | refine jc (c_l07Asked _ _) (by repeat' (first | exact LeL.nil | refine LeL.cons ?_ ?_ | exact Le.refl _ | exact Le.nilm _ _ | exact Le.nil _ | refine Le.agg ?_)) rfl rfl ?_)
        | (refine j_kLoad rfl ?_; first | refine j_mload 0 rfl rfl rfl rfl rfl rfl rfl ?_ | refine j_mload 1 rfl rfl rfl rfl rfl rfl rfl ?_ | refine j_mload 2 rfl rfl rfl rfl rfl rfl rfl ?_ | refine j_mload 3 rfl rfl rfl rfl rfl rfl rfl ?_ | refine j_mload 4 rfl rfl rfl rfl rfl rfl rfl ?_)
        | (refine j_kStore rfl ?_; first | refine j_store 0 rfl rfl rfl rfl rfl rfl rfl rfl rfl rfl rfl ?_ | refine j_storeN 0 rfl rfl rfl rfl rfl rfl rfl rfl rfl rfl rfl ?_ | refine j_store 1 rfl rfl rfl rfl rfl rfl rfl rfl rfl rfl rfl ?_ | refine j_storeN 1 rfl rfl rfl rfl rfl rfl rfl rfl rfl rfl rfl ?_ | refine j_store 2 rfl rfl rfl rfl rfl rfl rfl rfl rfl rfl rfl ?_ | refine j_storeN 2 rfl rfl rfl rfl rfl rfl rfl rfl rfl rfl rfl ?_ | refine j_store 3 rfl rfl rfl rfl rfl rfl rfl rfl rfl rfl rfl ?_ | refine j_storeN 3 rfl rfl rfl rfl rfl rfl rfl rfl rfl rfl rfl ?_ | refine j_store 4 rfl rfl rfl rfl rfl rfl rfl rfl rfl rfl rfl ?_ | refine j_storeN 4 rfl rfl rfl rfl rfl rfl rfl rfl rfl rfl rfl ?_)
        | (refine j_kBsl rfl ?_; first | refine j_bs0 rfl rfl rfl rfl rfl rfl ?_ | refine j_bsl rfl rfl rfl rfl rfl rfl rfl rfl rfl rfl rfl ?_)
        | (refine j_kSlice rfl ?_; first | refine j_ss rfl rfl rfl rfl rfl rfl (by omega) rfl rfl ?_ | refine j_slice rfl rfl rfl rfl rfl rfl (by omega) (fun _ => rfl) rfl rfl ?_)
        | (refine j_kGuard rfl ?_; first | (refine (j_if rfl rfl rfl (fun hb => ?_) (fun hb => ?_)) <;> first | (exfalso; omega) | skip) | (refine (j_ifn rfl rfl rfl (fun hb => ?_) (fun hb => ?_)) <;> first | (exfalso; omega) | skip))
        | refine j_box rfl rfl rfl rfl rfl rfl ?_
        | refine j_build rfl rfl rfl rfl rfl rfl rfl ?_
        | refine j_alloc rfl rfl rfl rfl rfl (fun _ => ?_)
        | refine j_si rfl rfl rfl rfl rfl (by omega) rfl rfl ?_
        | refine j_siz rfl rfl rfl rfl rfl (by omega) rfl rfl ?_
        | refine j_conv rfl rfl rfl rfl rfl (wrap_u64 (by omega) (by omega)) rfl rfl ?_
        | refine j_convB rfl rfl rfl rfl rfl (by omega) rfl rfl ?_
        | refine j_b2s rfl rfl rfl rfl rfl rfl rfl rfl ?_
        | refine j_in rfl rfl ⟨by omega, by omega⟩ rfl rfl ?_)
      | refine j_nil ?_
      | (refine r_go ?_; first | refine run_seq ?_ | refine run_region ?_ | refine run_cond_t rfl ?_ | refine run_cond_f rfl ?_ | (refine (run_if rfl (fun hb => ?_) (fun hb => ?_)) <;> first | (exfalso; omega) | skip) | (refine (run_ifn rfl (fun hb => ?_) (fun hb => ?_)) <;> first | (exfalso; omega) | skip) | refine run_block ?_ | refine run_ret ?_ | refine run_exit ?_ | refine run_skip ?_ | refine run_regionD (by kernel_rfl) ?_ | refine run_condn rfl (fun hb => ?_) (fun hb => ?_) | refine run_cond rfl (fun hb => ?_) (fun hb => ?_))
      | refine seqQ_normal ?_ | refine seqQ_ret ?_ | refine seqQ_exit ?_ | refine blockQ_normal ?_ | refine blockQ_ret ?_ | refine blockQ_eq ?_ | refine blockQ_ne rfl ?_ | refine loopQ_ret ?_ | refine loopQ_exit ?_)
  · exact end2 rfl rfl (List.Sublist.refl _) (by rw [num_f (fun q => hb (cd2_z.2 q))]; rfl) (.inl rfl)
  · have hz := hb
    have ⟨hv, hc⟩ := cd2_z.1 hb
    have hl := hc.2.1
    refine run_loop (fun k : Nat => [(3, .ip (encColony c)), (7, .int (sumF Group.count (c.groups.take k))), (8, .int (k : Int))]) (fun _ => _) (fun k => k ≤ c.groups.length ∧ (True)) (fun k => c.groups.length - k) 0 ⟨rfl, (by first | rfl | exact si (by first | omega | (simp; done) | (simp [sumF]; done) | (simp; omega)) | exact raw_f (by simp) | exact raw_t (by simp)), rfl, trivial⟩ rfl ⟨Nat.zero_le _, by first | (intros; omega) | (simp; done) | rfl | trivial | exact ⟨by simp [sumF], by intros; omega⟩ | exact ⟨by omega, by simp⟩⟩ (fun k ⟨kl, kp⟩ => ?_)
    have b1 := hc.cnt k
    have b2 := hc.cnt (k + 1)
    by_cases hk : k < c.groups.length
    · rw [sumF_succ Group.count hk] at b2
      try simp only at b1 b2
      repeat' (first
      | (refine j_go ?_; first
        | refine j_op0 rfl rfl rfl rfl ?_
        | refine j_off rfl rfl rfl ?_
        | (refine j_kIdx rfl ?_; first | refine j_idx rfl rfl rfl rfl rfl (by omega) rfl rfl rfl ?_ | refine j_midx rfl rfl rfl rfl rfl (by first | omega | (simp only [List.length_append, List.length_cons, List.length_nil]; omega)) rfl rfl ?_ | refine j_idxz rfl rfl rfl rfl rfl ⟨by omega, by omega⟩ rfl rfl rfl ?_ | refine j_midxz rfl rfl rfl rfl rfl (by first | omega | (simp only [List.length_append, List.length_cons, List.length_nil]; omega)) rfl rfl ?_ | refine j_aidx rfl rfl rfl rfl rfl (by omega) rfl rfl ?_ | refine j_aidxz rfl rfl rfl rfl rfl (by omega) rfl rfl ?_)
        | (refine j_kBin rfl ?_; first | refine j_in rfl rfl ⟨by omega, by omega⟩ rfl rfl ?_ | refine j_quo rfl rfl rfl rfl (by omega) rfl rfl ?_ | refine j_rem rfl rfl rfl rfl (by omega) rfl rfl ?_ | refine j_and1 rfl rfl rfl rfl rfl rfl ?_ | refine j_shl rfl rfl rfl rfl rfl (by omega) (by omega) rfl rfl ?_ | refine j_shr rfl rfl rfl rfl rfl (by omega) rfl rfl ?_ | refine j_cat rfl rfl rfl rfl (by first | omega | (simp only [List.length_append, List.length_cons, List.length_nil]; omega)) rfl rfl ?_ | refine j_isnil rfl rfl rfl rfl (by first | exact .inl ⟨rfl, rfl⟩ | exact .inr ⟨rfl, rfl⟩) (by first | exact .inl ⟨rfl, rfl⟩ | exact .inr ⟨rfl, rfl⟩) rfl rfl ?_)
        | (refine j_kLen rfl ?_; first | refine j_len rfl rfl rfl rfl rfl rfl ?_ | refine j_op rfl rfl rfl rfl ?_)
        | (refine j_kLoad rfl ?_; first | refine j_mload 0 rfl rfl rfl rfl rfl rfl rfl ?_ | refine j_mload 1 rfl rfl rfl rfl rfl rfl rfl ?_ | refine j_mload 2 rfl rfl rfl rfl rfl rfl rfl ?_ | refine j_mload 3 rfl rfl rfl rfl rfl rfl rfl ?_ | refine j_mload 4 rfl rfl rfl rfl rfl rfl rfl ?_)
        | (refine j_kStore rfl ?_; first | refine j_store 0 rfl rfl rfl rfl rfl rfl rfl rfl rfl rfl rfl ?_ | refine j_storeN 0 rfl rfl rfl rfl rfl rfl rfl rfl rfl rfl rfl ?_ | refine j_store 1 rfl rfl rfl rfl rfl rfl rfl rfl rfl rfl rfl ?_ | refine j_storeN 1 rfl rfl rfl rfl rfl rfl rfl rfl rfl rfl rfl ?_ | refine j_store 2 rfl rfl rfl rfl rfl rfl rfl rfl rfl rfl rfl ?_ | refine j_storeN 2 rfl rfl rfl rfl rfl rfl rfl rfl rfl rfl rfl ?_ | refine j_store 3 rfl rfl rfl rfl rfl rfl rfl rfl rfl rfl rfl ?_ | refine j_storeN 3 rfl rfl rfl rfl rfl rfl rfl rfl rfl rfl rfl ?_ | refine j_store 4 rfl rfl rfl rfl rfl rfl rfl rfl rfl rfl rfl ?_ | refine j_storeN 4 rfl rfl rfl rfl rfl rfl rfl rfl rfl rfl rfl ?_)
        | (refine j_kBsl rfl ?_; first | refine j_bs0 rfl rfl rfl rfl rfl rfl ?_ | refine j_bsl rfl rfl rfl rfl rfl rfl rfl rfl rfl rfl rfl ?_)
        | (refine j_kSlice rfl ?_; first | refine j_ss rfl rfl rfl rfl rfl rfl (by omega) rfl rfl ?_ | refine j_slice rfl rfl rfl rfl rfl rfl (by omega) (fun _ => rfl) rfl rfl ?_)
        | (refine j_kGuard rfl ?_; first | (refine (j_if rfl rfl rfl (fun hb => ?_) (fun hb => ?_)) <;> first | (exfalso; omega) | skip) | (refine (j_ifn rfl rfl rfl (fun hb => ?_) (fun hb => ?_)) <;> first | (exfalso; omega) | skip))
        | refine j_box rfl rfl rfl rfl rfl rfl ?_
        | refine j_build rfl rfl rfl rfl rfl rfl rfl ?_
        | refine j_alloc rfl rfl rfl rfl rfl (fun _ => ?_)
        | refine j_si rfl rfl rfl rfl rfl (by omega) rfl rfl ?_
        | refine j_siz rfl rfl rfl rfl rfl (by omega) rfl rfl ?_
        | refine j_conv rfl rfl rfl rfl rfl (wrap_u64 (by omega) (by omega)) rfl rfl ?_
        | refine j_convB rfl rfl rfl rfl rfl (by omega) rfl rfl ?_
        | refine j_b2s rfl rfl rfl rfl rfl rfl rfl rfl ?_
        | refine j_in rfl rfl ⟨by omega, by omega⟩ rfl rfl ?_)
      | refine j_nil ?_
      | (refine r_go ?_; first | refine run_seq ?_ | refine run_region ?_ | refine run_cond_t rfl ?_ | refine run_cond_f rfl ?_ | (refine (run_if rfl (fun hb => ?_) (fun hb => ?_)) <;> first | (exfalso; omega) | skip) | (refine (run_ifn rfl (fun hb => ?_) (fun hb => ?_)) <;> first | (exfalso; omega) | skip) | refine run_block ?_ | refine run_ret ?_ | refine run_exit ?_ | refine run_skip ?_ | refine run_regionD (by kernel_rfl) ?_ | refine run_condn rfl (fun hb => ?_) (fun hb => ?_) | refine run_cond rfl (fun hb => ?_) (fun hb => ?_))
      | refine seqQ_normal ?_ | refine seqQ_ret ?_ | refine seqQ_exit ?_ | refine blockQ_normal ?_ | refine blockQ_ret ?_ | refine blockQ_eq ?_ | refine blockQ_ne rfl ?_ | refine loopQ_ret ?_ | refine loopQ_exit ?_)
      exact loopQ_nextD (k + 1) ⟨by omega, trivial⟩ (by omega) (by first | exact List.Sublist.refl _ | exact sub1 | exact sub2 | exact sub3) ⟨rfl, (by first | rfl | (rw [sumF_succ Group.count hk]; try rfl) | exact si (by omega)), nx _, trivial⟩
    · repeat' (first
      | (refine j_go ?_; first
        | refine j_op0 rfl rfl rfl rfl ?_
        | refine j_off rfl rfl rfl ?_
        | (refine j_kIdx rfl ?_; first | refine j_idx rfl rfl rfl rfl rfl (by omega) rfl rfl rfl ?_ | refine j_midx rfl rfl rfl rfl rfl (by first | omega | (simp only [List.length_append, List.length_cons, List.length_nil]; omega)) rfl rfl ?_ | refine j_idxz rfl rfl rfl rfl rfl ⟨by omega, by omega⟩ rfl rfl rfl ?_ | refine j_midxz rfl rfl rfl rfl rfl (by first | omega | (simp only [List.length_append, List.length_cons, List.length_nil]; omega)) rfl rfl ?_ | refine j_aidx rfl rfl rfl rfl rfl (by omega) rfl rfl ?_ | refine j_aidxz rfl rfl rfl rfl rfl (by omega) rfl rfl ?_)
        | (refine j_kBin rfl ?_; first | refine j_in rfl rfl ⟨by omega, by omega⟩ rfl rfl ?_ | refine j_quo rfl rfl rfl rfl (by omega) rfl rfl ?_ | refine j_rem rfl rfl rfl rfl (by omega) rfl rfl ?_ | refine j_and1 rfl rfl rfl rfl rfl rfl ?_ | refine j_shl rfl rfl rfl rfl rfl (by omega) (by omega) rfl rfl ?_ | refine j_shr rfl rfl rfl rfl rfl (by omega) rfl rfl ?_ | refine j_cat rfl rfl rfl rfl (by first | omega | (simp only [List.length_append, List.length_cons, List.length_nil]; omega)) rfl rfl ?_ | refine j_isnil rfl rfl rfl rfl (by first | exact .inl ⟨rfl, rfl⟩ | exact .inr ⟨rfl, rfl⟩) (by first | exact .inl ⟨rfl, rfl⟩ | exact .inr ⟨rfl, rfl⟩) rfl rfl ?_)
        | (refine j_kLen rfl ?_; first | refine j_len rfl rfl rfl rfl rfl rfl ?_ | refine j_op rfl rfl rfl rfl ?_)
        | (refine j_kLoad rfl ?_; first | refine j_mload 0 rfl rfl rfl rfl rfl rfl rfl ?_ | refine j_mload 1 rfl rfl rfl rfl rfl rfl rfl ?_ | refine j_mload 2 rfl rfl rfl rfl rfl rfl rfl ?_ | refine j_mload 3 rfl rfl rfl rfl rfl rfl rfl ?_ | refine j_mload 4 rfl rfl rfl rfl rfl rfl rfl ?_)
        | (refine j_kStore rfl ?_; first | refine j_store 0 rfl rfl rfl rfl rfl rfl rfl rfl rfl rfl rfl ?_ | refine j_storeN 0 rfl rfl rfl rfl rfl rfl rfl rfl rfl rfl rfl ?_ | refine j_store 1 rfl rfl rfl rfl rfl rfl rfl rfl rfl rfl rfl ?_ | refine j_storeN 1 rfl rfl rfl rfl rfl rfl rfl rfl rfl rfl rfl ?_ | refine j_store 2 rfl rfl rfl rfl rfl rfl rfl rfl rfl rfl rfl ?_ | refine j_storeN 2 rfl rfl rfl rfl rfl rfl rfl rfl rfl rfl rfl ?_ | refine j_store 3 rfl rfl rfl rfl rfl rfl rfl rfl rfl rfl rfl ?_ | refine j_storeN 3 rfl rfl rfl rfl rfl rfl rfl rfl rfl rfl rfl ?_ | refine j_store 4 rfl rfl rfl rfl rfl rfl rfl rfl rfl rfl rfl ?_ | refine j_storeN 4 rfl rfl rfl rfl rfl rfl rfl rfl rfl rfl rfl ?_)
        | (refine j_kBsl rfl ?_; first | refine j_bs0 rfl rfl rfl rfl rfl rfl ?_ | refine j_bsl rfl rfl rfl rfl rfl rfl rfl rfl rfl rfl rfl ?_)
        | (refine j_kSlice rfl ?_; first | refine j_ss rfl rfl rfl rfl rfl rfl (by omega) rfl rfl ?_ | refine j_slice rfl rfl rfl rfl rfl rfl (by omega) (fun _ => rfl) rfl rfl ?_)
        | (refine j_kGuard rfl ?_; first | (refine (j_if rfl rfl rfl (fun hb => ?_) (fun hb => ?_)) <;> first | (exfalso; omega) | skip) | (refine (j_ifn rfl rfl rfl (fun hb => ?_) (fun hb => ?_)) <;> first | (exfalso; omega) | skip))
        | refine j_box rfl rfl rfl rfl rfl rfl ?_
        | refine j_build rfl rfl rfl rfl rfl rfl rfl ?_
        | refine j_alloc rfl rfl rfl rfl rfl (fun _ => ?_)
        | refine j_si rfl rfl rfl rfl rfl (by omega) rfl rfl ?_
        | refine j_siz rfl rfl rfl rfl rfl (by omega) rfl rfl ?_
        | refine j_conv rfl rfl rfl rfl rfl (wrap_u64 (by omega) (by omega)) rfl rfl ?_
        | refine j_convB rfl rfl rfl rfl rfl (by omega) rfl rfl ?_
        | refine j_b2s rfl rfl rfl rfl rfl rfl rfl rfl ?_
        | refine j_in rfl rfl ⟨by omega, by omega⟩ rfl rfl ?_)
      | refine j_nil ?_
      | (refine r_go ?_; first | refine run_seq ?_ | refine run_region ?_ | refine run_cond_t rfl ?_ | refine run_cond_f rfl ?_ | (refine (run_if rfl (fun hb => ?_) (fun hb => ?_)) <;> first | (exfalso; omega) | skip) | (refine (run_ifn rfl (fun hb => ?_) (fun hb => ?_)) <;> first | (exfalso; omega) | skip) | refine run_block ?_ | refine run_ret ?_ | refine run_exit ?_ | refine run_skip ?_ | refine run_regionD (by kernel_rfl) ?_ | refine run_condn rfl (fun hb => ?_) (fun hb => ?_) | refine run_cond rfl (fun hb => ?_) (fun hb => ?_))
      | refine seqQ_normal ?_ | refine seqQ_ret ?_ | refine seqQ_exit ?_ | refine blockQ_normal ?_ | refine blockQ_ret ?_ | refine blockQ_eq ?_ | refine blockQ_ne rfl ?_ | refine loopQ_ret ?_ | refine loopQ_exit ?_)
      exact end2 rfl rfl (List.Sublist.refl _) (by rw [num_t ⟨hv, hc⟩, hz, List.take_of_length_le (by omega)]; rfl) (.inl rfl)

theorem c_iCountCells (d : Division) (c : Colony) : Gives Try.prog 31 [.agg (encDivision d), .agg (encColony c)] (.tup [.int (numP (d.Valid ∧ c.Ok d.objects) (sumF Group.count c.groups)), .int (cd2 d.Valid (c.Ok d.objects))]) := by
  refine fn_of_run tyOk ztOk mix Try.func31 rfl (by decide) Try.ntmps31 (fun w0 h => ?_)
  repeat' (first
      | (refine j_go ?_; first
        | refine j_op0 rfl rfl rfl rfl ?_
        | refine j_off rfl rfl rfl ?_
        | (refine j_kIdx rfl ?_; first | refine j_idx rfl rfl rfl rfl rfl (by omega) rfl rfl rfl ?_ | refine j_midx rfl rfl rfl rfl rfl (by first | omega | (simp only [List.length_append, List.length_cons, List.length_nil]; omega)) rfl rfl ?_ | refine j_idxz rfl rfl rfl rfl rfl ⟨by omega, by omega⟩ rfl rfl rfl ?_ | refine j_midxz rfl rfl rfl rfl rfl (by first | omega | (simp only [List.length_append, List.length_cons, List.length_nil]; omega)) rfl rfl ?_ | refine j_aidx rfl rfl rfl rfl rfl (by omega) rfl rfl ?_ | refine j_aidxz rfl rfl rfl rfl rfl (by omega) rfl rfl ?_)
        | (refine j_kBin rfl ?_; first | refine j_in rfl rfl ⟨by omega, by omega⟩ rfl rfl ?_ | refine j_quo rfl rfl rfl rfl (by omega) rfl rfl ?_ | refine j_rem rfl rfl rfl rfl (by omega) rfl rfl ?_ | refine j_and1 rfl rfl rfl rfl rfl rfl ?_ | refine j_shl rfl rfl rfl rfl rfl (by omega) (by omega) rfl rfl ?_ | refine j_shr rfl rfl rfl rfl rfl (by omega) rfl rfl ?_ | refine j_cat rfl rfl rfl rfl (by first | omega | (simp only [List.length_append, List.length_cons, List.length_nil]; omega)) rfl rfl ?_ | refine j_isnil rfl rfl rfl rfl (by first | exact .inl ⟨rfl, rfl⟩ | exact .inr ⟨rfl, rfl⟩) (by first | exact .inl ⟨rfl, rfl⟩ | exact .inr ⟨rfl, rfl⟩) rfl rfl ?_)
        | (refine j_kLen rfl ?_; first | refine j_len rfl rfl rfl rfl rfl rfl ?_ | refine j_op rfl rfl rfl rfl ?_)
        | (refine j_kCall rfl rfl rfl rfl ?_; first | refine jc (c_colonyCode _ _) (LeL.refl _) rfl rfl ?_ | refine jc (c_colonyCode _ _) (by repeat' (first | exact LeL.nil | refine LeL.cons ?_ ?_ | exact Le.refl _ | exact Le.nilm _ _ | exact Le.nil _ | refine Le.agg ?_)) rfl rfl ?_)
        | (refine j_kLoad rfl ?_; first | refine j_mload 0 rfl rfl rfl rfl rfl rfl rfl ?_ | refine j_mload 1 rfl rfl rfl rfl rfl rfl rfl ?_ | refine j_mload 2 rfl rfl rfl rfl rfl rfl rfl ?_ | refine j_mload 3 rfl rfl rfl rfl rfl rfl rfl ?_ | refine j_mload 4 rfl rfl rfl rfl rfl rfl rfl ?_)
        | (refine j_kStore rfl ?_; first | refine j_store 0 rfl rfl rfl rfl rfl rfl rfl rfl rfl rfl rfl ?_ | refine j_storeN 0 rfl rfl rfl rfl rfl rfl rfl rfl rfl rfl rfl ?_ | refine j_store 1 rfl rfl rfl rfl rfl rfl rfl rfl rfl rfl rfl ?_ | refine j_storeN 1 rfl rfl rfl rfl rfl rfl rfl rfl rfl rfl rfl ?_ | refine j_store 2 rfl rfl rfl rfl rfl rfl rfl rfl rfl rfl rfl ?_ | refine j_storeN 2 rfl rfl rfl rfl rfl rfl rfl rfl rfl rfl rfl ?_ | refine j_store 3 rfl rfl rfl rfl rfl rfl rfl rfl rfl rfl rfl ?_ | refine j_storeN 3 rfl rfl rfl rfl rfl rfl rfl rfl rfl rfl rfl ?_ | refine j_store 4 rfl rfl rfl rfl rfl rfl rfl rfl rfl rfl rfl ?_ | refine j_storeN 4 rfl rfl rfl rfl rfl rfl rfl rfl rfl rfl rfl ?_)
        | (refine j_kBsl rfl ?_; first | refine j_bs0 rfl rfl rfl rfl rfl rfl ?_ | refine j_bsl rfl rfl rfl rfl rfl rfl rfl rfl rfl rfl rfl ?_)
        | (refine j_kSlice rfl ?_; first | refine j_ss rfl rfl rfl rfl rfl rfl (by omega) rfl rfl ?_ | refine j_slice rfl rfl rfl rfl rfl rfl (by omega) (fun _ => rfl) rfl rfl ?_)
        | (refine j_kGuard rfl ?_; first | (refine (j_if rfl rfl rfl (fun hb => ?_) (fun hb => ?_)) <;> first | (exfalso; omega) | skip) | (refine (j_ifn rfl rfl rfl (fun hb => ?_) (fun hb => ?_)) <;> first | (exfalso; omega) | skip))
        | refine j_box rfl rfl rfl rfl rfl rfl ?_
        | refine j_build rfl rfl rfl rfl rfl rfl rfl ?_
        | refine j_alloc rfl rfl rfl rfl rfl (fun _ => ?_)
        | refine j_si rfl rfl rfl rfl rfl (by omega) rfl rfl ?_
        | refine j_siz rfl rfl rfl rfl rfl (by omega) rfl rfl ?_
        | refine j_conv rfl rfl rfl rfl rfl (wrap_u64 (by omega) (by omega)) rfl rfl ?_
        | refine j_convB rfl rfl rfl rfl rfl (by omega) rfl rfl ?_
        | refine j_b2s rfl rfl rfl rfl rfl rfl rfl rfl ?_
        | refine j_in rfl rfl ⟨by omega, by omega⟩ rfl rfl ?_)
      | refine j_nil ?_
      | (refine r_go ?_; first | refine run_seq ?_ | refine run_region ?_ | refine run_cond_t rfl ?_ | refine run_cond_f rfl ?_ | (refine (run_if rfl (fun hb => ?_) (fun hb => ?_)) <;> first | (exfalso; omega) | skip) | (refine (run_ifn rfl (fun hb => ?_) (fun hb => ?_)) <;> first | (exfalso; omega) | skip) | refine run_block ?_ | refine run_ret ?_ | refine run_exit ?_ | refine run_skip ?_ | refine run_regionD (by kernel_rfl) ?_ | refine run_condn rfl (fun hb => ?_) (fun hb => ?_) | refine run_cond rfl (fun hb => ?_) (fun hb => ?_))
      | refine seqQ_normal ?_ | refine seqQ_ret ?_ | refine seqQ_exit ?_ | refine blockQ_normal ?_ | refine blockQ_ret ?_ | refine blockQ_eq ?_ | refine blockQ_ne rfl ?_ | refine loopQ_ret ?_ | refine loopQ_exit ?_)
  · exact end2 rfl rfl (List.Sublist.refl _) (by rw [num_f (fun q => hb (cd2_z.2 q))]; rfl) (.inl rfl)
  · have hz := hb
    have ⟨hv, hc⟩ := cd2_z.1 hb
    have hl := hc.2.1
    refine run_loop (fun k : Nat => [(7, .int (sumF Group.count (c.groups.take k))), (17, .sl (c.groups.map encGroup)), (18, .int c.groups.length), (19, .int (k : Int))]) (fun _ => _) (fun k => k ≤ c.groups.length ∧ (True)) (fun k => c.groups.length - k) 0 ⟨(by first | rfl | exact si (by first | omega | (simp; done) | (simp [sumF]; done) | (simp; omega)) | exact raw_f (by simp) | exact raw_t (by simp)), rfl, rfl, rfl, trivial⟩ rfl ⟨Nat.zero_le _, by first | (intros; omega) | (simp; done) | rfl | trivial | exact ⟨by simp [sumF], by intros; omega⟩ | exact ⟨by omega, by simp⟩⟩ (fun k ⟨kl, kp⟩ => ?_)
    have b1 := hc.cnt k
    have b2 := hc.cnt (k + 1)
    by_cases hk : k < c.groups.length
    · rw [sumF_succ Group.count hk] at b2
      try simp only at b1 b2
      repeat' (first
      | (refine j_go ?_; first
        | refine j_op0 rfl rfl rfl rfl ?_
        | refine j_off rfl rfl rfl ?_
        | (refine j_kIdx rfl ?_; first | refine j_idx rfl rfl rfl rfl rfl (by omega) rfl rfl rfl ?_ | refine j_midx rfl rfl rfl rfl rfl (by first | omega | (simp only [List.length_append, List.length_cons, List.length_nil]; omega)) rfl rfl ?_ | refine j_idxz rfl rfl rfl rfl rfl ⟨by omega, by omega⟩ rfl rfl rfl ?_ | refine j_midxz rfl rfl rfl rfl rfl (by first | omega | (simp only [List.length_append, List.length_cons, List.length_nil]; omega)) rfl rfl ?_ | refine j_aidx rfl rfl rfl rfl rfl (by omega) rfl rfl ?_ | refine j_aidxz rfl rfl rfl rfl rfl (by omega) rfl rfl ?_)
        | (refine j_kBin rfl ?_; first | refine j_in rfl rfl ⟨by omega, by omega⟩ rfl rfl ?_ | refine j_quo rfl rfl rfl rfl (by omega) rfl rfl ?_ | refine j_rem rfl rfl rfl rfl (by omega) rfl rfl ?_ | refine j_and1 rfl rfl rfl rfl rfl rfl ?_ | refine j_shl rfl rfl rfl rfl rfl (by omega) (by omega) rfl rfl ?_ | refine j_shr rfl rfl rfl rfl rfl (by omega) rfl rfl ?_ | refine j_cat rfl rfl rfl rfl (by first | omega | (simp only [List.length_append, List.length_cons, List.length_nil]; omega)) rfl rfl ?_ | refine j_isnil rfl rfl rfl rfl (by first | exact .inl ⟨rfl, rfl⟩ | exact .inr ⟨rfl, rfl⟩) (by first | exact .inl ⟨rfl, rfl⟩ | exact .inr ⟨rfl, rfl⟩) rfl rfl ?_)
        | (refine j_kLen rfl ?_; first | refine j_len rfl rfl rfl rfl rfl rfl ?_ | refine j_op rfl rfl rfl rfl ?_)
        | (refine j_kLoad rfl ?_; first | refine j_mload 0 rfl rfl rfl rfl rfl rfl rfl ?_ | refine j_mload 1 rfl rfl rfl rfl rfl rfl rfl ?_ | refine j_mload 2 rfl rfl rfl rfl rfl rfl rfl ?_ | refine j_mload 3 rfl rfl rfl rfl rfl rfl rfl ?_ | refine j_mload 4 rfl rfl rfl rfl rfl rfl rfl ?_)
        | (refine j_kStore rfl ?_; first | refine j_store 0 rfl rfl rfl rfl rfl rfl rfl rfl rfl rfl rfl ?_ | refine j_storeN 0 rfl rfl rfl rfl rfl rfl rfl rfl rfl rfl rfl ?_ | refine j_store 1 rfl rfl rfl rfl rfl rfl rfl rfl rfl rfl rfl ?_ | refine j_storeN 1 rfl rfl rfl rfl rfl rfl rfl rfl rfl rfl rfl ?_ | refine j_store 2 rfl rfl rfl rfl rfl rfl rfl rfl rfl rfl rfl ?_ | refine j_storeN 2 rfl rfl rfl rfl rfl rfl rfl rfl rfl rfl rfl ?_ | refine j_store 3 rfl rfl rfl rfl rfl rfl rfl rfl rfl rfl rfl ?_ | refine j_storeN 3 rfl rfl rfl rfl rfl rfl rfl rfl rfl rfl rfl ?_ | refine j_store 4 rfl rfl rfl rfl rfl rfl rfl rfl rfl rfl rfl ?_ | refine j_storeN 4 rfl rfl rfl rfl rfl rfl rfl rfl rfl rfl rfl ?_)
        | (refine j_kBsl rfl ?_; first | refine j_bs0 rfl rfl rfl rfl rfl rfl ?_ | refine j_bsl rfl rfl rfl rfl rfl rfl rfl rfl rfl rfl rfl ?_)
        | (refine j_kSlice rfl ?_; first | refine j_ss rfl rfl rfl rfl rfl rfl (by omega) rfl rfl ?_ | refine j_slice rfl rfl rfl rfl rfl rfl (by omega) (fun _ => rfl) rfl rfl ?_)
        | (refine j_kGuard rfl ?_; first | (refine (j_if rfl rfl rfl (fun hb => ?_) (fun hb => ?_)) <;> first | (exfalso; omega) | skip) | (refine (j_ifn rfl rfl rfl (fun hb => ?_) (fun hb => ?_)) <;> first | (exfalso; omega) | skip))
        | refine j_box rfl rfl rfl rfl rfl rfl ?_
        | refine j_build rfl rfl rfl rfl rfl rfl rfl ?_
        | refine j_alloc rfl rfl rfl rfl rfl (fun _ => ?_)
        | refine j_si rfl rfl rfl rfl rfl (by omega) rfl rfl ?_
        | refine j_siz rfl rfl rfl rfl rfl (by omega) rfl rfl ?_
        | refine j_conv rfl rfl rfl rfl rfl (wrap_u64 (by omega) (by omega)) rfl rfl ?_
        | refine j_convB rfl rfl rfl rfl rfl (by omega) rfl rfl ?_
        | refine j_b2s rfl rfl rfl rfl rfl rfl rfl rfl ?_
        | refine j_in rfl rfl ⟨by omega, by omega⟩ rfl rfl ?_)
      | refine j_nil ?_
      | (refine r_go ?_; first | refine run_seq ?_ | refine run_region ?_ | refine run_cond_t rfl ?_ | refine run_cond_f rfl ?_ | (refine (run_if rfl (fun hb => ?_) (fun hb => ?_)) <;> first | (exfalso; omega) | skip) | (refine (run_ifn rfl (fun hb => ?_) (fun hb => ?_)) <;> first | (exfalso; omega) | skip) | refine run_block ?_ | refine run_ret ?_ | refine run_exit ?_ | refine run_skip ?_ | refine run_regionD (by kernel_rfl) ?_ | refine run_condn rfl (fun hb => ?_) (fun hb => ?_) | refine run_cond rfl (fun hb => ?_) (fun hb => ?_))
      | refine seqQ_normal ?_ | refine seqQ_ret ?_ | refine seqQ_exit ?_ | refine blockQ_normal ?_ | refine blockQ_ret ?_ | refine blockQ_eq ?_ | refine blockQ_ne rfl ?_ | refine loopQ_ret ?_ | refine loopQ_exit ?_)
      exact loopQ_nextD (k + 1) ⟨by omega, trivial⟩ (by omega) (by first | exact List.Sublist.refl _ | exact sub1 | exact sub2 | exact sub3) ⟨(by first | rfl | (rw [sumF_succ Group.count hk]; try rfl) | exact si (by omega)), rfl, rfl, nx _, trivial⟩
    · repeat' (first
      | (refine j_go ?_; first
        | refine j_op0 rfl rfl rfl rfl ?_
        | refine j_off rfl rfl rfl ?_
        | (refine j_kIdx rfl ?_; first | refine j_idx rfl rfl rfl rfl rfl (by omega) rfl rfl rfl ?_ | refine j_midx rfl rfl rfl rfl rfl (by first | omega | (simp only [List.length_append, List.length_cons, List.length_nil]; omega)) rfl rfl ?_ | refine j_idxz rfl rfl rfl rfl rfl ⟨by omega, by omega⟩ rfl rfl rfl ?_ | refine j_midxz rfl rfl rfl rfl rfl (by first | omega | (simp only [List.length_append, List.length_cons, List.length_nil]; omega)) rfl rfl ?_ | refine j_aidx rfl rfl rfl rfl rfl (by omega) rfl rfl ?_ | refine j_aidxz rfl rfl rfl rfl rfl (by omega) rfl rfl ?_)
        | (refine j_kBin rfl ?_; first | refine j_in rfl rfl ⟨by omega, by omega⟩ rfl rfl ?_ | refine j_quo rfl rfl rfl rfl (by omega) rfl rfl ?_ | refine j_rem rfl rfl rfl rfl (by omega) rfl rfl ?_ | refine j_and1 rfl rfl rfl rfl rfl rfl ?_ | refine j_shl rfl rfl rfl rfl rfl (by omega) (by omega) rfl rfl ?_ | refine j_shr rfl rfl rfl rfl rfl (by omega) rfl rfl ?_ | refine j_cat rfl rfl rfl rfl (by first | omega | (simp only [List.length_append, List.length_cons, List.length_nil]; omega)) rfl rfl ?_ | refine j_isnil rfl rfl rfl rfl (by first | exact .inl ⟨rfl, rfl⟩ | exact .inr ⟨rfl, rfl⟩) (by first | exact .inl ⟨rfl, rfl⟩ | exact .inr ⟨rfl, rfl⟩) rfl rfl ?_)
        | (refine j_kLen rfl ?_; first | refine j_len rfl rfl rfl rfl rfl rfl ?_ | refine j_op rfl rfl rfl rfl ?_)
        | (refine j_kLoad rfl ?_; first | refine j_mload 0 rfl rfl rfl rfl rfl rfl rfl ?_ | refine j_mload 1 rfl rfl rfl rfl rfl rfl rfl ?_ | refine j_mload 2 rfl rfl rfl rfl rfl rfl rfl ?_ | refine j_mload 3 rfl rfl rfl rfl rfl rfl rfl ?_ | refine j_mload 4 rfl rfl rfl rfl rfl rfl rfl ?_)
        | (refine j_kStore rfl ?_; first | refine j_store 0 rfl rfl rfl rfl rfl rfl rfl rfl rfl rfl rfl ?_ | refine j_storeN 0 rfl rfl rfl rfl rfl rfl rfl rfl rfl rfl rfl ?_ | refine j_store 1 rfl rfl rfl rfl rfl rfl rfl rfl rfl rfl rfl ?_ | refine j_storeN 1 rfl rfl rfl rfl rfl rfl rfl rfl rfl rfl rfl ?_ | refine j_store 2 rfl rfl rfl rfl rfl rfl rfl rfl rfl rfl rfl ?_ | refine j_storeN 2 rfl rfl rfl rfl rfl rfl rfl rfl rfl rfl rfl ?_ | refine j_store 3 rfl rfl rfl rfl rfl rfl rfl rfl rfl rfl rfl ?_ | refine j_storeN 3 rfl rfl rfl rfl rfl rfl rfl rfl rfl rfl rfl ?_ | refine j_store 4 rfl rfl rfl rfl rfl rfl rfl rfl rfl rfl rfl ?_ | refine j_storeN 4 rfl rfl rfl rfl rfl rfl rfl rfl rfl rfl rfl ?_)
        | (refine j_kBsl rfl ?_; first | refine j_bs0 rfl rfl rfl rfl rfl rfl ?_ | refine j_bsl rfl rfl rfl rfl rfl rfl rfl rfl rfl rfl rfl ?_)
        | (refine j_kSlice rfl ?_; first | refine j_ss rfl rfl rfl rfl rfl rfl (by omega) rfl rfl ?_ | refine j_slice rfl rfl rfl rfl rfl rfl (by omega) (fun _ => rfl) rfl rfl ?_)
        | (refine j_kGuard rfl ?_; first | (refine (j_if rfl rfl rfl (fun hb => ?_) (fun hb => ?_)) <;> first | (exfalso; omega) | skip) | (refine (j_ifn rfl rfl rfl (fun hb => ?_) (fun hb => ?_)) <;> first | (exfalso; omega) | skip))
        | refine j_box rfl rfl rfl rfl rfl rfl ?_
        | refine j_build rfl rfl rfl rfl rfl rfl rfl ?_
        | refine j_alloc rfl rfl rfl rfl rfl (fun _ => ?_)
        | refine j_si rfl rfl rfl rfl rfl (by omega) rfl rfl ?_
        | refine j_siz rfl rfl rfl rfl rfl (by omega) rfl rfl ?_
        | refine j_conv rfl rfl rfl rfl rfl (wrap_u64 (by omega) (by omega)) rfl rfl ?_
        | refine j_convB rfl rfl rfl rfl rfl (by omega) rfl rfl ?_
        | refine j_b2s rfl rfl rfl rfl rfl rfl rfl rfl ?_
        | refine j_in rfl rfl ⟨by omega, by omega⟩ rfl rfl ?_)
      | refine j_nil ?_
      | (refine r_go ?_; first | refine run_seq ?_ | refine run_region ?_ | refine run_cond_t rfl ?_ | refine run_cond_f rfl ?_ | (refine (run_if rfl (fun hb => ?_) (fun hb => ?_)) <;> first | (exfalso; omega) | skip) | (refine (run_ifn rfl (fun hb => ?_) (fun hb => ?_)) <;> first | (exfalso; omega) | skip) | refine run_block ?_ | refine run_ret ?_ | refine run_exit ?_ | refine run_skip ?_ | refine run_regionD (by kernel_rfl) ?_ | refine run_condn rfl (fun hb => ?_) (fun hb => ?_) | refine run_cond rfl (fun hb => ?_) (fun hb => ?_))
      | refine seqQ_normal ?_ | refine seqQ_ret ?_ | refine seqQ_exit ?_ | refine blockQ_normal ?_ | refine blockQ_ret ?_ | refine blockQ_eq ?_ | refine blockQ_ne rfl ?_ | refine loopQ_ret ?_ | refine loopQ_exit ?_)
      exact end2 rfl rfl (List.Sublist.refl _) (by rw [num_t ⟨hv, hc⟩, hz, List.take_of_length_le (by omega)]; rfl) (.inl rfl)

theorem c_l07Times (l : List Int) (x : Int) : Gives Try.prog 78 [.sl (l.map encI), .int x] (.int (occ x l)) := by
  refine fn_of_run tyOk ztOk mix Try.func78 rfl (by decide) Try.ntmps78 (fun w0 h => ?_)
  refine run_len (t := 0) rfl (fun hl => ?_)
  rw [List.length_map] at hl
  repeat' (first
      | (refine j_go ?_; first
        | refine j_op0 rfl rfl rfl rfl ?_
        | refine j_off rfl rfl rfl ?_
        | (refine j_kIdx rfl ?_; first | refine j_idx rfl rfl rfl rfl rfl (by omega) rfl rfl rfl ?_ | refine j_midx rfl rfl rfl rfl rfl (by first | omega | (simp only [List.length_append, List.length_cons, List.length_nil]; omega)) rfl rfl ?_ | refine j_idxz rfl rfl rfl rfl rfl ⟨by omega, by omega⟩ rfl rfl rfl ?_ | refine j_midxz rfl rfl rfl rfl rfl (by first | omega | (simp only [List.length_append, List.length_cons, List.length_nil]; omega)) rfl rfl ?_ | refine j_aidx rfl rfl rfl rfl rfl (by omega) rfl rfl ?_ | refine j_aidxz rfl rfl rfl rfl rfl (by omega) rfl rfl ?_)
        | (refine j_kBin rfl ?_; first | refine j_in rfl rfl ⟨by omega, by omega⟩ rfl rfl ?_ | refine j_quo rfl rfl rfl rfl (by omega) rfl rfl ?_ | refine j_rem rfl rfl rfl rfl (by omega) rfl rfl ?_ | refine j_and1 rfl rfl rfl rfl rfl rfl ?_ | refine j_shl rfl rfl rfl rfl rfl (by omega) (by omega) rfl rfl ?_ | refine j_shr rfl rfl rfl rfl rfl (by omega) rfl rfl ?_ | refine j_cat rfl rfl rfl rfl (by first | omega | (simp only [List.length_append, List.length_cons, List.length_nil]; omega)) rfl rfl ?_ | refine j_isnil rfl rfl rfl rfl (by first | exact .inl ⟨rfl, rfl⟩ | exact .inr ⟨rfl, rfl⟩) (by first | exact .inl ⟨rfl, rfl⟩ | exact .inr ⟨rfl, rfl⟩) rfl rfl ?_)
        | (refine j_kLen rfl ?_; first | refine j_len rfl rfl rfl rfl rfl rfl ?_ | refine j_op rfl rfl rfl rfl ?_)
        | (refine j_kLoad rfl ?_; first | refine j_mload 0 rfl rfl rfl rfl rfl rfl rfl ?_ | refine j_mload 1 rfl rfl rfl rfl rfl rfl rfl ?_ | refine j_mload 2 rfl rfl rfl rfl rfl rfl rfl ?_ | refine j_mload 3 rfl rfl rfl rfl rfl rfl rfl ?_ | refine j_mload 4 rfl rfl rfl rfl rfl rfl rfl ?_)
        | (refine j_kStore rfl ?_; first | refine j_store 0 rfl rfl rfl rfl rfl rfl rfl rfl rfl rfl rfl ?_ | refine j_storeN 0 rfl rfl rfl rfl rfl rfl rfl rfl rfl rfl rfl ?_ | refine j_store 1 rfl rfl rfl rfl rfl rfl rfl rfl rfl rfl rfl ?_ | refine j_storeN 1 rfl rfl rfl rfl rfl rfl rfl rfl rfl rfl rfl ?_ | refine j_store 2 rfl rfl rfl rfl rfl rfl rfl rfl rfl rfl rfl ?_ | refine j_storeN 2 rfl rfl rfl rfl rfl rfl rfl rfl rfl rfl rfl ?_ | refine j_store 3 rfl rfl rfl rfl rfl rfl rfl rfl rfl rfl rfl ?_ | refine j_storeN 3 rfl rfl rfl rfl rfl rfl rfl rfl rfl rfl rfl ?_ | refine j_store 4 rfl rfl rfl rfl rfl rfl rfl rfl rfl rfl rfl ?_ | refine j_storeN 4 rfl rfl rfl rfl rfl rfl rfl rfl rfl rfl rfl ?_)
        | (refine j_kBsl rfl ?_; first | refine j_bs0 rfl rfl rfl rfl rfl rfl ?_ | refine j_bsl rfl rfl rfl rfl rfl rfl rfl rfl rfl rfl rfl ?_)
        | (refine j_kSlice rfl ?_; first | refine j_ss rfl rfl rfl rfl rfl rfl (by omega) rfl rfl ?_ | refine j_slice rfl rfl rfl rfl rfl rfl (by omega) (fun _ => rfl) rfl rfl ?_)
        | (refine j_kGuard rfl ?_; first | (refine (j_if rfl rfl rfl (fun hb => ?_) (fun hb => ?_)) <;> first | (exfalso; omega) | skip) | (refine (j_ifn rfl rfl rfl (fun hb => ?_) (fun hb => ?_)) <;> first | (exfalso; omega) | skip))
        | refine j_box rfl rfl rfl rfl rfl rfl ?_
        | refine j_build rfl rfl rfl rfl rfl rfl rfl ?_
        | refine j_alloc rfl rfl rfl rfl rfl (fun _ => ?_)
        | refine j_si rfl rfl rfl rfl rfl (by omega) rfl rfl ?_
        | refine j_siz rfl rfl rfl rfl rfl (by omega) rfl rfl ?_
        | refine j_conv rfl rfl rfl rfl rfl (wrap_u64 (by omega) (by omega)) rfl rfl ?_
        | refine j_convB rfl rfl rfl rfl rfl (by omega) rfl rfl ?_
        | refine j_b2s rfl rfl rfl rfl rfl rfl rfl rfl ?_
        | refine j_in rfl rfl ⟨by omega, by omega⟩ rfl rfl ?_)
      | refine j_nil ?_
      | (refine r_go ?_; first | refine run_seq ?_ | refine run_region ?_ | refine run_cond_t rfl ?_ | refine run_cond_f rfl ?_ | (refine (run_if rfl (fun hb => ?_) (fun hb => ?_)) <;> first | (exfalso; omega) | skip) | (refine (run_ifn rfl (fun hb => ?_) (fun hb => ?_)) <;> first | (exfalso; omega) | skip) | refine run_block ?_ | refine run_ret ?_ | refine run_exit ?_ | refine run_skip ?_ | refine run_regionD (by kernel_rfl) ?_ | refine run_condn rfl (fun hb => ?_) (fun hb => ?_) | refine run_cond rfl (fun hb => ?_) (fun hb => ?_))
      | refine seqQ_normal ?_ | refine seqQ_ret ?_ | refine seqQ_exit ?_ | refine blockQ_normal ?_ | refine blockQ_ret ?_ | refine blockQ_eq ?_ | refine blockQ_ne rfl ?_ | refine loopQ_ret ?_ | refine loopQ_exit ?_)
  refine run_loop (fun k : Nat => [(0, .sl (l.map encI)), (1, .int x), (5, .int (sumF (one x) (l.take k))), (6, .int (k : Int))]) (fun _ => _) (fun k => k ≤ l.length ∧ (True)) (fun k => l.length - k) 0 ⟨rfl, rfl, (by first | rfl | exact si (by first | omega | (simp; done) | (simp [sumF]; done) | (simp; omega)) | exact raw_f (by simp) | exact raw_t (by simp)), rfl, trivial⟩ rfl ⟨Nat.zero_le _, by first | (intros; omega) | (simp; done) | rfl | trivial | exact ⟨by simp [sumF], by intros; omega⟩ | exact ⟨by omega, by simp⟩⟩ (fun k ⟨kl, kp⟩ => ?_)
  have b1 := occ_take x l k kl
  repeat' (first
      | (refine j_go ?_; first
        | refine j_op0 rfl rfl rfl rfl ?_
        | refine j_off rfl rfl rfl ?_
        | (refine j_kIdx rfl ?_; first | refine j_idx rfl rfl rfl rfl rfl (by omega) rfl rfl rfl ?_ | refine j_midx rfl rfl rfl rfl rfl (by first | omega | (simp only [List.length_append, List.length_cons, List.length_nil]; omega)) rfl rfl ?_ | refine j_idxz rfl rfl rfl rfl rfl ⟨by omega, by omega⟩ rfl rfl rfl ?_ | refine j_midxz rfl rfl rfl rfl rfl (by first | omega | (simp only [List.length_append, List.length_cons, List.length_nil]; omega)) rfl rfl ?_ | refine j_aidx rfl rfl rfl rfl rfl (by omega) rfl rfl ?_ | refine j_aidxz rfl rfl rfl rfl rfl (by omega) rfl rfl ?_)
        | (refine j_kBin rfl ?_; first | refine j_in rfl rfl ⟨by omega, by omega⟩ rfl rfl ?_ | refine j_quo rfl rfl rfl rfl (by omega) rfl rfl ?_ | refine j_rem rfl rfl rfl rfl (by omega) rfl rfl ?_ | refine j_and1 rfl rfl rfl rfl rfl rfl ?_ | refine j_shl rfl rfl rfl rfl rfl (by omega) (by omega) rfl rfl ?_ | refine j_shr rfl rfl rfl rfl rfl (by omega) rfl rfl ?_ | refine j_cat rfl rfl rfl rfl (by first | omega | (simp only [List.length_append, List.length_cons, List.length_nil]; omega)) rfl rfl ?_ | refine j_isnil rfl rfl rfl rfl (by first | exact .inl ⟨rfl, rfl⟩ | exact .inr ⟨rfl, rfl⟩) (by first | exact .inl ⟨rfl, rfl⟩ | exact .inr ⟨rfl, rfl⟩) rfl rfl ?_)
        | (refine j_kLen rfl ?_; first | refine j_len rfl rfl rfl rfl rfl rfl ?_ | refine j_op rfl rfl rfl rfl ?_)
        | (refine j_kLoad rfl ?_; first | refine j_mload 0 rfl rfl rfl rfl rfl rfl rfl ?_ | refine j_mload 1 rfl rfl rfl rfl rfl rfl rfl ?_ | refine j_mload 2 rfl rfl rfl rfl rfl rfl rfl ?_ | refine j_mload 3 rfl rfl rfl rfl rfl rfl rfl ?_ | refine j_mload 4 rfl rfl rfl rfl rfl rfl rfl ?_)
        | (refine j_kStore rfl ?_; first | refine j_store 0 rfl rfl rfl rfl rfl rfl rfl rfl rfl rfl rfl ?_ | refine j_storeN 0 rfl rfl rfl rfl rfl rfl rfl rfl rfl rfl rfl ?_ | refine j_store 1 rfl rfl rfl rfl rfl rfl rfl rfl rfl rfl rfl ?_ | refine j_storeN 1 rfl rfl rfl rfl rfl rfl rfl rfl rfl rfl rfl ?_ | refine j_store 2 rfl rfl rfl rfl rfl rfl rfl rfl rfl rfl rfl ?_ | refine j_storeN 2 rfl rfl rfl rfl rfl rfl rfl rfl rfl rfl rfl ?_ | refine j_store 3 rfl rfl rfl rfl rfl rfl rfl rfl rfl rfl rfl ?_ | refine j_storeN 3 rfl rfl rfl rfl rfl rfl rfl rfl rfl rfl rfl ?_ | refine j_store 4 rfl rfl rfl rfl rfl rfl rfl rfl rfl rfl rfl ?_ | refine j_storeN 4 rfl rfl rfl rfl rfl rfl rfl rfl rfl rfl rfl ?_)
        | (refine j_kBsl rfl ?_; first | refine j_bs0 rfl rfl rfl rfl rfl rfl ?_ | refine j_bsl rfl rfl rfl rfl rfl rfl rfl rfl rfl rfl rfl ?_)
        | (refine j_kSlice rfl ?_; first | refine j_ss rfl rfl rfl rfl rfl rfl (by omega) rfl rfl ?_ | refine j_slice rfl rfl rfl rfl rfl rfl (by omega) (fun _ => rfl) rfl rfl ?_)
        | (refine j_kGuard rfl ?_; first | (refine (j_if rfl rfl rfl (fun hb => ?_) (fun hb => ?_)) <;> first | (exfalso; omega) | skip) | (refine (j_ifn rfl rfl rfl (fun hb => ?_) (fun hb => ?_)) <;> first | (exfalso; omega) | skip))
        | refine j_box rfl rfl rfl rfl rfl rfl ?_
        | refine j_build rfl rfl rfl rfl rfl rfl rfl ?_
        | refine j_alloc rfl rfl rfl rfl rfl (fun _ => ?_)
        | refine j_si rfl rfl rfl rfl rfl (by omega) rfl rfl ?_
        | refine j_siz rfl rfl rfl rfl rfl (by omega) rfl rfl ?_
        | refine j_conv rfl rfl rfl rfl rfl (wrap_u64 (by omega) (by omega)) rfl rfl ?_
        | refine j_convB rfl rfl rfl rfl rfl (by omega) rfl rfl ?_
        | refine j_b2s rfl rfl rfl rfl rfl rfl rfl rfl ?_
        | refine j_in rfl rfl ⟨by omega, by omega⟩ rfl rfl ?_)
      | refine j_nil ?_
      | (refine r_go ?_; first | refine run_seq ?_ | refine run_region ?_ | refine run_cond_t rfl ?_ | refine run_cond_f rfl ?_ | (refine (run_if rfl (fun hb => ?_) (fun hb => ?_)) <;> first | (exfalso; omega) | skip) | (refine (run_ifn rfl (fun hb => ?_) (fun hb => ?_)) <;> first | (exfalso; omega) | skip) | refine run_block ?_ | refine run_ret ?_ | refine run_exit ?_ | refine run_skip ?_ | refine run_regionD (by kernel_rfl) ?_ | refine run_condn rfl (fun hb => ?_) (fun hb => ?_) | refine run_cond rfl (fun hb => ?_) (fun hb => ?_))
      | refine seqQ_normal ?_ | refine seqQ_ret ?_ | refine seqQ_exit ?_ | refine blockQ_normal ?_ | refine blockQ_ret ?_ | refine blockQ_eq ?_ | refine blockQ_ne rfl ?_ | refine loopQ_ret ?_ | refine loopQ_exit ?_)
  · exact loopQ_nextD (k + 1) ⟨by omega, trivial⟩ (by omega) (by first | exact List.Sublist.refl _ | exact sub1 | exact sub2 | exact sub3) ⟨rfl, rfl, (by first | rfl | (rw [sumF_succ (one x) (by omega), one_t hb]; try rfl) | exact si (by omega)), nx _, trivial⟩
  · exact loopQ_nextD (k + 1) ⟨by omega, trivial⟩ (by omega) (by first | exact List.Sublist.refl _ | exact sub1 | exact sub2 | exact sub3) ⟨rfl, rfl, (by first | rfl | (rw [sumF_succ (one x) (by omega), one_f hb, Int.add_zero]; try rfl) | exact si (by omega)), nx _, trivial⟩
  · exact end1 rfl (List.Sublist.refl _) (ai (by rw [List.take_of_length_le (by omega)]; rfl)) (.inl rfl)

theorem c_count (l : List Int) (x : Int) : Gives Try.prog 80 [.sl (l.map encI), .int x] (.int (occ x l)) := by
  refine fn_of_run tyOk ztOk mix Try.func80 rfl (by decide) Try.ntmps80 (fun w0 h => ?_)
  refine run_len (t := 0) rfl (fun hl => ?_)
  rw [List.length_map] at hl
  repeat' (first
      | (refine j_go ?_; first
        | refine j_op0 rfl rfl rfl rfl ?_
        | refine j_off rfl rfl rfl ?_
        | (refine j_kIdx rfl ?_; first | refine j_idx rfl rfl rfl rfl rfl (by omega) rfl rfl rfl ?_ | refine j_midx rfl rfl rfl rfl rfl (by first | omega | (simp only [List.length_append, List.length_cons, List.length_nil]; omega)) rfl rfl ?_ | refine j_idxz rfl rfl rfl rfl rfl ⟨by omega, by omega⟩ rfl rfl rfl ?_ | refine j_midxz rfl rfl rfl rfl rfl (by first | omega | (simp only [List.length_append, List.length_cons, List.length_nil]; omega)) rfl rfl ?_ | refine j_aidx rfl rfl rfl rfl rfl (by omega) rfl rfl ?_ | refine j_aidxz rfl rfl rfl rfl rfl (by omega) rfl rfl ?_)
        | (refine j_kBin rfl ?_; first | refine j_in rfl rfl ⟨by omega, by omega⟩ rfl rfl ?_ | refine j_quo rfl rfl rfl rfl (by omega) rfl rfl ?_ | refine j_rem rfl rfl rfl rfl (by omega) rfl rfl ?_ | refine j_and1 rfl rfl rfl rfl rfl rfl ?_ | refine j_shl rfl rfl rfl rfl rfl (by omega) (by omega) rfl rfl ?_ | refine j_shr rfl rfl rfl rfl rfl (by omega) rfl rfl ?_ | refine j_cat rfl rfl rfl rfl (by first | omega | (simp only [List.length_append, List.length_cons, List.length_nil]; omega)) rfl rfl ?_ | refine j_isnil rfl rfl rfl rfl (by first | exact .inl ⟨rfl, rfl⟩ | exact .inr ⟨rfl, rfl⟩) (by first | exact .inl ⟨rfl, rfl⟩ | exact .inr ⟨rfl, rfl⟩) rfl rfl ?_)
        | (refine j_kLen rfl ?_; first | refine j_len rfl rfl rfl rfl rfl rfl ?_ | refine j_op rfl rfl rfl rfl ?_)
        | (refine j_kLoad rfl ?_; first | refine j_mload 0 rfl rfl rfl rfl rfl rfl rfl ?_ | refine j_mload 1 rfl rfl rfl rfl rfl rfl rfl ?_ | refine j_mload 2 rfl rfl rfl rfl rfl rfl rfl ?_ | refine j_mload 3 rfl rfl rfl rfl rfl rfl rfl ?_ | refine j_mload 4 rfl rfl rfl rfl rfl rfl rfl ?_)
        | (refine j_kStore rfl ?_; first | refine j_store 0 rfl rfl rfl rfl rfl rfl rfl rfl rfl rfl rfl ?_ | refine j_storeN 0 rfl rfl rfl rfl rfl rfl rfl rfl rfl rfl rfl ?_ | refine j_store 1 rfl rfl rfl rfl rfl rfl rfl rfl rfl rfl rfl ?_ | refine j_storeN 1 rfl rfl rfl rfl rfl rfl rfl rfl rfl rfl rfl ?_ | refine j_store 2 rfl rfl rfl rfl rfl rfl rfl rfl rfl rfl rfl ?_ | refine j_storeN 2 rfl rfl rfl rfl rfl rfl rfl rfl rfl rfl rfl ?_ | refine j_store 3 rfl rfl rfl rfl rfl rfl rfl rfl rfl rfl rfl ?_ | refine j_storeN 3 rfl rfl rfl rfl rfl rfl rfl rfl rfl rfl rfl ?_ | refine j_store 4 rfl rfl rfl rfl rfl rfl rfl rfl rfl rfl rfl ?_ | refine j_storeN 4 rfl rfl rfl rfl rfl rfl rfl rfl rfl rfl rfl ?_)
        | (refine j_kBsl rfl ?_; first | refine j_bs0 rfl rfl rfl rfl rfl rfl ?_ | refine j_bsl rfl rfl rfl rfl rfl rfl rfl rfl rfl rfl rfl ?_)
        | (refine j_kSlice rfl ?_; first | refine j_ss rfl rfl rfl rfl rfl rfl (by omega) rfl rfl ?_ | refine j_slice rfl rfl rfl rfl rfl rfl (by omega) (fun _ => rfl) rfl rfl ?_)
        | (refine j_kGuard rfl ?_; first | (refine (j_if rfl rfl rfl (fun hb => ?_) (fun hb => ?_)) <;> first | (exfalso; omega) | skip) | (refine (j_ifn rfl rfl rfl (fun hb => ?_) (fun hb => ?_)) <;> first | (exfalso; omega) | skip))
        | refine j_box rfl rfl rfl rfl rfl rfl ?_
        | refine j_build rfl rfl rfl rfl rfl rfl rfl ?_
        | refine j_alloc rfl rfl rfl rfl rfl (fun _ => ?_)
        | refine j_si rfl rfl rfl rfl rfl (by omega) rfl rfl ?_
        | refine j_siz rfl rfl rfl rfl rfl (by omega) rfl rfl ?_
        | refine j_conv rfl rfl rfl rfl rfl (wrap_u64 (by omega) (by omega)) rfl rfl ?_
        | refine j_convB rfl rfl rfl rfl rfl (by omega) rfl rfl ?_
        | refine j_b2s rfl rfl rfl rfl rfl rfl rfl rfl ?_
        | refine j_in rfl rfl ⟨by omega, by omega⟩ rfl rfl ?_)
      | refine j_nil ?_
      | (refine r_go ?_; first | refine run_seq ?_ | refine run_region ?_ | refine run_cond_t rfl ?_ | refine run_cond_f rfl ?_ | (refine (run_if rfl (fun hb => ?_) (fun hb => ?_)) <;> first | (exfalso; omega) | skip) | (refine (run_ifn rfl (fun hb => ?_) (fun hb => ?_)) <;> first | (exfalso; omega) | skip) | refine run_block ?_ | refine run_ret ?_ | refine run_exit ?_ | refine run_skip ?_ | refine run_regionD (by kernel_rfl) ?_ | refine run_condn rfl (fun hb => ?_) (fun hb => ?_) | refine run_cond rfl (fun hb => ?_) (fun hb => ?_))
      | refine seqQ_normal ?_ | refine seqQ_ret ?_ | refine seqQ_exit ?_ | refine blockQ_normal ?_ | refine blockQ_ret ?_ | refine blockQ_eq ?_ | refine blockQ_ne rfl ?_ | refine loopQ_ret ?_ | refine loopQ_exit ?_)
  refine run_loop (fun k : Nat => [(1, .int x), (5, .int (sumF (one x) (l.take k))), (8, .sl (l.map encI)), (9, .int l.length), (10, .int (k : Int))]) (fun _ => _) (fun k => k ≤ l.length ∧ (True)) (fun k => l.length - k) 0 ⟨rfl, (by first | rfl | exact si (by first | omega | (simp; done) | (simp [sumF]; done) | (simp; omega)) | exact raw_f (by simp) | exact raw_t (by simp)), rfl, rfl, rfl, trivial⟩ rfl ⟨Nat.zero_le _, by first | (intros; omega) | (simp; done) | rfl | trivial | exact ⟨by simp [sumF], by intros; omega⟩ | exact ⟨by omega, by simp⟩⟩ (fun k ⟨kl, kp⟩ => ?_)
  have b1 := occ_take x l k kl
  repeat' (first
      | (refine j_go ?_; first
        | refine j_op0 rfl rfl rfl rfl ?_
        | refine j_off rfl rfl rfl ?_
        | (refine j_kIdx rfl ?_; first | refine j_idx rfl rfl rfl rfl rfl (by omega) rfl rfl rfl ?_ | refine j_midx rfl rfl rfl rfl rfl (by first | omega | (simp only [List.length_append, List.length_cons, List.length_nil]; omega)) rfl rfl ?_ | refine j_idxz rfl rfl rfl rfl rfl ⟨by omega, by omega⟩ rfl rfl rfl ?_ | refine j_midxz rfl rfl rfl rfl rfl (by first | omega | (simp only [List.length_append, List.length_cons, List.length_nil]; omega)) rfl rfl ?_ | refine j_aidx rfl rfl rfl rfl rfl (by omega) rfl rfl ?_ | refine j_aidxz rfl rfl rfl rfl rfl (by omega) rfl rfl ?_)
        | (refine j_kBin rfl ?_; first | refine j_in rfl rfl ⟨by omega, by omega⟩ rfl rfl ?_ | refine j_quo rfl rfl rfl rfl (by omega) rfl rfl ?_ | refine j_rem rfl rfl rfl rfl (by omega) rfl rfl ?_ | refine j_and1 rfl rfl rfl rfl rfl rfl ?_ | refine j_shl rfl rfl rfl rfl rfl (by omega) (by omega) rfl rfl ?_ | refine j_shr rfl rfl rfl rfl rfl (by omega) rfl rfl ?_ | refine j_cat rfl rfl rfl rfl (by first | omega | (simp only [List.length_append, List.length_cons, List.length_nil]; omega)) rfl rfl ?_ | refine j_isnil rfl rfl rfl rfl (by first | exact .inl ⟨rfl, rfl⟩ | exact .inr ⟨rfl, rfl⟩) (by first | exact .inl ⟨rfl, rfl⟩ | exact .inr ⟨rfl, rfl⟩) rfl rfl ?_)
        | (refine j_kLen rfl ?_; first | refine j_len rfl rfl rfl rfl rfl rfl ?_ | refine j_op rfl rfl rfl rfl ?_)
        | (refine j_kLoad rfl ?_; first | refine j_mload 0 rfl rfl rfl rfl rfl rfl rfl ?_ | refine j_mload 1 rfl rfl rfl rfl rfl rfl rfl ?_ | refine j_mload 2 rfl rfl rfl rfl rfl rfl rfl ?_ | refine j_mload 3 rfl rfl rfl rfl rfl rfl rfl ?_ | refine j_mload 4 rfl rfl rfl rfl rfl rfl rfl ?_)
        | (refine j_kStore rfl ?_; first | refine j_store 0 rfl rfl rfl rfl rfl rfl rfl rfl rfl rfl rfl ?_ | refine j_storeN 0 rfl rfl rfl rfl rfl rfl rfl rfl rfl rfl rfl ?_ | refine j_store 1 rfl rfl rfl rfl rfl rfl rfl rfl rfl rfl rfl ?_ | refine j_storeN 1 rfl rfl rfl rfl rfl rfl rfl rfl rfl rfl rfl ?_ | refine j_store 2 rfl rfl rfl rfl rfl rfl rfl rfl rfl rfl rfl ?_ | refine j_storeN 2 rfl rfl rfl rfl rfl rfl rfl rfl rfl rfl rfl ?_ | refine j_store 3 rfl rfl rfl rfl rfl rfl rfl rfl rfl rfl rfl ?_ | refine j_storeN 3 rfl rfl rfl rfl rfl rfl rfl rfl rfl rfl rfl ?_ | refine j_store 4 rfl rfl rfl rfl rfl rfl rfl rfl rfl rfl rfl ?_ | refine j_storeN 4 rfl rfl rfl rfl rfl rfl rfl rfl rfl rfl rfl ?_)
        | (refine j_kBsl rfl ?_; first | refine j_bs0 rfl rfl rfl rfl rfl rfl ?_ | refine j_bsl rfl rfl rfl rfl rfl rfl rfl rfl rfl rfl rfl ?_)
        | (refine j_kSlice rfl ?_; first | refine j_ss rfl rfl rfl rfl rfl rfl (by omega) rfl rfl ?_ | refine j_slice rfl rfl rfl rfl rfl rfl (by omega) (fun _ => rfl) rfl rfl ?_)
        | (refine j_kGuard rfl ?_; first | (refine (j_if rfl rfl rfl (fun hb => ?_) (fun hb => ?_)) <;> first | (exfalso; omega) | skip) | (refine (j_ifn rfl rfl rfl (fun hb => ?_) (fun hb => ?_)) <;> first | (exfalso; omega) | skip))
        | refine j_box rfl rfl rfl rfl rfl rfl ?_
        | refine j_build rfl rfl rfl rfl rfl rfl rfl ?_
        | refine j_alloc rfl rfl rfl rfl rfl (fun _ => ?_)
        | refine j_si rfl rfl rfl rfl rfl (by omega) rfl rfl ?_
        | refine j_siz rfl rfl rfl rfl rfl (by omega) rfl rfl ?_
        | refine j_conv rfl rfl rfl rfl rfl (wrap_u64 (by omega) (by omega)) rfl rfl ?_
        | refine j_convB rfl rfl rfl rfl rfl (by omega) rfl rfl ?_
        | refine j_b2s rfl rfl rfl rfl rfl rfl rfl rfl ?_
        | refine j_in rfl rfl ⟨by omega, by omega⟩ rfl rfl ?_)
      | refine j_nil ?_
      | (refine r_go ?_; first | refine run_seq ?_ | refine run_region ?_ | refine run_cond_t rfl ?_ | refine run_cond_f rfl ?_ | (refine (run_if rfl (fun hb => ?_) (fun hb => ?_)) <;> first | (exfalso; omega) | skip) | (refine (run_ifn rfl (fun hb => ?_) (fun hb => ?_)) <;> first | (exfalso; omega) | skip) | refine run_block ?_ | refine run_ret ?_ | refine run_exit ?_ | refine run_skip ?_ | refine run_regionD (by kernel_rfl) ?_ | refine run_condn rfl (fun hb => ?_) (fun hb => ?_) | refine run_cond rfl (fun hb => ?_) (fun hb => ?_))
      | refine seqQ_normal ?_ | refine seqQ_ret ?_ | refine seqQ_exit ?_ | refine blockQ_normal ?_ | refine blockQ_ret ?_ | refine blockQ_eq ?_ | refine blockQ_ne rfl ?_ | refine loopQ_ret ?_ | refine loopQ_exit ?_)
  · exact loopQ_nextD (k + 1) ⟨by omega, trivial⟩ (by omega) (by first | exact List.Sublist.refl _ | exact sub1 | exact sub2 | exact sub3) ⟨rfl, (by first | rfl | (rw [sumF_succ (one x) (by omega), one_t hb.symm]; try rfl) | exact si (by omega)), rfl, rfl, nx _, trivial⟩
  · exact loopQ_nextD (k + 1) ⟨by omega, trivial⟩ (by omega) (by first | exact List.Sublist.refl _ | exact sub1 | exact sub2 | exact sub3) ⟨rfl, (by first | rfl | (rw [sumF_succ (one x) (by omega), one_f (fun q => hb q.symm), Int.add_zero]; try rfl) | exact si (by omega)), rfl, rfl, nx _, trivial⟩
  · exact end1 rfl (List.Sublist.refl _) (ai (by rw [List.take_of_length_le (by omega)]; rfl)) (.inl rfl)

theorem occ_bnd (x : Int) (l : List Int) : 0 ≤ occ x l ∧ occ x l ≤ l.length := by
  have := occ_take x l l.length (Nat.le_refl _)
  rw [List.take_length] at this; exact this
theorem Colony.Ok.oc {o : Int} {c : Colony} (h : c.Ok o) (x : Int) : (∀ g ∈ c.groups, 0 ≤ g.count * occ x g.contents ∧ g.count * occ x g.contents ≤ 300000) := fun g hg => by
  obtain ⟨i, hi, rfl⟩ := List.getElem_of_mem hg
  have h1 := h.upto hi
  have h2 := (h.2.2.1 i hi).1.2.1.2
  have h3 := occ_bnd x c.groups[i].contents
  have h4 : 0 ≤ c.groups[i].count * occ x c.groups[i].contents := Int.mul_nonneg (by omega) h3.1
  have h5 : c.groups[i].count * occ x c.groups[i].contents ≤ 5000 * 60 := Int.mul_le_mul (by omega) (by omega) h3.1 (by omega)
  omega
theorem Colony.Ok.ocs {o : Int} {c : Colony} (h : c.Ok o) (x : Int) (k : Nat) (hk : k ≤ c.groups.length) : 0 ≤ sumF (fun g => g.count * occ x g.contents) (c.groups.take k) ∧ sumF (fun g => g.count * occ x g.contents) (c.groups.take k) ≤ 300000 * k := by
  have := sumF_take (fun g : Group => g.count * occ x g.contents) c.groups (h.oc x) k hk
  simpa using this

noncomputable def cntO (d : Division) (c : Colony) (x : Int) : Int := occ x c.skin + sumF (fun g => g.count * occ x g.contents) c.groups
def Division.has (d : Division) (x : Int) : Prop := 0 ≤ x ∧ x ≤ d.objects - 1

open Classical in
noncomputable def cdO (p q r : Prop) : Int := if p then (if q then (if r then 0 else 2) else 2) else 1
theorem cdO_o {p q r : Prop} (h : p) (h2 : q) (h3 : r) : cdO p q r = 0 := by unfold cdO; rw [if_pos h, if_pos h2, if_pos h3]
theorem cdO_r {p q r : Prop} (h : p) (h2 : q) (h3 : ¬r) : cdO p q r = 2 := by unfold cdO; rw [if_pos h, if_pos h2, if_neg h3]
theorem cdO_n {p q r : Prop} (h : ¬ (p ∧ q)) : cdO p q r = cd2 p q := by
  by_cases hp : p
  · have hq : ¬ q := fun x => h ⟨hp, x⟩
    unfold cdO; rw [if_pos hp, if_neg hq, cd2_t hp hq]
  · unfold cdO; rw [if_neg hp, cd2_f hp]

theorem c_sCountObject (d : Division) (c : Colony) (x : Int) : Gives Try.prog 32 [.agg (encDivision d), .agg (encColony c), .int x] (.tup [.int (numP ((d.Valid ∧ c.Ok d.objects) ∧ d.has x) (cntO d c x)), .int (cdO d.Valid (c.Ok d.objects) (d.has x))]) := by
  refine fn_of_run tyOk ztOk mix Try.func32 rfl (by decide) Try.ntmps32 (fun w0 h => ?_)
  repeat' (first
      | (refine j_go ?_; first
        | refine j_op0 rfl rfl rfl rfl ?_
        | refine j_off rfl rfl rfl ?_
        | (refine j_kIdx rfl ?_; first | refine j_idx rfl rfl rfl rfl rfl (by omega) rfl rfl rfl ?_ | refine j_midx rfl rfl rfl rfl rfl (by first | omega | (simp only [List.length_append, List.length_cons, List.length_nil]; omega)) rfl rfl ?_ | refine j_idxz rfl rfl rfl rfl rfl ⟨by omega, by omega⟩ rfl rfl rfl ?_ | refine j_midxz rfl rfl rfl rfl rfl (by first | omega | (simp only [List.length_append, List.length_cons, List.length_nil]; omega)) rfl rfl ?_ | refine j_aidx rfl rfl rfl rfl rfl (by omega) rfl rfl ?_ | refine j_aidxz rfl rfl rfl rfl rfl (by omega) rfl rfl ?_)
        | (refine j_kBin rfl ?_; first | refine j_in rfl rfl ⟨by omega, by omega⟩ rfl rfl ?_ | refine j_quo rfl rfl rfl rfl (by omega) rfl rfl ?_ | refine j_rem rfl rfl rfl rfl (by omega) rfl rfl ?_ | refine j_and1 rfl rfl rfl rfl rfl rfl ?_ | refine j_shl rfl rfl rfl rfl rfl (by omega) (by omega) rfl rfl ?_ | refine j_shr rfl rfl rfl rfl rfl (by omega) rfl rfl ?_ | refine j_cat rfl rfl rfl rfl (by first | omega | (simp only [List.length_append, List.length_cons, List.length_nil]; omega)) rfl rfl ?_ | refine j_isnil rfl rfl rfl rfl (by first | exact .inl ⟨rfl, rfl⟩ | exact .inr ⟨rfl, rfl⟩) (by first | exact .inl ⟨rfl, rfl⟩ | exact .inr ⟨rfl, rfl⟩) rfl rfl ?_)
        | (refine j_kLen rfl ?_; first | refine j_len rfl rfl rfl rfl rfl rfl ?_ | refine j_op rfl rfl rfl rfl ?_)
        | (refine j_kCall rfl rfl rfl rfl ?_; first | refine jc (c_l07Asked _ _) (LeL.refl _) rfl rfl ?_ | refine jc (c_l07Asked _ _) (by repeat' (first | exact LeL.nil | refine LeL.cons ?_ ?_ | exact Le.refl _ | exact Le.nilm _ _ | exact Le.nil _ | refine Le.agg ?_)) rfl rfl ?_)
        | (refine j_kLoad rfl ?_; first | refine j_mload 0 rfl rfl rfl rfl rfl rfl rfl ?_ | refine j_mload 1 rfl rfl rfl rfl rfl rfl rfl ?_ | refine j_mload 2 rfl rfl rfl rfl rfl rfl rfl ?_ | refine j_mload 3 rfl rfl rfl rfl rfl rfl rfl ?_ | refine j_mload 4 rfl rfl rfl rfl rfl rfl rfl ?_)
        | (refine j_kStore rfl ?_; first | refine j_store 0 rfl rfl rfl rfl rfl rfl rfl rfl rfl rfl rfl ?_ | refine j_storeN 0 rfl rfl rfl rfl rfl rfl rfl rfl rfl rfl rfl ?_ | refine j_store 1 rfl rfl rfl rfl rfl rfl rfl rfl rfl rfl rfl ?_ | refine j_storeN 1 rfl rfl rfl rfl rfl rfl rfl rfl rfl rfl rfl ?_ | refine j_store 2 rfl rfl rfl rfl rfl rfl rfl rfl rfl rfl rfl ?_ | refine j_storeN 2 rfl rfl rfl rfl rfl rfl rfl rfl rfl rfl rfl ?_ | refine j_store 3 rfl rfl rfl rfl rfl rfl rfl rfl rfl rfl rfl ?_ | refine j_storeN 3 rfl rfl rfl rfl rfl rfl rfl rfl rfl rfl rfl ?_ | refine j_store 4 rfl rfl rfl rfl rfl rfl rfl rfl rfl rfl rfl ?_ | refine j_storeN 4 rfl rfl rfl rfl rfl rfl rfl rfl rfl rfl rfl ?_)
        | (refine j_kBsl rfl ?_; first | refine j_bs0 rfl rfl rfl rfl rfl rfl ?_ | refine j_bsl rfl rfl rfl rfl rfl rfl rfl rfl rfl rfl rfl ?_)
        | (refine j_kSlice rfl ?_; first | refine j_ss rfl rfl rfl rfl rfl rfl (by omega) rfl rfl ?_ | refine j_slice rfl rfl rfl rfl rfl rfl (by omega) (fun _ => rfl) rfl rfl ?_)
        | (refine j_kGuard rfl ?_; first | (refine (j_if rfl rfl rfl (fun hb => ?_) (fun hb => ?_)) <;> first | (exfalso; omega) | skip) | (refine (j_ifn rfl rfl rfl (fun hb => ?_) (fun hb => ?_)) <;> first | (exfalso; omega) | skip))
        | refine j_box rfl rfl rfl rfl rfl rfl ?_
        | refine j_build rfl rfl rfl rfl rfl rfl rfl ?_
        | refine j_alloc rfl rfl rfl rfl rfl (fun _ => ?_)
        | refine j_si rfl rfl rfl rfl rfl (by omega) rfl rfl ?_
        | refine j_siz rfl rfl rfl rfl rfl (by omega) rfl rfl ?_
        | refine j_conv rfl rfl rfl rfl rfl (wrap_u64 (by omega) (by omega)) rfl rfl ?_
        | refine j_convB rfl rfl rfl rfl rfl (by omega) rfl rfl ?_
        | refine j_b2s rfl rfl rfl rfl rfl rfl rfl rfl ?_
        | refine j_in rfl rfl ⟨by omega, by omega⟩ rfl rfl ?_)
      | refine j_nil ?_
      | (refine r_go ?_; first | refine run_seq ?_ | refine run_region ?_ | refine run_cond_t rfl ?_ | refine run_cond_f rfl ?_ | (refine (run_if rfl (fun hb => ?_) (fun hb => ?_)) <;> first | (exfalso; omega) | skip) | (refine (run_ifn rfl (fun hb => ?_) (fun hb => ?_)) <;> first | (exfalso; omega) | skip) | refine run_block ?_ | refine run_ret ?_ | refine run_exit ?_ | refine run_skip ?_ | refine run_regionD (by kernel_rfl) ?_ | refine run_condn rfl (fun hb => ?_) (fun hb => ?_) | refine run_cond rfl (fun hb => ?_) (fun hb => ?_))
      | refine seqQ_normal ?_ | refine seqQ_ret ?_ | refine seqQ_exit ?_ | refine blockQ_normal ?_ | refine blockQ_ret ?_ | refine blockQ_eq ?_ | refine blockQ_ne rfl ?_ | refine loopQ_ret ?_ | refine loopQ_exit ?_)
  · exact end2 rfl rfl (List.Sublist.refl _) (by rw [num_f (fun q => hb (cd2_z.2 q.1)), cdO_n (fun q => hb (cd2_z.2 q))]; rfl) (.inl rfl)
  · have hz := hb
    have ⟨hv, hc⟩ := cd2_z.1 hb
    have hl := hc.2.1
    have hv1 := hv.1
    have hs := occ_bnd x c.skin
    have hs2 := hc.1.2
    repeat' (first
      | (refine j_go ?_; first
        | refine j_op0 rfl rfl rfl rfl ?_
        | refine j_off rfl rfl rfl ?_
        | (refine j_kIdx rfl ?_; first | refine j_idx rfl rfl rfl rfl rfl (by omega) rfl rfl rfl ?_ | refine j_midx rfl rfl rfl rfl rfl (by first | omega | (simp only [List.length_append, List.length_cons, List.length_nil]; omega)) rfl rfl ?_ | refine j_idxz rfl rfl rfl rfl rfl ⟨by omega, by omega⟩ rfl rfl rfl ?_ | refine j_midxz rfl rfl rfl rfl rfl (by first | omega | (simp only [List.length_append, List.length_cons, List.length_nil]; omega)) rfl rfl ?_ | refine j_aidx rfl rfl rfl rfl rfl (by omega) rfl rfl ?_ | refine j_aidxz rfl rfl rfl rfl rfl (by omega) rfl rfl ?_)
        | (refine j_kBin rfl ?_; first | refine j_in rfl rfl ⟨by omega, by omega⟩ rfl rfl ?_ | refine j_quo rfl rfl rfl rfl (by omega) rfl rfl ?_ | refine j_rem rfl rfl rfl rfl (by omega) rfl rfl ?_ | refine j_and1 rfl rfl rfl rfl rfl rfl ?_ | refine j_shl rfl rfl rfl rfl rfl (by omega) (by omega) rfl rfl ?_ | refine j_shr rfl rfl rfl rfl rfl (by omega) rfl rfl ?_ | refine j_cat rfl rfl rfl rfl (by first | omega | (simp only [List.length_append, List.length_cons, List.length_nil]; omega)) rfl rfl ?_ | refine j_isnil rfl rfl rfl rfl (by first | exact .inl ⟨rfl, rfl⟩ | exact .inr ⟨rfl, rfl⟩) (by first | exact .inl ⟨rfl, rfl⟩ | exact .inr ⟨rfl, rfl⟩) rfl rfl ?_)
        | (refine j_kLen rfl ?_; first | refine j_len rfl rfl rfl rfl rfl rfl ?_ | refine j_op rfl rfl rfl rfl ?_)
        | (refine j_kCall rfl rfl rfl rfl ?_; first | refine jc (c_l00In _ _ _) (LeL.refl _) rfl rfl ?_ | refine jc (c_l07Times _ _) (LeL.refl _) rfl rfl ?_ | refine jc (c_l00In _ _ _) (by repeat' (first | exact LeL.nil | refine LeL.cons ?_ ?_ | exact Le.refl _ | exact Le.nilm _ _ | exact Le.nil _ | refine Le.agg ?_)) rfl rfl ?_ | refine jc (c_l07Times _ _) (by repeat' (first | exact LeL.nil | refine LeL.cons ?_ ?_ | exact Le.refl _ | exact Le.nilm _ _ | exact Le.nil _ | refine Le.agg ?_)) rfl rfl ?_)
        | (refine j_kLoad rfl ?_; first | refine j_mload 0 rfl rfl rfl rfl rfl rfl rfl ?_ | refine j_mload 1 rfl rfl rfl rfl rfl rfl rfl ?_ | refine j_mload 2 rfl rfl rfl rfl rfl rfl rfl ?_ | refine j_mload 3 rfl rfl rfl rfl rfl rfl rfl ?_ | refine j_mload 4 rfl rfl rfl rfl rfl rfl rfl ?_)
        | (refine j_kStore rfl ?_; first | refine j_store 0 rfl rfl rfl rfl rfl rfl rfl rfl rfl rfl rfl ?_ | refine j_storeN 0 rfl rfl rfl rfl rfl rfl rfl rfl rfl rfl rfl ?_ | refine j_store 1 rfl rfl rfl rfl rfl rfl rfl rfl rfl rfl rfl ?_ | refine j_storeN 1 rfl rfl rfl rfl rfl rfl rfl rfl rfl rfl rfl ?_ | refine j_store 2 rfl rfl rfl rfl rfl rfl rfl rfl rfl rfl rfl ?_ | refine j_storeN 2 rfl rfl rfl rfl rfl rfl rfl rfl rfl rfl rfl ?_ | refine j_store 3 rfl rfl rfl rfl rfl rfl rfl rfl rfl rfl rfl ?_ | refine j_storeN 3 rfl rfl rfl rfl rfl rfl rfl rfl rfl rfl rfl ?_ | refine j_store 4 rfl rfl rfl rfl rfl rfl rfl rfl rfl rfl rfl ?_ | refine j_storeN 4 rfl rfl rfl rfl rfl rfl rfl rfl rfl rfl rfl ?_)
        | (refine j_kBsl rfl ?_; first | refine j_bs0 rfl rfl rfl rfl rfl rfl ?_ | refine j_bsl rfl rfl rfl rfl rfl rfl rfl rfl rfl rfl rfl ?_)
        | (refine j_kSlice rfl ?_; first | refine j_ss rfl rfl rfl rfl rfl rfl (by omega) rfl rfl ?_ | refine j_slice rfl rfl rfl rfl rfl rfl (by omega) (fun _ => rfl) rfl rfl ?_)
        | (refine j_kGuard rfl ?_; first | (refine (j_if rfl rfl rfl (fun hb => ?_) (fun hb => ?_)) <;> first | (exfalso; omega) | skip) | (refine (j_ifn rfl rfl rfl (fun hb => ?_) (fun hb => ?_)) <;> first | (exfalso; omega) | skip))
        | refine j_box rfl rfl rfl rfl rfl rfl ?_
        | refine j_build rfl rfl rfl rfl rfl rfl rfl ?_
        | refine j_alloc rfl rfl rfl rfl rfl (fun _ => ?_)
        | refine j_si rfl rfl rfl rfl rfl (by omega) rfl rfl ?_
        | refine j_siz rfl rfl rfl rfl rfl (by omega) rfl rfl ?_
        | refine j_conv rfl rfl rfl rfl rfl (wrap_u64 (by omega) (by omega)) rfl rfl ?_
        | refine j_convB rfl rfl rfl rfl rfl (by omega) rfl rfl ?_
        | refine j_b2s rfl rfl rfl rfl rfl rfl rfl rfl ?_
        | refine j_in rfl rfl ⟨by omega, by omega⟩ rfl rfl ?_)
      | refine j_nil ?_
      | (refine r_go ?_; first | refine run_seq ?_ | refine run_region ?_ | refine run_cond_t rfl ?_ | refine run_cond_f rfl ?_ | (refine (run_if rfl (fun hb => ?_) (fun hb => ?_)) <;> first | (exfalso; omega) | skip) | (refine (run_ifn rfl (fun hb => ?_) (fun hb => ?_)) <;> first | (exfalso; omega) | skip) | refine run_block ?_ | refine run_ret ?_ | refine run_exit ?_ | refine run_skip ?_ | refine run_regionD (by kernel_rfl) ?_ | refine run_condn rfl (fun hb => ?_) (fun hb => ?_) | refine run_cond rfl (fun hb => ?_) (fun hb => ?_))
      | refine seqQ_normal ?_ | refine seqQ_ret ?_ | refine seqQ_exit ?_ | refine blockQ_normal ?_ | refine blockQ_ret ?_ | refine blockQ_eq ?_ | refine blockQ_ne rfl ?_ | refine loopQ_ret ?_ | refine loopQ_exit ?_)
    · exact end2 rfl rfl (List.Sublist.refl _) (by rw [num_f (fun q => hb q.2), cdO_r hv hc (show ¬ d.has x from hb)]; rfl) (.inl rfl)
    · have hh : d.has x := hb
      refine run_loop (fun k : Nat => [(2, .int x), (4, .ip (encColony c)), (9, .int (occ x c.skin + sumF (fun g => g.count * occ x g.contents) (c.groups.take k))), (10, .int (k : Int))]) (fun _ => _) (fun k => k ≤ c.groups.length ∧ (True)) (fun k => c.groups.length - k) 0 ⟨rfl, rfl, (by first | rfl | exact si (by first | omega | (simp; done) | (simp [sumF]; done) | (simp; omega)) | exact raw_f (by simp) | exact raw_t (by simp)), rfl, trivial⟩ rfl ⟨Nat.zero_le _, by first | (intros; omega) | (simp; done) | rfl | trivial | exact ⟨by simp [sumF], by intros; omega⟩ | exact ⟨by omega, by simp⟩⟩ (fun k ⟨kl, kp⟩ => ?_)
      have b1 := hc.ocs x k kl
      by_cases hk : k < c.groups.length
      · have b2 := hc.oc x _ (List.getElem_mem hk)
        repeat' (first
      | (refine j_go ?_; first
        | refine j_op0 rfl rfl rfl rfl ?_
        | refine j_off rfl rfl rfl ?_
        | (refine j_kIdx rfl ?_; first | refine j_idx rfl rfl rfl rfl rfl (by omega) rfl rfl rfl ?_ | refine j_midx rfl rfl rfl rfl rfl (by first | omega | (simp only [List.length_append, List.length_cons, List.length_nil]; omega)) rfl rfl ?_ | refine j_idxz rfl rfl rfl rfl rfl ⟨by omega, by omega⟩ rfl rfl rfl ?_ | refine j_midxz rfl rfl rfl rfl rfl (by first | omega | (simp only [List.length_append, List.length_cons, List.length_nil]; omega)) rfl rfl ?_ | refine j_aidx rfl rfl rfl rfl rfl (by omega) rfl rfl ?_ | refine j_aidxz rfl rfl rfl rfl rfl (by omega) rfl rfl ?_)
        | (refine j_kBin rfl ?_; first | refine j_in rfl rfl ⟨by omega, by omega⟩ rfl rfl ?_ | refine j_quo rfl rfl rfl rfl (by omega) rfl rfl ?_ | refine j_rem rfl rfl rfl rfl (by omega) rfl rfl ?_ | refine j_and1 rfl rfl rfl rfl rfl rfl ?_ | refine j_shl rfl rfl rfl rfl rfl (by omega) (by omega) rfl rfl ?_ | refine j_shr rfl rfl rfl rfl rfl (by omega) rfl rfl ?_ | refine j_cat rfl rfl rfl rfl (by first | omega | (simp only [List.length_append, List.length_cons, List.length_nil]; omega)) rfl rfl ?_ | refine j_isnil rfl rfl rfl rfl (by first | exact .inl ⟨rfl, rfl⟩ | exact .inr ⟨rfl, rfl⟩) (by first | exact .inl ⟨rfl, rfl⟩ | exact .inr ⟨rfl, rfl⟩) rfl rfl ?_)
        | (refine j_kLen rfl ?_; first | refine j_len rfl rfl rfl rfl rfl rfl ?_ | refine j_op rfl rfl rfl rfl ?_)
        | (refine j_kCall rfl rfl rfl rfl ?_; first | refine jc (c_l07Times _ _) (LeL.refl _) rfl rfl ?_ | refine jc (c_l07Times _ _) (by repeat' (first | exact LeL.nil | refine LeL.cons ?_ ?_ | exact Le.refl _ | exact Le.nilm _ _ | exact Le.nil _ | refine Le.agg ?_)) rfl rfl ?_)
        | (refine j_kLoad rfl ?_; first | refine j_mload 0 rfl rfl rfl rfl rfl rfl rfl ?_ | refine j_mload 1 rfl rfl rfl rfl rfl rfl rfl ?_ | refine j_mload 2 rfl rfl rfl rfl rfl rfl rfl ?_ | refine j_mload 3 rfl rfl rfl rfl rfl rfl rfl ?_ | refine j_mload 4 rfl rfl rfl rfl rfl rfl rfl ?_)
        | (refine j_kStore rfl ?_; first | refine j_store 0 rfl rfl rfl rfl rfl rfl rfl rfl rfl rfl rfl ?_ | refine j_storeN 0 rfl rfl rfl rfl rfl rfl rfl rfl rfl rfl rfl ?_ | refine j_store 1 rfl rfl rfl rfl rfl rfl rfl rfl rfl rfl rfl ?_ | refine j_storeN 1 rfl rfl rfl rfl rfl rfl rfl rfl rfl rfl rfl ?_ | refine j_store 2 rfl rfl rfl rfl rfl rfl rfl rfl rfl rfl rfl ?_ | refine j_storeN 2 rfl rfl rfl rfl rfl rfl rfl rfl rfl rfl rfl ?_ | refine j_store 3 rfl rfl rfl rfl rfl rfl rfl rfl rfl rfl rfl ?_ | refine j_storeN 3 rfl rfl rfl rfl rfl rfl rfl rfl rfl rfl rfl ?_ | refine j_store 4 rfl rfl rfl rfl rfl rfl rfl rfl rfl rfl rfl ?_ | refine j_storeN 4 rfl rfl rfl rfl rfl rfl rfl rfl rfl rfl rfl ?_)
        | (refine j_kBsl rfl ?_; first | refine j_bs0 rfl rfl rfl rfl rfl rfl ?_ | refine j_bsl rfl rfl rfl rfl rfl rfl rfl rfl rfl rfl rfl ?_)
        | (refine j_kSlice rfl ?_; first | refine j_ss rfl rfl rfl rfl rfl rfl (by omega) rfl rfl ?_ | refine j_slice rfl rfl rfl rfl rfl rfl (by omega) (fun _ => rfl) rfl rfl ?_)
        | (refine j_kGuard rfl ?_; first | (refine (j_if rfl rfl rfl (fun hb => ?_) (fun hb => ?_)) <;> first | (exfalso; omega) | skip) | (refine (j_ifn rfl rfl rfl (fun hb => ?_) (fun hb => ?_)) <;> first | (exfalso; omega) | skip))
        | refine j_box rfl rfl rfl rfl rfl rfl ?_
        | refine j_build rfl rfl rfl rfl rfl rfl rfl ?_
        | refine j_alloc rfl rfl rfl rfl rfl (fun _ => ?_)
        | refine j_si rfl rfl rfl rfl rfl (by omega) rfl rfl ?_
        | refine j_siz rfl rfl rfl rfl rfl (by omega) rfl rfl ?_
        | refine j_conv rfl rfl rfl rfl rfl (wrap_u64 (by omega) (by omega)) rfl rfl ?_
        | refine j_convB rfl rfl rfl rfl rfl (by omega) rfl rfl ?_
        | refine j_b2s rfl rfl rfl rfl rfl rfl rfl rfl ?_
        | refine j_in rfl rfl ⟨by omega, by omega⟩ rfl rfl ?_)
      | refine j_nil ?_
      | (refine r_go ?_; first | refine run_seq ?_ | refine run_region ?_ | refine run_cond_t rfl ?_ | refine run_cond_f rfl ?_ | (refine (run_if rfl (fun hb => ?_) (fun hb => ?_)) <;> first | (exfalso; omega) | skip) | (refine (run_ifn rfl (fun hb => ?_) (fun hb => ?_)) <;> first | (exfalso; omega) | skip) | refine run_block ?_ | refine run_ret ?_ | refine run_exit ?_ | refine run_skip ?_ | refine run_regionD (by kernel_rfl) ?_ | refine run_condn rfl (fun hb => ?_) (fun hb => ?_) | refine run_cond rfl (fun hb => ?_) (fun hb => ?_))
      | refine seqQ_normal ?_ | refine seqQ_ret ?_ | refine seqQ_exit ?_ | refine blockQ_normal ?_ | refine blockQ_ret ?_ | refine blockQ_eq ?_ | refine blockQ_ne rfl ?_ | refine loopQ_ret ?_ | refine loopQ_exit ?_)
        exact loopQ_nextD (k + 1) ⟨by omega, trivial⟩ (by omega) (by first | exact List.Sublist.refl _ | exact sub1 | exact sub2 | exact sub3) ⟨rfl, rfl, (by first | rfl | (rw [sumF_succ (fun g : Group => g.count * occ x g.contents) hk]; refine si ?_; omega) | exact si (by omega)), nx _, trivial⟩
      · repeat' (first
      | (refine j_go ?_; first
        | refine j_op0 rfl rfl rfl rfl ?_
        | refine j_off rfl rfl rfl ?_
        | (refine j_kIdx rfl ?_; first | refine j_idx rfl rfl rfl rfl rfl (by omega) rfl rfl rfl ?_ | refine j_midx rfl rfl rfl rfl rfl (by first | omega | (simp only [List.length_append, List.length_cons, List.length_nil]; omega)) rfl rfl ?_ | refine j_idxz rfl rfl rfl rfl rfl ⟨by omega, by omega⟩ rfl rfl rfl ?_ | refine j_midxz rfl rfl rfl rfl rfl (by first | omega | (simp only [List.length_append, List.length_cons, List.length_nil]; omega)) rfl rfl ?_ | refine j_aidx rfl rfl rfl rfl rfl (by omega) rfl rfl ?_ | refine j_aidxz rfl rfl rfl rfl rfl (by omega) rfl rfl ?_)
        | (refine j_kBin rfl ?_; first | refine j_in rfl rfl ⟨by omega, by omega⟩ rfl rfl ?_ | refine j_quo rfl rfl rfl rfl (by omega) rfl rfl ?_ | refine j_rem rfl rfl rfl rfl (by omega) rfl rfl ?_ | refine j_and1 rfl rfl rfl rfl rfl rfl ?_ | refine j_shl rfl rfl rfl rfl rfl (by omega) (by omega) rfl rfl ?_ | refine j_shr rfl rfl rfl rfl rfl (by omega) rfl rfl ?_ | refine j_cat rfl rfl rfl rfl (by first | omega | (simp only [List.length_append, List.length_cons, List.length_nil]; omega)) rfl rfl ?_ | refine j_isnil rfl rfl rfl rfl (by first | exact .inl ⟨rfl, rfl⟩ | exact .inr ⟨rfl, rfl⟩) (by first | exact .inl ⟨rfl, rfl⟩ | exact .inr ⟨rfl, rfl⟩) rfl rfl ?_)
        | (refine j_kLen rfl ?_; first | refine j_len rfl rfl rfl rfl rfl rfl ?_ | refine j_op rfl rfl rfl rfl ?_)
        | (refine j_kLoad rfl ?_; first | refine j_mload 0 rfl rfl rfl rfl rfl rfl rfl ?_ | refine j_mload 1 rfl rfl rfl rfl rfl rfl rfl ?_ | refine j_mload 2 rfl rfl rfl rfl rfl rfl rfl ?_ | refine j_mload 3 rfl rfl rfl rfl rfl rfl rfl ?_ | refine j_mload 4 rfl rfl rfl rfl rfl rfl rfl ?_)
        | (refine j_kStore rfl ?_; first | refine j_store 0 rfl rfl rfl rfl rfl rfl rfl rfl rfl rfl rfl ?_ | refine j_storeN 0 rfl rfl rfl rfl rfl rfl rfl rfl rfl rfl rfl ?_ | refine j_store 1 rfl rfl rfl rfl rfl rfl rfl rfl rfl rfl rfl ?_ | refine j_storeN 1 rfl rfl rfl rfl rfl rfl rfl rfl rfl rfl rfl ?_ | refine j_store 2 rfl rfl rfl rfl rfl rfl rfl rfl rfl rfl rfl ?_ | refine j_storeN 2 rfl rfl rfl rfl rfl rfl rfl rfl rfl rfl rfl ?_ | refine j_store 3 rfl rfl rfl rfl rfl rfl rfl rfl rfl rfl rfl ?_ | refine j_storeN 3 rfl rfl rfl rfl rfl rfl rfl rfl rfl rfl rfl ?_ | refine j_store 4 rfl rfl rfl rfl rfl rfl rfl rfl rfl rfl rfl ?_ | refine j_storeN 4 rfl rfl rfl rfl rfl rfl rfl rfl rfl rfl rfl ?_)
        | (refine j_kBsl rfl ?_; first | refine j_bs0 rfl rfl rfl rfl rfl rfl ?_ | refine j_bsl rfl rfl rfl rfl rfl rfl rfl rfl rfl rfl rfl ?_)
        | (refine j_kSlice rfl ?_; first | refine j_ss rfl rfl rfl rfl rfl rfl (by omega) rfl rfl ?_ | refine j_slice rfl rfl rfl rfl rfl rfl (by omega) (fun _ => rfl) rfl rfl ?_)
        | (refine j_kGuard rfl ?_; first | (refine (j_if rfl rfl rfl (fun hb => ?_) (fun hb => ?_)) <;> first | (exfalso; omega) | skip) | (refine (j_ifn rfl rfl rfl (fun hb => ?_) (fun hb => ?_)) <;> first | (exfalso; omega) | skip))
        | refine j_box rfl rfl rfl rfl rfl rfl ?_
        | refine j_build rfl rfl rfl rfl rfl rfl rfl ?_
        | refine j_alloc rfl rfl rfl rfl rfl (fun _ => ?_)
        | refine j_si rfl rfl rfl rfl rfl (by omega) rfl rfl ?_
        | refine j_siz rfl rfl rfl rfl rfl (by omega) rfl rfl ?_
        | refine j_conv rfl rfl rfl rfl rfl (wrap_u64 (by omega) (by omega)) rfl rfl ?_
        | refine j_convB rfl rfl rfl rfl rfl (by omega) rfl rfl ?_
        | refine j_b2s rfl rfl rfl rfl rfl rfl rfl rfl ?_
        | refine j_in rfl rfl ⟨by omega, by omega⟩ rfl rfl ?_)
      | refine j_nil ?_
      | (refine r_go ?_; first | refine run_seq ?_ | refine run_region ?_ | refine run_cond_t rfl ?_ | refine run_cond_f rfl ?_ | (refine (run_if rfl (fun hb => ?_) (fun hb => ?_)) <;> first | (exfalso; omega) | skip) | (refine (run_ifn rfl (fun hb => ?_) (fun hb => ?_)) <;> first | (exfalso; omega) | skip) | refine run_block ?_ | refine run_ret ?_ | refine run_exit ?_ | refine run_skip ?_ | refine run_regionD (by kernel_rfl) ?_ | refine run_condn rfl (fun hb => ?_) (fun hb => ?_) | refine run_cond rfl (fun hb => ?_) (fun hb => ?_))
      | refine seqQ_normal ?_ | refine seqQ_ret ?_ | refine seqQ_exit ?_ | refine blockQ_normal ?_ | refine blockQ_ret ?_ | refine blockQ_eq ?_ | refine blockQ_ne rfl ?_ | refine loopQ_ret ?_ | refine loopQ_exit ?_)
        exact end2 rfl rfl (List.Sublist.refl _) (by rw [num_t ⟨⟨hv, hc⟩, hh⟩, cdO_o hv hc hh, List.take_of_length_le (by omega)]; rfl) (.inl rfl)

theorem c_iCountObject (d : Division) (c : Colony) (x : Int) : Gives Try.prog 33 [.agg (encDivision d), .agg (encColony c), .int x] (.tup [.int (numP ((d.Valid ∧ c.Ok d.objects) ∧ d.has x) (cntO d c x)), .int (cdO d.Valid (c.Ok d.objects) (d.has x))]) := by
  refine fn_of_run tyOk ztOk mix Try.func33 rfl (by decide) Try.ntmps33 (fun w0 h => ?_)
  repeat' (first
      | (refine j_go ?_; first
        | refine j_op0 rfl rfl rfl rfl ?_
        | refine j_off rfl rfl rfl ?_
        | (refine j_kIdx rfl ?_; first | refine j_idx rfl rfl rfl rfl rfl (by omega) rfl rfl rfl ?_ | refine j_midx rfl rfl rfl rfl rfl (by first | omega | (simp only [List.length_append, List.length_cons, List.length_nil]; omega)) rfl rfl ?_ | refine j_idxz rfl rfl rfl rfl rfl ⟨by omega, by omega⟩ rfl rfl rfl ?_ | refine j_midxz rfl rfl rfl rfl rfl (by first | omega | (simp only [List.length_append, List.length_cons, List.length_nil]; omega)) rfl rfl ?_ | refine j_aidx rfl rfl rfl rfl rfl (by omega) rfl rfl ?_ | refine j_aidxz rfl rfl rfl rfl rfl (by omega) rfl rfl ?_)
        | (refine j_kBin rfl ?_; first | refine j_in rfl rfl ⟨by omega, by omega⟩ rfl rfl ?_ | refine j_quo rfl rfl rfl rfl (by omega) rfl rfl ?_ | refine j_rem rfl rfl rfl rfl (by omega) rfl rfl ?_ | refine j_and1 rfl rfl rfl rfl rfl rfl ?_ | refine j_shl rfl rfl rfl rfl rfl (by omega) (by omega) rfl rfl ?_ | refine j_shr rfl rfl rfl rfl rfl (by omega) rfl rfl ?_ | refine j_cat rfl rfl rfl rfl (by first | omega | (simp only [List.length_append, List.length_cons, List.length_nil]; omega)) rfl rfl ?_ | refine j_isnil rfl rfl rfl rfl (by first | exact .inl ⟨rfl, rfl⟩ | exact .inr ⟨rfl, rfl⟩) (by first | exact .inl ⟨rfl, rfl⟩ | exact .inr ⟨rfl, rfl⟩) rfl rfl ?_)
        | (refine j_kLen rfl ?_; first | refine j_len rfl rfl rfl rfl rfl rfl ?_ | refine j_op rfl rfl rfl rfl ?_)
        | (refine j_kCall rfl rfl rfl rfl ?_; first | refine jc (c_colonyCode _ _) (LeL.refl _) rfl rfl ?_ | refine jc (c_colonyCode _ _) (by repeat' (first | exact LeL.nil | refine LeL.cons ?_ ?_ | exact Le.refl _ | exact Le.nilm _ _ | exact Le.nil _ | refine Le.agg ?_)) rfl rfl ?_)
        | (refine j_kLoad rfl ?_; first | refine j_mload 0 rfl rfl rfl rfl rfl rfl rfl ?_ | refine j_mload 1 rfl rfl rfl rfl rfl rfl rfl ?_ | refine j_mload 2 rfl rfl rfl rfl rfl rfl rfl ?_ | refine j_mload 3 rfl rfl rfl rfl rfl rfl rfl ?_ | refine j_mload 4 rfl rfl rfl rfl rfl rfl rfl ?_)
        | (refine j_kStore rfl ?_; first | refine j_store 0 rfl rfl rfl rfl rfl rfl rfl rfl rfl rfl rfl ?_ | refine j_storeN 0 rfl rfl rfl rfl rfl rfl rfl rfl rfl rfl rfl ?_ | refine j_store 1 rfl rfl rfl rfl rfl rfl rfl rfl rfl rfl rfl ?_ | refine j_storeN 1 rfl rfl rfl rfl rfl rfl rfl rfl rfl rfl rfl ?_ | refine j_store 2 rfl rfl rfl rfl rfl rfl rfl rfl rfl rfl rfl ?_ | refine j_storeN 2 rfl rfl rfl rfl rfl rfl rfl rfl rfl rfl rfl ?_ | refine j_store 3 rfl rfl rfl rfl rfl rfl rfl rfl rfl rfl rfl ?_ | refine j_storeN 3 rfl rfl rfl rfl rfl rfl rfl rfl rfl rfl rfl ?_ | refine j_store 4 rfl rfl rfl rfl rfl rfl rfl rfl rfl rfl rfl ?_ | refine j_storeN 4 rfl rfl rfl rfl rfl rfl rfl rfl rfl rfl rfl ?_)
        | (refine j_kBsl rfl ?_; first | refine j_bs0 rfl rfl rfl rfl rfl rfl ?_ | refine j_bsl rfl rfl rfl rfl rfl rfl rfl rfl rfl rfl rfl ?_)
        | (refine j_kSlice rfl ?_; first | refine j_ss rfl rfl rfl rfl rfl rfl (by omega) rfl rfl ?_ | refine j_slice rfl rfl rfl rfl rfl rfl (by omega) (fun _ => rfl) rfl rfl ?_)
        | (refine j_kGuard rfl ?_; first | (refine (j_if rfl rfl rfl (fun hb => ?_) (fun hb => ?_)) <;> first | (exfalso; omega) | skip) | (refine (j_ifn rfl rfl rfl (fun hb => ?_) (fun hb => ?_)) <;> first | (exfalso; omega) | skip))
        | refine j_box rfl rfl rfl rfl rfl rfl ?_
        | refine j_build rfl rfl rfl rfl rfl rfl rfl ?_
        | refine j_alloc rfl rfl rfl rfl rfl (fun _ => ?_)
        | refine j_si rfl rfl rfl rfl rfl (by omega) rfl rfl ?_
        | refine j_siz rfl rfl rfl rfl rfl (by omega) rfl rfl ?_
        | refine j_conv rfl rfl rfl rfl rfl (wrap_u64 (by omega) (by omega)) rfl rfl ?_
        | refine j_convB rfl rfl rfl rfl rfl (by omega) rfl rfl ?_
        | refine j_b2s rfl rfl rfl rfl rfl rfl rfl rfl ?_
        | refine j_in rfl rfl ⟨by omega, by omega⟩ rfl rfl ?_)
      | refine j_nil ?_
      | (refine r_go ?_; first | refine run_seq ?_ | refine run_region ?_ | refine run_cond_t rfl ?_ | refine run_cond_f rfl ?_ | (refine (run_if rfl (fun hb => ?_) (fun hb => ?_)) <;> first | (exfalso; omega) | skip) | (refine (run_ifn rfl (fun hb => ?_) (fun hb => ?_)) <;> first | (exfalso; omega) | skip) | refine run_block ?_ | refine run_ret ?_ | refine run_exit ?_ | refine run_skip ?_ | refine run_regionD (by kernel_rfl) ?_ | refine run_condn rfl (fun hb => ?_) (fun hb => ?_) | refine run_cond rfl (fun hb => ?_) (fun hb => ?_))
      | refine seqQ_normal ?_ | refine seqQ_ret ?_ | refine seqQ_exit ?_ | refine blockQ_normal ?_ | refine blockQ_ret ?_ | refine blockQ_eq ?_ | refine blockQ_ne rfl ?_ | refine loopQ_ret ?_ | refine loopQ_exit ?_)
  · have hz := hb
    have ⟨hv, hc⟩ := cd2_z.1 hb
    have hl := hc.2.1
    have hv1 := hv.1
    have hs := occ_bnd x c.skin
    have hs2 := hc.1.2
    repeat' (first
      | (refine j_go ?_; first
        | refine j_op0 rfl rfl rfl rfl ?_
        | refine j_off rfl rfl rfl ?_
        | (refine j_kIdx rfl ?_; first | refine j_idx rfl rfl rfl rfl rfl (by omega) rfl rfl rfl ?_ | refine j_midx rfl rfl rfl rfl rfl (by first | omega | (simp only [List.length_append, List.length_cons, List.length_nil]; omega)) rfl rfl ?_ | refine j_idxz rfl rfl rfl rfl rfl ⟨by omega, by omega⟩ rfl rfl rfl ?_ | refine j_midxz rfl rfl rfl rfl rfl (by first | omega | (simp only [List.length_append, List.length_cons, List.length_nil]; omega)) rfl rfl ?_ | refine j_aidx rfl rfl rfl rfl rfl (by omega) rfl rfl ?_ | refine j_aidxz rfl rfl rfl rfl rfl (by omega) rfl rfl ?_)
        | (refine j_kBin rfl ?_; first | refine j_in rfl rfl ⟨by omega, by omega⟩ rfl rfl ?_ | refine j_quo rfl rfl rfl rfl (by omega) rfl rfl ?_ | refine j_rem rfl rfl rfl rfl (by omega) rfl rfl ?_ | refine j_and1 rfl rfl rfl rfl rfl rfl ?_ | refine j_shl rfl rfl rfl rfl rfl (by omega) (by omega) rfl rfl ?_ | refine j_shr rfl rfl rfl rfl rfl (by omega) rfl rfl ?_ | refine j_cat rfl rfl rfl rfl (by first | omega | (simp only [List.length_append, List.length_cons, List.length_nil]; omega)) rfl rfl ?_ | refine j_isnil rfl rfl rfl rfl (by first | exact .inl ⟨rfl, rfl⟩ | exact .inr ⟨rfl, rfl⟩) (by first | exact .inl ⟨rfl, rfl⟩ | exact .inr ⟨rfl, rfl⟩) rfl rfl ?_)
        | (refine j_kLen rfl ?_; first | refine j_len rfl rfl rfl rfl rfl rfl ?_ | refine j_op rfl rfl rfl rfl ?_)
        | (refine j_kCall rfl rfl rfl rfl ?_; first | refine jc (c_isObject _ _ hv1) (LeL.refl _) rfl rfl ?_ | refine jc (c_count _ _) (LeL.refl _) rfl rfl ?_ | refine jc (c_isObject _ _ hv1) (by repeat' (first | exact LeL.nil | refine LeL.cons ?_ ?_ | exact Le.refl _ | exact Le.nilm _ _ | exact Le.nil _ | refine Le.agg ?_)) rfl rfl ?_ | refine jc (c_count _ _) (by repeat' (first | exact LeL.nil | refine LeL.cons ?_ ?_ | exact Le.refl _ | exact Le.nilm _ _ | exact Le.nil _ | refine Le.agg ?_)) rfl rfl ?_)
        | (refine j_kLoad rfl ?_; first | refine j_mload 0 rfl rfl rfl rfl rfl rfl rfl ?_ | refine j_mload 1 rfl rfl rfl rfl rfl rfl rfl ?_ | refine j_mload 2 rfl rfl rfl rfl rfl rfl rfl ?_ | refine j_mload 3 rfl rfl rfl rfl rfl rfl rfl ?_ | refine j_mload 4 rfl rfl rfl rfl rfl rfl rfl ?_)
        | (refine j_kStore rfl ?_; first | refine j_store 0 rfl rfl rfl rfl rfl rfl rfl rfl rfl rfl rfl ?_ | refine j_storeN 0 rfl rfl rfl rfl rfl rfl rfl rfl rfl rfl rfl ?_ | refine j_store 1 rfl rfl rfl rfl rfl rfl rfl rfl rfl rfl rfl ?_ | refine j_storeN 1 rfl rfl rfl rfl rfl rfl rfl rfl rfl rfl rfl ?_ | refine j_store 2 rfl rfl rfl rfl rfl rfl rfl rfl rfl rfl rfl ?_ | refine j_storeN 2 rfl rfl rfl rfl rfl rfl rfl rfl rfl rfl rfl ?_ | refine j_store 3 rfl rfl rfl rfl rfl rfl rfl rfl rfl rfl rfl ?_ | refine j_storeN 3 rfl rfl rfl rfl rfl rfl rfl rfl rfl rfl rfl ?_ | refine j_store 4 rfl rfl rfl rfl rfl rfl rfl rfl rfl rfl rfl ?_ | refine j_storeN 4 rfl rfl rfl rfl rfl rfl rfl rfl rfl rfl rfl ?_)
        | (refine j_kBsl rfl ?_; first | refine j_bs0 rfl rfl rfl rfl rfl rfl ?_ | refine j_bsl rfl rfl rfl rfl rfl rfl rfl rfl rfl rfl rfl ?_)
        | (refine j_kSlice rfl ?_; first | refine j_ss rfl rfl rfl rfl rfl rfl (by omega) rfl rfl ?_ | refine j_slice rfl rfl rfl rfl rfl rfl (by omega) (fun _ => rfl) rfl rfl ?_)
        | (refine j_kGuard rfl ?_; first | (refine (j_if rfl rfl rfl (fun hb => ?_) (fun hb => ?_)) <;> first | (exfalso; omega) | skip) | (refine (j_ifn rfl rfl rfl (fun hb => ?_) (fun hb => ?_)) <;> first | (exfalso; omega) | skip))
        | refine j_box rfl rfl rfl rfl rfl rfl ?_
        | refine j_build rfl rfl rfl rfl rfl rfl rfl ?_
        | refine j_alloc rfl rfl rfl rfl rfl (fun _ => ?_)
        | refine j_si rfl rfl rfl rfl rfl (by omega) rfl rfl ?_
        | refine j_siz rfl rfl rfl rfl rfl (by omega) rfl rfl ?_
        | refine j_conv rfl rfl rfl rfl rfl (wrap_u64 (by omega) (by omega)) rfl rfl ?_
        | refine j_convB rfl rfl rfl rfl rfl (by omega) rfl rfl ?_
        | refine j_b2s rfl rfl rfl rfl rfl rfl rfl rfl ?_
        | refine j_in rfl rfl ⟨by omega, by omega⟩ rfl rfl ?_)
      | refine j_nil ?_
      | (refine r_go ?_; first | refine run_seq ?_ | refine run_region ?_ | refine run_cond_t rfl ?_ | refine run_cond_f rfl ?_ | (refine (run_if rfl (fun hb => ?_) (fun hb => ?_)) <;> first | (exfalso; omega) | skip) | (refine (run_ifn rfl (fun hb => ?_) (fun hb => ?_)) <;> first | (exfalso; omega) | skip) | refine run_block ?_ | refine run_ret ?_ | refine run_exit ?_ | refine run_skip ?_ | refine run_regionD (by kernel_rfl) ?_ | refine run_condn rfl (fun hb => ?_) (fun hb => ?_) | refine run_cond rfl (fun hb => ?_) (fun hb => ?_))
      | refine seqQ_normal ?_ | refine seqQ_ret ?_ | refine seqQ_exit ?_ | refine blockQ_normal ?_ | refine blockQ_ret ?_ | refine blockQ_eq ?_ | refine blockQ_ne rfl ?_ | refine loopQ_ret ?_ | refine loopQ_exit ?_)
    · exact end2 rfl rfl (List.Sublist.refl _) (by rw [num_f (fun q => absurd q.2 (show ¬ d.has x by assumption)), cdO_r hv hc (show ¬ d.has x by assumption)]; rfl) (.inl rfl)
    · have hh : d.has x := by assumption
      refine run_loop (fun k : Nat => [(2, .int x), (9, .int (occ x c.skin + sumF (fun g => g.count * occ x g.contents) (c.groups.take k))), (31, .sl (c.groups.map encGroup)), (32, .int c.groups.length), (33, .int (k : Int))]) (fun _ => _) (fun k => k ≤ c.groups.length ∧ (True)) (fun k => c.groups.length - k) 0 ⟨rfl, (by first | rfl | exact si (by first | omega | (simp; done) | (simp [sumF]; done) | (simp; omega)) | exact raw_f (by simp) | exact raw_t (by simp)), rfl, rfl, rfl, trivial⟩ rfl ⟨Nat.zero_le _, by first | (intros; omega) | (simp; done) | rfl | trivial | exact ⟨by simp [sumF], by intros; omega⟩ | exact ⟨by omega, by simp⟩⟩ (fun k ⟨kl, kp⟩ => ?_)
      have b1 := hc.ocs x k kl
      by_cases hk : k < c.groups.length
      · have b2 := hc.oc x _ (List.getElem_mem hk)
        repeat' (first
      | (refine j_go ?_; first
        | refine j_op0 rfl rfl rfl rfl ?_
        | refine j_off rfl rfl rfl ?_
        | (refine j_kIdx rfl ?_; first | refine j_idx rfl rfl rfl rfl rfl (by omega) rfl rfl rfl ?_ | refine j_midx rfl rfl rfl rfl rfl (by first | omega | (simp only [List.length_append, List.length_cons, List.length_nil]; omega)) rfl rfl ?_ | refine j_idxz rfl rfl rfl rfl rfl ⟨by omega, by omega⟩ rfl rfl rfl ?_ | refine j_midxz rfl rfl rfl rfl rfl (by first | omega | (simp only [List.length_append, List.length_cons, List.length_nil]; omega)) rfl rfl ?_ | refine j_aidx rfl rfl rfl rfl rfl (by omega) rfl rfl ?_ | refine j_aidxz rfl rfl rfl rfl rfl (by omega) rfl rfl ?_)
        | (refine j_kBin rfl ?_; first | refine j_in rfl rfl ⟨by omega, by omega⟩ rfl rfl ?_ | refine j_quo rfl rfl rfl rfl (by omega) rfl rfl ?_ | refine j_rem rfl rfl rfl rfl (by omega) rfl rfl ?_ | refine j_and1 rfl rfl rfl rfl rfl rfl ?_ | refine j_shl rfl rfl rfl rfl rfl (by omega) (by omega) rfl rfl ?_ | refine j_shr rfl rfl rfl rfl rfl (by omega) rfl rfl ?_ | refine j_cat rfl rfl rfl rfl (by first | omega | (simp only [List.length_append, List.length_cons, List.length_nil]; omega)) rfl rfl ?_ | refine j_isnil rfl rfl rfl rfl (by first | exact .inl ⟨rfl, rfl⟩ | exact .inr ⟨rfl, rfl⟩) (by first | exact .inl ⟨rfl, rfl⟩ | exact .inr ⟨rfl, rfl⟩) rfl rfl ?_)
        | (refine j_kLen rfl ?_; first | refine j_len rfl rfl rfl rfl rfl rfl ?_ | refine j_op rfl rfl rfl rfl ?_)
        | (refine j_kCall rfl rfl rfl rfl ?_; first | refine jc (c_count _ _) (LeL.refl _) rfl rfl ?_ | refine jc (c_count _ _) (by repeat' (first | exact LeL.nil | refine LeL.cons ?_ ?_ | exact Le.refl _ | exact Le.nilm _ _ | exact Le.nil _ | refine Le.agg ?_)) rfl rfl ?_)
        | (refine j_kLoad rfl ?_; first | refine j_mload 0 rfl rfl rfl rfl rfl rfl rfl ?_ | refine j_mload 1 rfl rfl rfl rfl rfl rfl rfl ?_ | refine j_mload 2 rfl rfl rfl rfl rfl rfl rfl ?_ | refine j_mload 3 rfl rfl rfl rfl rfl rfl rfl ?_ | refine j_mload 4 rfl rfl rfl rfl rfl rfl rfl ?_)
        | (refine j_kStore rfl ?_; first | refine j_store 0 rfl rfl rfl rfl rfl rfl rfl rfl rfl rfl rfl ?_ | refine j_storeN 0 rfl rfl rfl rfl rfl rfl rfl rfl rfl rfl rfl ?_ | refine j_store 1 rfl rfl rfl rfl rfl rfl rfl rfl rfl rfl rfl ?_ | refine j_storeN 1 rfl rfl rfl rfl rfl rfl rfl rfl rfl rfl rfl ?_ | refine j_store 2 rfl rfl rfl rfl rfl rfl rfl rfl rfl rfl rfl ?_ | refine j_storeN 2 rfl rfl rfl rfl rfl rfl rfl rfl rfl rfl rfl ?_ | refine j_store 3 rfl rfl rfl rfl rfl rfl rfl rfl rfl rfl rfl ?_ | refine j_storeN 3 rfl rfl rfl rfl rfl rfl rfl rfl rfl rfl rfl ?_ | refine j_store 4 rfl rfl rfl rfl rfl rfl rfl rfl rfl rfl rfl ?_ | refine j_storeN 4 rfl rfl rfl rfl rfl rfl rfl rfl rfl rfl rfl ?_)
        | (refine j_kBsl rfl ?_; first | refine j_bs0 rfl rfl rfl rfl rfl rfl ?_ | refine j_bsl rfl rfl rfl rfl rfl rfl rfl rfl rfl rfl rfl ?_)
        | (refine j_kSlice rfl ?_; first | refine j_ss rfl rfl rfl rfl rfl rfl (by omega) rfl rfl ?_ | refine j_slice rfl rfl rfl rfl rfl rfl (by omega) (fun _ => rfl) rfl rfl ?_)
        | (refine j_kGuard rfl ?_; first | (refine (j_if rfl rfl rfl (fun hb => ?_) (fun hb => ?_)) <;> first | (exfalso; omega) | skip) | (refine (j_ifn rfl rfl rfl (fun hb => ?_) (fun hb => ?_)) <;> first | (exfalso; omega) | skip))
        | refine j_box rfl rfl rfl rfl rfl rfl ?_
        | refine j_build rfl rfl rfl rfl rfl rfl rfl ?_
        | refine j_alloc rfl rfl rfl rfl rfl (fun _ => ?_)
        | refine j_si rfl rfl rfl rfl rfl (by omega) rfl rfl ?_
        | refine j_siz rfl rfl rfl rfl rfl (by omega) rfl rfl ?_
        | refine j_conv rfl rfl rfl rfl rfl (wrap_u64 (by omega) (by omega)) rfl rfl ?_
        | refine j_convB rfl rfl rfl rfl rfl (by omega) rfl rfl ?_
        | refine j_b2s rfl rfl rfl rfl rfl rfl rfl rfl ?_
        | refine j_in rfl rfl ⟨by omega, by omega⟩ rfl rfl ?_)
      | refine j_nil ?_
      | (refine r_go ?_; first | refine run_seq ?_ | refine run_region ?_ | refine run_cond_t rfl ?_ | refine run_cond_f rfl ?_ | (refine (run_if rfl (fun hb => ?_) (fun hb => ?_)) <;> first | (exfalso; omega) | skip) | (refine (run_ifn rfl (fun hb => ?_) (fun hb => ?_)) <;> first | (exfalso; omega) | skip) | refine run_block ?_ | refine run_ret ?_ | refine run_exit ?_ | refine run_skip ?_ | refine run_regionD (by kernel_rfl) ?_ | refine run_condn rfl (fun hb => ?_) (fun hb => ?_) | refine run_cond rfl (fun hb => ?_) (fun hb => ?_))
      | refine seqQ_normal ?_ | refine seqQ_ret ?_ | refine seqQ_exit ?_ | refine blockQ_normal ?_ | refine blockQ_ret ?_ | refine blockQ_eq ?_ | refine blockQ_ne rfl ?_ | refine loopQ_ret ?_ | refine loopQ_exit ?_)
        exact loopQ_nextD (k + 1) ⟨by omega, trivial⟩ (by omega) (by first | exact List.Sublist.refl _ | exact sub1 | exact sub2 | exact sub3) ⟨rfl, (by first | rfl | (rw [sumF_succ (fun g : Group => g.count * occ x g.contents) hk]; refine si ?_; omega) | exact si (by omega)), rfl, rfl, nx _, trivial⟩
      · repeat' (first
      | (refine j_go ?_; first
        | refine j_op0 rfl rfl rfl rfl ?_
        | refine j_off rfl rfl rfl ?_
        | (refine j_kIdx rfl ?_; first | refine j_idx rfl rfl rfl rfl rfl (by omega) rfl rfl rfl ?_ | refine j_midx rfl rfl rfl rfl rfl (by first | omega | (simp only [List.length_append, List.length_cons, List.length_nil]; omega)) rfl rfl ?_ | refine j_idxz rfl rfl rfl rfl rfl ⟨by omega, by omega⟩ rfl rfl rfl ?_ | refine j_midxz rfl rfl rfl rfl rfl (by first | omega | (simp only [List.length_append, List.length_cons, List.length_nil]; omega)) rfl rfl ?_ | refine j_aidx rfl rfl rfl rfl rfl (by omega) rfl rfl ?_ | refine j_aidxz rfl rfl rfl rfl rfl (by omega) rfl rfl ?_)
        | (refine j_kBin rfl ?_; first | refine j_in rfl rfl ⟨by omega, by omega⟩ rfl rfl ?_ | refine j_quo rfl rfl rfl rfl (by omega) rfl rfl ?_ | refine j_rem rfl rfl rfl rfl (by omega) rfl rfl ?_ | refine j_and1 rfl rfl rfl rfl rfl rfl ?_ | refine j_shl rfl rfl rfl rfl rfl (by omega) (by omega) rfl rfl ?_ | refine j_shr rfl rfl rfl rfl rfl (by omega) rfl rfl ?_ | refine j_cat rfl rfl rfl rfl (by first | omega | (simp only [List.length_append, List.length_cons, List.length_nil]; omega)) rfl rfl ?_ | refine j_isnil rfl rfl rfl rfl (by first | exact .inl ⟨rfl, rfl⟩ | exact .inr ⟨rfl, rfl⟩) (by first | exact .inl ⟨rfl, rfl⟩ | exact .inr ⟨rfl, rfl⟩) rfl rfl ?_)
        | (refine j_kLen rfl ?_; first | refine j_len rfl rfl rfl rfl rfl rfl ?_ | refine j_op rfl rfl rfl rfl ?_)
        | (refine j_kLoad rfl ?_; first | refine j_mload 0 rfl rfl rfl rfl rfl rfl rfl ?_ | refine j_mload 1 rfl rfl rfl rfl rfl rfl rfl ?_ | refine j_mload 2 rfl rfl rfl rfl rfl rfl rfl ?_ | refine j_mload 3 rfl rfl rfl rfl rfl rfl rfl ?_ | refine j_mload 4 rfl rfl rfl rfl rfl rfl rfl ?_)
        | (refine j_kStore rfl ?_; first | refine j_store 0 rfl rfl rfl rfl rfl rfl rfl rfl rfl rfl rfl ?_ | refine j_storeN 0 rfl rfl rfl rfl rfl rfl rfl rfl rfl rfl rfl ?_ | refine j_store 1 rfl rfl rfl rfl rfl rfl rfl rfl rfl rfl rfl ?_ | refine j_storeN 1 rfl rfl rfl rfl rfl rfl rfl rfl rfl rfl rfl ?_ | refine j_store 2 rfl rfl rfl rfl rfl rfl rfl rfl rfl rfl rfl ?_ | refine j_storeN 2 rfl rfl rfl rfl rfl rfl rfl rfl rfl rfl rfl ?_ | refine j_store 3 rfl rfl rfl rfl rfl rfl rfl rfl rfl rfl rfl ?_ | refine j_storeN 3 rfl rfl rfl rfl rfl rfl rfl rfl rfl rfl rfl ?_ | refine j_store 4 rfl rfl rfl rfl rfl rfl rfl rfl rfl rfl rfl ?_ | refine j_storeN 4 rfl rfl rfl rfl rfl rfl rfl rfl rfl rfl rfl ?_)
        | (refine j_kBsl rfl ?_; first | refine j_bs0 rfl rfl rfl rfl rfl rfl ?_ | refine j_bsl rfl rfl rfl rfl rfl rfl rfl rfl rfl rfl rfl ?_)
        | (refine j_kSlice rfl ?_; first | refine j_ss rfl rfl rfl rfl rfl rfl (by omega) rfl rfl ?_ | refine j_slice rfl rfl rfl rfl rfl rfl (by omega) (fun _ => rfl) rfl rfl ?_)
        | (refine j_kGuard rfl ?_; first | (refine (j_if rfl rfl rfl (fun hb => ?_) (fun hb => ?_)) <;> first | (exfalso; omega) | skip) | (refine (j_ifn rfl rfl rfl (fun hb => ?_) (fun hb => ?_)) <;> first | (exfalso; omega) | skip))
        | refine j_box rfl rfl rfl rfl rfl rfl ?_
        | refine j_build rfl rfl rfl rfl rfl rfl rfl ?_
        | refine j_alloc rfl rfl rfl rfl rfl (fun _ => ?_)
        | refine j_si rfl rfl rfl rfl rfl (by omega) rfl rfl ?_
        | refine j_siz rfl rfl rfl rfl rfl (by omega) rfl rfl ?_
        | refine j_conv rfl rfl rfl rfl rfl (wrap_u64 (by omega) (by omega)) rfl rfl ?_
        | refine j_convB rfl rfl rfl rfl rfl (by omega) rfl rfl ?_
        | refine j_b2s rfl rfl rfl rfl rfl rfl rfl rfl ?_
        | refine j_in rfl rfl ⟨by omega, by omega⟩ rfl rfl ?_)
      | refine j_nil ?_
      | (refine r_go ?_; first | refine run_seq ?_ | refine run_region ?_ | refine run_cond_t rfl ?_ | refine run_cond_f rfl ?_ | (refine (run_if rfl (fun hb => ?_) (fun hb => ?_)) <;> first | (exfalso; omega) | skip) | (refine (run_ifn rfl (fun hb => ?_) (fun hb => ?_)) <;> first | (exfalso; omega) | skip) | refine run_block ?_ | refine run_ret ?_ | refine run_exit ?_ | refine run_skip ?_ | refine run_regionD (by kernel_rfl) ?_ | refine run_condn rfl (fun hb => ?_) (fun hb => ?_) | refine run_cond rfl (fun hb => ?_) (fun hb => ?_))
      | refine seqQ_normal ?_ | refine seqQ_ret ?_ | refine seqQ_exit ?_ | refine blockQ_normal ?_ | refine blockQ_ret ?_ | refine blockQ_eq ?_ | refine blockQ_ne rfl ?_ | refine loopQ_ret ?_ | refine loopQ_exit ?_)
        exact end2 rfl rfl (List.Sublist.refl _) (by rw [num_t ⟨⟨hv, hc⟩, hh⟩, cdO_o hv hc hh, List.take_of_length_le (by omega)]; rfl) (.inl rfl)
  all_goals first
    | exact end2 rfl rfl (List.Sublist.refl _) (by rw [num_f (fun q => hb (cd2_z.2 q.1)), cdO_n (fun q => hb (cd2_z.2 q))]; rfl) (.inl rfl)
    | trace_state

end Go.Proofs.Ytfnnnmdgicjfgaa
