/-
  The law FnExactIsFree answers true whatever it reads. No condition.
-/
import Derived.Test.YtgjlemedckhlfaaZS5l
import Derived.Test.YtgjlemedckhlfaaZG2
import Derived.KernelRfl
namespace Go.Proofs.Ytgjlemedckhlfaa
open Go.AI
set_option maxRecDepth 8000
set_option maxHeartbeats 1600000

theorem c_FnExactIsFree (a0 : System) (a1 : State) : Gives Try.prog 9 [.agg (encSystem a0), .agg (encState a1)] (.raw (.bool true)) := by
  refine fn_of_run tyOk ztOk mix Try.func9 rfl (by decide) Try.ntmps9 (fun w0 h => ?_)
  repeat' (first
      | (refine j_go ?_; first
        | refine j_op0 rfl rfl rfl rfl ?_ | (refine j_kCall rfl rfl rfl rfl ?_; first | refine jc (c_szSystem _ _ (by omega) (by omega)) (LeL.refl _) rfl rfl ?_) | refine j_box rfl rfl rfl rfl rfl rfl ?_)
      | refine j_nil ?_
      | (refine r_go ?_; first | refine run_seq ?_ | refine run_region ?_ | (refine (run_if rfl (fun hb => ?_) (fun hb => ?_)) <;> first | (exfalso; omega) | skip) | refine run_ret ?_ | refine run_skip ?_)
      | refine seqQ_normal ?_ | refine seqQ_ret ?_)
  · exact end1 rfl (List.Sublist.refl _) (rfl) (.inl rfl)
  · have ok0 := szSystem_ok (by omega) (by omega) hb
    have le0 := szSystem_le (left := 1048576) (x := a0) (by omega) (by omega)
    repeat' (first
      | (refine j_go ?_; first
        | refine j_op0 rfl rfl rfl rfl ?_ | (refine j_kCall rfl rfl rfl rfl ?_; first | refine jc (c_szState _ _ (by omega) (by omega)) (LeL.refl _) rfl rfl ?_))
      | refine j_nil ?_
      | (refine r_go ?_; first | refine run_seq ?_ | refine run_region ?_ | (refine (run_if rfl (fun hb => ?_) (fun hb => ?_)) <;> first | (exfalso; omega) | skip) | refine run_ret ?_ | refine run_skip ?_ | refine run_regionD (by kernel_rfl) ?_)
      | refine seqQ_normal ?_ | refine seqQ_ret ?_)
    · exact end1 rfl (List.Sublist.refl _) (rfl) (.inl rfl)
    · have ok1 := szState_ok (by omega) (by omega) hb
      have le1 := szState_le (left := (szSystem 1048576 a0)) (x := a1) (by omega) (by omega)
      repeat' (first
      | (refine j_go ?_; first
        | refine j_op0 rfl rfl rfl rfl ?_ | refine j_off rfl rfl rfl ?_ | (refine j_kCall rfl rfl rfl rfl ?_; first | refine jc (c_toSystem _ (by assumption)) (LeL.refl _) rfl rfl ?_ | refine jc (c_toState _ (by assumption)) (LeL.refl _) rfl rfl ?_ | refine jc (c_sIsFree _ _) (LeL.refl _) rfl rfl ?_ | refine jc (c_iIsFree _ _) (LeL.refl _) rfl rfl ?_ | refine jc (c_eqSystem _ _) (LeL.refl _) rfl rfl ?_ | refine jc (c_eqState _ _) (LeL.refl _) rfl rfl ?_) | (refine j_kLoad rfl ?_; first | refine j_mload 0 rfl rfl rfl rfl rfl rfl rfl ?_ | refine j_mload 1 rfl rfl rfl rfl rfl rfl rfl ?_) | (refine j_kStore rfl ?_; first | refine j_storeN 0 rfl rfl rfl rfl rfl rfl rfl rfl rfl rfl rfl ?_) | (refine j_kGuard rfl ?_; first | (refine (j_ifn rfl rfl rfl (fun hb => ?_) (fun hb => ?_)) <;> first | (exfalso; omega) | skip)) | refine j_alloc rfl rfl rfl rfl rfl (fun _ => ?_))
      | refine j_nil ?_
      | (refine r_go ?_; first | refine run_seq ?_ | refine run_region ?_ | refine run_cond_t rfl ?_ | (refine (run_ifn rfl (fun hb => ?_) (fun hb => ?_)) <;> first | (exfalso; omega) | skip) | refine run_ret ?_ | refine run_skip ?_ | refine run_regionD (by kernel_rfl) ?_)
      | refine seqQ_normal ?_ | refine seqQ_ret ?_)
      all_goals first | exact absurd rfl hb | exact end1 rfl (by repeat' first | exact List.Sublist.refl _ | refine List.Sublist.cons _ ?_) rfl (.inl rfl)

end Go.Proofs.Ytgjlemedckhlfaa

/-
  The structs of theme 2, read as data. No condition.
-/
namespace Go.Proofs.Ytgjlemedckhlfaa
open Go.AI Go.RowKit

theorem own : ownKnob Try.prog.godebug = none := by kernel_rfl
theorem laidOut : laidOutB Try.prog = true := by kernel_rfl
theorem rdInto {H : Type} {enc : TypeId × Value → H} {W : World} : Rd enc Try.prog W 335 encInto :=
  rd_struct Try.underlying335 (m := 2) (by kernel_rfl) (rdFs_cons (z := 1) rfl (by kernel_rfl) (by decide) (rd_int Try.underlying2) (rdFs_cons (z := 1) rfl (by kernel_rfl) (by decide) (rd_slice (f := encI) (z := 1) Try.underlying22 (by kernel_rfl) (by decide) (fun _ => rfl) (rd_int Try.underlying2)) rdFs_nil))
    (fun p => (⟨p.1, p.2.1⟩ : Into)) (fun _ => rfl)
theorem rdRule {H : Type} {enc : TypeId × Value → H} {W : World} : Rd enc Try.prog W 210 encRule :=
  rd_struct Try.underlying210 (m := 9) (by kernel_rfl) (rdFs_cons (z := 1) rfl (by kernel_rfl) (by decide) (rd_int Try.underlying2) (rdFs_cons (z := 1) rfl (by kernel_rfl) (by decide) (rd_int Try.underlying2) (rdFs_cons (z := 1) rfl (by kernel_rfl) (by decide) (rd_slice (f := encI) (z := 1) Try.underlying22 (by kernel_rfl) (by decide) (fun _ => rfl) (rd_int Try.underlying2)) (rdFs_cons (z := 1) rfl (by kernel_rfl) (by decide) (rd_slice (f := encI) (z := 1) Try.underlying22 (by kernel_rfl) (by decide) (fun _ => rfl) (rd_int Try.underlying2)) (rdFs_cons (z := 1) rfl (by kernel_rfl) (by decide) (rd_slice (f := encI) (z := 1) Try.underlying22 (by kernel_rfl) (by decide) (fun _ => rfl) (rd_int Try.underlying2)) (rdFs_cons (z := 1) rfl (by kernel_rfl) (by decide) (rd_slice (f := encI) (z := 1) Try.underlying22 (by kernel_rfl) (by decide) (fun _ => rfl) (rd_int Try.underlying2)) (rdFs_cons (z := 1) rfl (by kernel_rfl) (by decide) (rd_slice (f := encI) (z := 1) Try.underlying22 (by kernel_rfl) (by decide) (fun _ => rfl) (rd_int Try.underlying2)) (rdFs_cons (z := 1) rfl (by kernel_rfl) (by decide) (rd_slice (f := encInto) (z := 2) Try.underlying208 (by kernel_rfl) (by decide) (fun _ => rfl) rdInto) (rdFs_cons (z := 1) rfl (by kernel_rfl) (by decide) (rd_bool Try.underlying4) rdFs_nil)))))))))
    (fun p => (⟨p.1, p.2.1, p.2.2.1, p.2.2.2.1, p.2.2.2.2.1, p.2.2.2.2.2.1, p.2.2.2.2.2.2.1, p.2.2.2.2.2.2.2.1, p.2.2.2.2.2.2.2.2.1⟩ : Rule)) (fun _ => rfl)
theorem rdSystem {H : Type} {enc : TypeId × Value → H} {W : World} : Rd enc Try.prog W 25 encSystem :=
  rd_struct Try.underlying25 (m := 3) (by kernel_rfl) (rdFs_cons (z := 1) rfl (by kernel_rfl) (by decide) (rd_int Try.underlying2) (rdFs_cons (z := 1) rfl (by kernel_rfl) (by decide) (rd_slice (f := encI) (z := 1) Try.underlying22 (by kernel_rfl) (by decide) (fun _ => rfl) (rd_int Try.underlying2)) (rdFs_cons (z := 1) rfl (by kernel_rfl) (by decide) (rd_slice (f := encRule) (z := 9) Try.underlying23 (by kernel_rfl) (by decide) (fun _ => rfl) rdRule) rdFs_nil)))
    (fun p => (⟨p.1, p.2.1, p.2.2.1⟩ : System)) (fun _ => rfl)
theorem rdState {H : Type} {enc : TypeId × Value → H} {W : World} : Rd enc Try.prog W 29 encState :=
  rd_struct Try.underlying29 (m := 3) (by kernel_rfl) (rdFs_cons (z := 1) rfl (by kernel_rfl) (by decide) (rd_slice (f := encB) (z := 1) Try.underlying26 (by kernel_rfl) (by decide) (fun _ => rfl) (rd_bool Try.underlying4)) (rdFs_cons (z := 1) rfl (by kernel_rfl) (by decide) (rd_slice (f := (encS encI)) (z := 1) Try.underlying27 (by kernel_rfl) (by decide) (fun _ => rfl) (rd_slice (f := encI) (z := 1) Try.underlying22 (by kernel_rfl) (by decide) (fun _ => rfl) (rd_int Try.underlying2))) (rdFs_cons (z := 1) rfl (by kernel_rfl) (by decide) (rd_slice (f := encI) (z := 1) Try.underlying22 (by kernel_rfl) (by decide) (fun _ => rfl) (rd_int Try.underlying2)) rdFs_nil)))
    (fun p => (⟨p.1, p.2.1, p.2.2.1⟩ : State)) (fun _ => rfl)
end Go.Proofs.Ytgjlemedckhlfaa
