/-
  The structs of theme 2, read as data. No condition.
-/
import Derived.Test.YtgjlemedckhlfaaZH2
import Derived.KernelRfl
namespace Go.Proofs.Ytgjlemedckhlfaa
open Go.AI Go.RowKit

theorem own : ownKnob Try.prog.godebug = none := by kernel_rfl
theorem laidOut : laidOutB Try.prog = true := by kernel_rfl
theorem rdInto {H : Type} {enc : TypeId × Value → H} {W : World} : Rd enc Try.prog W 335 encInto :=
  rd_struct Try.underlying335 (m := 2) (by kernel_rfl) (rdFs_cons (z := 1) rfl (by kernel_rfl) (by decide) (rd_int Try.underlying2) (rdFs_cons (z := 1) rfl (by kernel_rfl) (by decide) (rd_slice (f := encI) (z := 1) Try.underlying22 (by kernel_rfl) (by decide) (fun _ => rfl) (rd_int Try.underlying2)) rdFs_nil))
    (fun p => (⟨p.1, p.2.1⟩ : Into)) (fun _ => rfl)
theorem rdRule {H : Type} {enc : TypeId × Value → H} {W : World} : Rd enc Try.prog W 210 encRule :=
  rd_struct Try.underlying210 (m := 9) (by kernel_rfl) (rdFs_cons (z := 1) rfl (by kernel_rfl) (by decide) (rd_int Try.underlying2) (rdFs_cons (z := 1) rfl (by kernel_rfl) (by decide) (rd_int Try.underlying2) (rdFs_cons (z := 1) rfl (by kernel_rfl) (by decide) (rd_slice (f := encI) (z := 1) Try.underlying22 (by kernel_rfl) (by decide) (fun _ => rfl) (rd_int Try.underlying2)) (rdFs_cons (z := 1) rfl (by kernel_rfl) (by decide) (rd_slice (f := encI) (z := 1) Try.underlying22 (by kernel_rfl) (by decide) (fun _ => rfl) (rd_int Try.underlying2)) (rdFs_cons (z := 1) rfl (by kernel_rfl) (by decide) (rd_slice (f := encI) (z := 1) Try.underlying22 (by kernel_rfl) (by decide) (fun _ => rfl) (rd_int Try.underlying2)) (rdFs_cons (z := 1) rfl (by kernel_rfl) (by decide) (rd_slice (f := encI) (z := 1) Try.underlying22 (by kernel_rfl) (by decide) (fun _ => rfl) (rd_int Try.underlying2)) (rdFs_cons (z := 1) rfl (by kernel_rfl) (by decide) (rd_slice (f := encI) (z := 1) Try.underlying22 (by kernel_rfl) (by decide) (fun _ => rfl) (rd_int Try.underlying2)) (rdFs_cons (z := 1) rfl (by kernel_rfl) (by decide) (rd_slice (f := encInto) (z := 2) Try.underlying208 (by kernel_rfl) (by decide) (fun _ => rfl) rdInto) (rdFs_cons (z := 1) rfl (by kernel_rfl) (by decide) (rd_bool Try.underlying4) rdFs_nil)))))))))
    (fun p => (⟨p.1, p.2.1, p.2.2.1, p.2.2.2.1, p.2.2.2.2.1, p.2.2.2.2.2.1, p.2.2.2.2.2.2.1, p.2.2.2.2.2.2.2.1, p.2.2.2.2.2.2.2.2.1⟩ : Rule)) (fun _ => rfl)
theorem rdSystem {H : Type} {enc : TypeId × Value → H} {W : World} : Rd enc Try.prog W 25 encSystem :=
  rd_struct Try.underlying25 (m := 3) (by kernel_rfl) (rdFs_cons (z := 1) rfl (by kernel_rfl) (by decide) (rd_int Try.underlying2) (rdFs_cons (z := 1) rfl (by kernel_rfl) (by decide) (rd_slice (f := encI) (z := 1) Try.underlying22 (by kernel_rfl) (by decide) (fun _ => rfl) (rd_int Try.underlying2)) (rdFs_cons (z := 1) rfl (by kernel_rfl) (by decide) (rd_slice (f := encRule) (z := 9) Try.underlying23 (by kernel_rfl) (by decide) (fun _ => rfl) rdRule) rdFs_nil)))
    (fun p => (⟨p.1, p.2.1, p.2.2.1⟩ : System)) (fun _ => rfl)
theorem rdState {H : Type} {enc : TypeId × Value → H} {W : World} : Rd enc Try.prog W 29 encState :=
  rd_struct Try.underlying29 (m := 3) (by kernel_rfl) (rdFs_cons (z := 1) rfl (by kernel_rfl) (by decide) (rd_slice (f := encB) (z := 1) Try.underlying26 (by kernel_rfl) (by decide) (fun _ => rfl) (rd_bool Try.underlying4)) (rdFs_cons (z := 1) rfl (by kernel_rfl) (by decide) (rd_slice (f := (encS encI)) (z := 1) Try.underlying27 (by kernel_rfl) (by decide) (fun _ => rfl) (rd_slice (f := encI) (z := 1) Try.underlying22 (by kernel_rfl) (by decide) (fun _ => rfl) (rd_int Try.underlying2))) (rdFs_cons (z := 1) rfl (by kernel_rfl) (by decide) (rd_slice (f := encI) (z := 1) Try.underlying22 (by kernel_rfl) (by decide) (fun _ => rfl) (rd_int Try.underlying2)) rdFs_nil)))
    (fun p => (⟨p.1, p.2.1, p.2.2.1⟩ : State)) (fun _ => rfl)
end Go.Proofs.Ytgjlemedckhlfaa
