/-
  The structs of theme 7, read as data. No condition.
-/
import Derived.Test.YtblidfklblmheaaZH7
import Derived.KernelRfl
namespace Go.Proofs.Ytblidfklblmheaa
open Go.AI Go.RowKit

theorem own : ownKnob Try.prog.godebug = none := by kernel_rfl
theorem laidOut : laidOutB Try.prog = true := by kernel_rfl
theorem rdCnf {H : Type} {enc : TypeId × Value → H} {W : World} : Rd enc Try.prog W 24 encCnf :=
  rd_struct Try.underlying24 (m := 2) (by kernel_rfl) (rdFs_cons (z := 1) rfl (by kernel_rfl) (by decide) (rd_int Try.underlying2) (rdFs_cons (z := 1) rfl (by kernel_rfl) (by decide) (rd_slice (f := (encS encI)) (z := 1) Try.underlying22 (by kernel_rfl) (by decide) (fun _ => rfl) (rd_slice (f := encI) (z := 1) Try.underlying26 (by kernel_rfl) (by decide) (fun _ => rfl) (rd_int Try.underlying2))) rdFs_nil))
    (fun p => (⟨p.1, p.2.1⟩ : Cnf)) (fun _ => rfl)
end Go.Proofs.Ytblidfklblmheaa
