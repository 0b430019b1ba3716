/-
  The structs of theme 7, read as data. No condition.
-/
import Derived.Test.YtdlhajkidekjaaaDoorZH7
import Derived.KernelRfl
namespace Go.Proofs.YtdlhajkidekjaaaDoor
open Go.AI Go.RowKit

theorem own : ownKnob Tryd.prog.godebug = none := by kernel_rfl
theorem laidOut : laidOutB Tryd.prog = true := by kernel_rfl
theorem rdCnf {H : Type} {enc : TypeId × Value → H} {W : World} : Rd enc Tryd.prog W 24 encCnf :=
  rd_struct Tryd.underlying24 (m := 2) (by kernel_rfl) (rdFs_cons (z := 1) rfl (by kernel_rfl) (by decide) (rd_int Tryd.underlying2) (rdFs_cons (z := 1) rfl (by kernel_rfl) (by decide) (rd_slice (f := (encS encI)) (z := 1) Tryd.underlying22 (by kernel_rfl) (by decide) (fun _ => rfl) (rd_slice (f := encI) (z := 1) Tryd.underlying42 (by kernel_rfl) (by decide) (fun _ => rfl) (rd_int Tryd.underlying2))) rdFs_nil))
    (fun p => (⟨p.1, p.2.1⟩ : Cnf)) (fun _ => rfl)
end Go.Proofs.YtdlhajkidekjaaaDoor
