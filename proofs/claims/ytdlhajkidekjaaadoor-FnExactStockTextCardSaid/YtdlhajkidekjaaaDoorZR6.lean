/-
  The structs of theme 6, read as data. No condition.
-/
import Derived.Test.YtdlhajkidekjaaaDoorZH6
import Derived.KernelRfl
namespace Go.Proofs.YtdlhajkidekjaaaDoor
open Go.AI Go.RowKit

theorem own : ownKnob Tryd.prog.godebug = none := by kernel_rfl
theorem laidOut : laidOutB Tryd.prog = true := by kernel_rfl
theorem rdPassRule {H : Type} {enc : TypeId × Value → H} {W : World} : Rd enc Tryd.prog W 178 encPassRule :=
  rd_struct Tryd.underlying178 (m := 3) (by kernel_rfl) (rdFs_cons (z := 1) rfl (by kernel_rfl) (by decide) (rd_int Tryd.underlying2) (rdFs_cons (z := 1) rfl (by kernel_rfl) (by decide) (rd_slice (f := encI) (z := 1) Tryd.underlying42 (by kernel_rfl) (by decide) (fun _ => rfl) (rd_int Tryd.underlying2)) (rdFs_cons (z := 1) rfl (by kernel_rfl) (by decide) (rd_slice (f := encI) (z := 1) Tryd.underlying42 (by kernel_rfl) (by decide) (fun _ => rfl) (rd_int Tryd.underlying2)) rdFs_nil)))
    (fun p => (⟨p.1, p.2.1, p.2.2.1⟩ : PassRule)) (fun _ => rfl)
theorem rdPassing {H : Type} {enc : TypeId × Value → H} {W : World} : Rd enc Tryd.prog W 46 encPassing :=
  rd_struct Tryd.underlying46 (m := 4) (by kernel_rfl) (rdFs_cons (z := 1) rfl (by kernel_rfl) (by decide) (rd_int Tryd.underlying2) (rdFs_cons (z := 1) rfl (by kernel_rfl) (by decide) (rd_slice (f := encI) (z := 1) Tryd.underlying42 (by kernel_rfl) (by decide) (fun _ => rfl) (rd_int Tryd.underlying2)) (rdFs_cons (z := 1) rfl (by kernel_rfl) (by decide) (rd_slice (f := encB) (z := 1) Tryd.underlying43 (by kernel_rfl) (by decide) (fun _ => rfl) (rd_bool Tryd.underlying4)) (rdFs_cons (z := 1) rfl (by kernel_rfl) (by decide) (rd_slice (f := encPassRule) (z := 3) Tryd.underlying44 (by kernel_rfl) (by decide) (fun _ => rfl) rdPassRule) rdFs_nil))))
    (fun p => (⟨p.1, p.2.1, p.2.2.1, p.2.2.2.1⟩ : Passing)) (fun _ => rfl)
theorem rdStock {H : Type} {enc : TypeId × Value → H} {W : World} : Rd enc Tryd.prog W 48 encStock :=
  rd_struct Tryd.underlying48 (m := 2) (by kernel_rfl) (rdFs_cons (z := 1) rfl (by kernel_rfl) (by decide) (rd_slice (f := (encS encI)) (z := 1) Tryd.underlying22 (by kernel_rfl) (by decide) (fun _ => rfl) (rd_slice (f := encI) (z := 1) Tryd.underlying42 (by kernel_rfl) (by decide) (fun _ => rfl) (rd_int Tryd.underlying2))) (rdFs_cons (z := 1) rfl (by kernel_rfl) (by decide) (rd_slice (f := encI) (z := 1) Tryd.underlying42 (by kernel_rfl) (by decide) (fun _ => rfl) (rd_int Tryd.underlying2)) rdFs_nil))
    (fun p => (⟨p.1, p.2.1⟩ : Stock)) (fun _ => rfl)
end Go.Proofs.YtdlhajkidekjaaaDoor
