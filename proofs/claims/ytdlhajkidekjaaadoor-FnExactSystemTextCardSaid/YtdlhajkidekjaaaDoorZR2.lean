/-
  The structs of theme 2, read as data. No condition.
-/
import Derived.Test.YtdlhajkidekjaaaDoorZH2
import Derived.KernelRfl
namespace Go.Proofs.YtdlhajkidekjaaaDoor
open Go.AI Go.RowKit

theorem own : ownKnob Tryd.prog.godebug = none := by kernel_rfl
theorem laidOut : laidOutB Tryd.prog = true := by kernel_rfl
theorem rdInto {H : Type} {enc : TypeId × Value → H} {W : World} : Rd enc Tryd.prog W 192 encInto :=
  rd_struct Tryd.underlying192 (m := 2) (by kernel_rfl) (rdFs_cons (z := 1) rfl (by kernel_rfl) (by decide) (rd_int Tryd.underlying2) (rdFs_cons (z := 1) rfl (by kernel_rfl) (by decide) (rd_slice (f := encI) (z := 1) Tryd.underlying42 (by kernel_rfl) (by decide) (fun _ => rfl) (rd_int Tryd.underlying2)) rdFs_nil))
    (fun p => (⟨p.1, p.2.1⟩ : Into)) (fun _ => rfl)
theorem rdRule {H : Type} {enc : TypeId × Value → H} {W : World} : Rd enc Tryd.prog W 66 encRule :=
  rd_struct Tryd.underlying66 (m := 9) (by kernel_rfl) (rdFs_cons (z := 1) rfl (by kernel_rfl) (by decide) (rd_int Tryd.underlying2) (rdFs_cons (z := 1) rfl (by kernel_rfl) (by decide) (rd_int Tryd.underlying2) (rdFs_cons (z := 1) rfl (by kernel_rfl) (by decide) (rd_slice (f := encI) (z := 1) Tryd.underlying42 (by kernel_rfl) (by decide) (fun _ => rfl) (rd_int Tryd.underlying2)) (rdFs_cons (z := 1) rfl (by kernel_rfl) (by decide) (rd_slice (f := encI) (z := 1) Tryd.underlying42 (by kernel_rfl) (by decide) (fun _ => rfl) (rd_int Tryd.underlying2)) (rdFs_cons (z := 1) rfl (by kernel_rfl) (by decide) (rd_slice (f := encI) (z := 1) Tryd.underlying42 (by kernel_rfl) (by decide) (fun _ => rfl) (rd_int Tryd.underlying2)) (rdFs_cons (z := 1) rfl (by kernel_rfl) (by decide) (rd_slice (f := encI) (z := 1) Tryd.underlying42 (by kernel_rfl) (by decide) (fun _ => rfl) (rd_int Tryd.underlying2)) (rdFs_cons (z := 1) rfl (by kernel_rfl) (by decide) (rd_slice (f := encI) (z := 1) Tryd.underlying42 (by kernel_rfl) (by decide) (fun _ => rfl) (rd_int Tryd.underlying2)) (rdFs_cons (z := 1) rfl (by kernel_rfl) (by decide) (rd_slice (f := encInto) (z := 2) Tryd.underlying64 (by kernel_rfl) (by decide) (fun _ => rfl) rdInto) (rdFs_cons (z := 1) rfl (by kernel_rfl) (by decide) (rd_bool Tryd.underlying4) rdFs_nil)))))))))
    (fun p => (⟨p.1, p.2.1, p.2.2.1, p.2.2.2.1, p.2.2.2.2.1, p.2.2.2.2.2.1, p.2.2.2.2.2.2.1, p.2.2.2.2.2.2.2.1, p.2.2.2.2.2.2.2.2.1⟩ : Rule)) (fun _ => rfl)
theorem rdSystem {H : Type} {enc : TypeId × Value → H} {W : World} : Rd enc Tryd.prog W 63 encSystem :=
  rd_struct Tryd.underlying63 (m := 3) (by kernel_rfl) (rdFs_cons (z := 1) rfl (by kernel_rfl) (by decide) (rd_int Tryd.underlying2) (rdFs_cons (z := 1) rfl (by kernel_rfl) (by decide) (rd_slice (f := encI) (z := 1) Tryd.underlying42 (by kernel_rfl) (by decide) (fun _ => rfl) (rd_int Tryd.underlying2)) (rdFs_cons (z := 1) rfl (by kernel_rfl) (by decide) (rd_slice (f := encRule) (z := 9) Tryd.underlying61 (by kernel_rfl) (by decide) (fun _ => rfl) rdRule) rdFs_nil)))
    (fun p => (⟨p.1, p.2.1, p.2.2.1⟩ : System)) (fun _ => rfl)
end Go.Proofs.YtdlhajkidekjaaaDoor
