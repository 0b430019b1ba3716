/-
  The structs of theme 7, read as data. No condition.
-/
import Derived.Test.YtfnnnmdgicjfgaaH7
import Derived.KernelRfl
namespace Go.Proofs.Ytfnnnmdgicjfgaa
open Go.AI Go.RowKit

theorem own : ownKnob Try.prog.godebug = none := by kernel_rfl
theorem laidOut : laidOutB Try.prog = true := by kernel_rfl
theorem rdCnf {H : Type} {enc : TypeId × Value → H} {W : World} : Rd enc Try.prog W 24 encCnf :=
  rd_struct Try.underlying24 (m := 2) (by kernel_rfl) (rdFs_cons (z := 1) rfl (by kernel_rfl) (by decide) (rd_int Try.underlying2) (rdFs_cons (z := 1) rfl (by kernel_rfl) (by decide) (rd_slice (f := (encS encI)) (z := 1) Try.underlying22 (by kernel_rfl) (by decide) (fun _ => rfl) (rd_slice (f := encI) (z := 1) Try.underlying46 (by kernel_rfl) (by decide) (fun _ => rfl) (rd_int Try.underlying2))) rdFs_nil))
    (fun p => (⟨p.1, p.2.1⟩ : Cnf)) (fun _ => rfl)
theorem rdGroup {H : Type} {enc : TypeId × Value → H} {W : World} : Rd enc Try.prog W 158 encGroup :=
  rd_struct Try.underlying158 (m := 3) (by kernel_rfl) (rdFs_cons (z := 1) rfl (by kernel_rfl) (by decide) (rd_int Try.underlying2) (rdFs_cons (z := 1) rfl (by kernel_rfl) (by decide) (rd_slice (f := encI) (z := 1) Try.underlying46 (by kernel_rfl) (by decide) (fun _ => rfl) (rd_int Try.underlying2)) (rdFs_cons (z := 1) rfl (by kernel_rfl) (by decide) (rd_int Try.underlying2) rdFs_nil)))
    (fun p => (⟨p.1, p.2.1, p.2.2.1⟩ : Group)) (fun _ => rfl)
theorem rdColony {H : Type} {enc : TypeId × Value → H} {W : World} : Rd enc Try.prog W 49 encColony :=
  rd_struct Try.underlying49 (m := 2) (by kernel_rfl) (rdFs_cons (z := 1) rfl (by kernel_rfl) (by decide) (rd_slice (f := encI) (z := 1) Try.underlying46 (by kernel_rfl) (by decide) (fun _ => rfl) (rd_int Try.underlying2)) (rdFs_cons (z := 1) rfl (by kernel_rfl) (by decide) (rd_slice (f := encGroup) (z := 3) Try.underlying47 (by kernel_rfl) (by decide) (fun _ => rfl) rdGroup) rdFs_nil))
    (fun p => (⟨p.1, p.2.1⟩ : Colony)) (fun _ => rfl)
theorem rdDivRule {H : Type} {enc : TypeId × Value → H} {W : World} : Rd enc Try.prog W 146 encDivRule :=
  rd_struct Try.underlying146 (m := 7) (by kernel_rfl) (rdFs_cons (z := 1) rfl (by kernel_rfl) (by decide) (rd_int Try.underlying2) (rdFs_cons (z := 1) rfl (by kernel_rfl) (by decide) (rd_int Try.underlying2) (rdFs_cons (z := 1) rfl (by kernel_rfl) (by decide) (rd_int Try.underlying2) (rdFs_cons (z := 1) rfl (by kernel_rfl) (by decide) (rd_int Try.underlying2) (rdFs_cons (z := 1) rfl (by kernel_rfl) (by decide) (rd_slice (f := encI) (z := 1) Try.underlying46 (by kernel_rfl) (by decide) (fun _ => rfl) (rd_int Try.underlying2)) (rdFs_cons (z := 1) rfl (by kernel_rfl) (by decide) (rd_int Try.underlying2) (rdFs_cons (z := 1) rfl (by kernel_rfl) (by decide) (rd_slice (f := encI) (z := 1) Try.underlying46 (by kernel_rfl) (by decide) (fun _ => rfl) (rd_int Try.underlying2)) rdFs_nil)))))))
    (fun p => (⟨p.1, p.2.1, p.2.2.1, p.2.2.2.1, p.2.2.2.2.1, p.2.2.2.2.2.1, p.2.2.2.2.2.2.1⟩ : DivRule)) (fun _ => rfl)
theorem rdDivision {H : Type} {enc : TypeId × Value → H} {W : World} : Rd enc Try.prog W 37 encDivision :=
  rd_struct Try.underlying37 (m := 2) (by kernel_rfl) (rdFs_cons (z := 1) rfl (by kernel_rfl) (by decide) (rd_int Try.underlying2) (rdFs_cons (z := 1) rfl (by kernel_rfl) (by decide) (rd_slice (f := encDivRule) (z := 7) Try.underlying35 (by kernel_rfl) (by decide) (fun _ => rfl) rdDivRule) rdFs_nil))
    (fun p => (⟨p.1, p.2.1⟩ : Division)) (fun _ => rfl)
end Go.Proofs.Ytfnnnmdgicjfgaa
