/-
  More rules of the walk: is a list nil? No condition.
-/
import Derived.Test.YtblidfklblmheaaZE2
namespace Go.AI
open Go.RowKit

section
variable {C : Cx} {n : Nat} {Q : Exit → Env → Heap → Prop} {e : Env} {h h' : Heap} {d : Bool} {l os : List Oper} {o : Oper} {f : Fl} {fs : List Fl} {B : List (Nat × Blk)}
theorem slnil_quiet {t t2 sz E z : Nat} {x : Operand} {xs : List (List A)} (ho : o.op = .binOp .eql t x (.const (.slice none 0 0)) t2) (hT : C.ty t = some ⟨sz, .slice E z⟩) (hx : evO e x = some (.sl xs)) (hn : xs ≠ []) : Quiet C.P o e h (.raw (.bool false)) := by
  apply Quiet.of_same
  intro a w hst
  have hops := hst.ops
  rw [ho] at hops
  have h1 := C.ok _ _ hT
  simp only [TIok, Bool.and_eq_true] at h1
  have hu := (und_slice h1.2).1
  have rx := hops x (by simp [Op.operands]) _ hx
  have e1 : Op.maxDepth = 9999 + 1 := rfl
  obtain ⟨b, off, cap, hv⟩ : ∃ b off cap, a.eval x = .slice (some ⟨b, off, none⟩) xs.length cap := by
    generalize a.eval x = v at rx
    cases rx with
    | nil => exact absurd rfl hn
    | sl _ b off cap => exact ⟨b, off, cap, rfl⟩
  have heq : (Op.equal t (a.eval x) (.slice none 0 0)).run C.P w = .ok false w := by
    unfold Op.equal
    rw [e1, hv]
    unfold Op.equalIn
    simp [underlying, hu]
  have hg : (eqGuard .eql t x (.const (.slice none 0 0)) (a.eval x) (.slice none 0 0)).run C.P w = .ok () w := by
    rw [hv]; simp [eqGuard]
  have hy : a.eval (.const (.slice none 0 0)) = .slice none 0 0 := rfl
  refine ⟨.bool false, ?_, .raw _⟩
  rw [hv] at heq hg
  simp [execOp, ho, hy, hv, hg, binOp, heq]
theorem j_slnil {t t2 sz E z dd : Nat} {x : Operand} {xs : List (List A)} (hw : wantE l e o = some true) (ho : o.op = .binOp .eql t x (.const (.slice none 0 0)) t2) (hT : C.ty t = some ⟨sz, .slice E z⟩) (hx : evO e x = some (.sl xs)) (hne : xs ≠ []) (hd : o.dst = some dd) (hn : Nat.blt dd n = true)
    (hj : J d C n l os Q ((dd, .raw (.bool false)) :: e) h) : J d C n l (o :: os) Q e h := j_quiet hw (fun _ => slnil_quiet ho hT hx hne) hd hn hj
end
end Go.AI
