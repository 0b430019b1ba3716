/-
  More rules of the walk: unsigned numbers of 64 bits, as they stand; bytes as numbers. No condition.
-/
import Derived.Test.YtmcljepicadjfaaGreatDoorZE4
namespace Go.AI
open Go.RowKit

section
variable {C : Cx} {n : Nat} {Q : Exit → Env → Heap → Prop} {e : Env} {h h' : Heap} {d : Bool} {l os : List Oper} {o : Oper} {f : Fl} {fs : List Fl} {B : List (Nat × Blk)}
theorem u64mul_quiet {t t2 : Nat} {x y : Operand} {m k : Int} (ho : o.op = .binOp .mul t x y t2) (hx : evO e x = some (.raw (.int .u64 m))) (hy : evO e y = some (.raw (.int .u64 k))) : Quiet C.P o e h (.raw (.int .u64 (IntKind.u64.wrap (m * k)))) := by
  apply Quiet.of_same
  intro a w hs
  have hops := hs.ops
  rw [ho] at hops
  have e1 := (hops x (by simp [Op.operands]) _ hx).raw_inv
  have e2 := (hops y (by simp [Op.operands]) _ hy).raw_inv
  exact ⟨.int .u64 (IntKind.u64.wrap (m * k)), by simp [execOp, ho, e1, e2, eqGuard, binOp, Op.intArith], .raw _⟩
theorem u64add_quiet {t t2 : Nat} {x y : Operand} {m k : Int} (ho : o.op = .binOp .add t x y t2) (hx : evO e x = some (.raw (.int .u64 m))) (hy : evO e y = some (.raw (.int .u64 k))) : Quiet C.P o e h (.raw (.int .u64 (IntKind.u64.wrap (m + k)))) := by
  apply Quiet.of_same
  intro a w hs
  have hops := hs.ops
  rw [ho] at hops
  have e1 := (hops x (by simp [Op.operands]) _ hx).raw_inv
  have e2 := (hops y (by simp [Op.operands]) _ hy).raw_inv
  exact ⟨.int .u64 (IntKind.u64.wrap (m + k)), by simp [execOp, ho, e1, e2, eqGuard, binOp, Op.intArith], .raw _⟩
theorem u64shr_quiet {t t2 : Nat} {x y : Operand} {m k : Int} {kk : IntKind} (ho : o.op = .binOp .shr t x y t2) (hx : evO e x = some (.raw (.int .u64 m))) (hy : evO e y = some (.raw (.int kk k)) ∨ evO e y = some (.int k)) (hk : 0 ≤ k) : Quiet C.P o e h (.raw (.int .u64 (m.fdiv (2 ^ (min k.toNat 64))))) := by
  apply Quiet.of_same
  intro a w hs
  have hops := hs.ops
  rw [ho] at hops
  have e1 := (hops x (by simp [Op.operands]) _ hx).raw_inv
  have hk2 : ¬ k < 0 := by omega
  rcases hy with hy | hy
  · have e2 := (hops y (by simp [Op.operands]) _ hy).raw_inv
    exact ⟨_, by simp [execOp, ho, e1, e2, eqGuard, binOp, Op.shift, hk2, IntKind.bits], .raw _⟩
  · have e2 := (hops y (by simp [Op.operands]) _ hy).int_inv.1
    exact ⟨_, by simp [execOp, ho, e1, e2, eqGuard, binOp, Op.shift, hk2, IntKind.bits], .raw _⟩
theorem u64and_quiet {t t2 : Nat} {x y : Operand} {m : Int} (ho : o.op = .binOp .and t x y t2) (hx : evO e x = some (.raw (.int .u64 m))) (hy : evO e y = some (.raw (.int .u64 255))) : ∃ c : Int, (0 ≤ c ∧ c ≤ 255) ∧ ∀ h, Quiet C.P o e h (.raw (.int .u64 c)) := by
  refine ⟨(((BitVec.ofInt 64 m) &&& (BitVec.ofInt 64 255)).toNat : Int), ?_, fun h => ?_⟩
  · have : ((BitVec.ofInt 64 m) &&& (BitVec.ofInt 64 255)).toNat ≤ 255 := by
      rw [BitVec.toNat_and]
      exact Nat.and_le_right
    omega
  · apply Quiet.of_same
    intro a w hs
    have hops := hs.ops
    rw [ho] at hops
    have e1 := (hops x (by simp [Op.operands]) _ hx).raw_inv
    have e2 := (hops y (by simp [Op.operands]) _ hy).raw_inv
    have hle : ((BitVec.ofInt 64 m) &&& (BitVec.ofInt 64 255)).toNat ≤ 255 := by
      rw [BitVec.toNat_and]
      exact Nat.and_le_right
    have hw : IntKind.u64.wrap (((BitVec.ofInt 64 m) &&& (BitVec.ofInt 64 255)).toNat : Int) = (((BitVec.ofInt 64 m) &&& (BitVec.ofInt 64 255)).toNat : Int) := by
      generalize ((BitVec.ofInt 64 m) &&& (BitVec.ofInt 64 255)).toNat = q at hle
      simp [IntKind.wrap, IntKind.bits, IntKind.signed]; omega
    refine ⟨_, ?_, .raw _⟩
    have hr : (execOp a.eval o).run C.P w = .ok (.value (.int .u64 (IntKind.u64.wrap (((BitVec.ofInt 64 m) &&& (BitVec.ofInt 64 255)).toNat : Int)))) w := by
      simp only [execOp, ho, e1, e2]
      simp [eqGuard, binOp, Op.intBits]
      rfl
    rw [hw] at hr
    exact hr
theorem u2i_quiet {s t sz sz2 : Nat} {x : Operand} {m : Int} (ho : o.op = .convert s t x) (hs : C.ty s = some ⟨sz, .ik .u64⟩) (ht : C.ty t = some ⟨sz2, .ik .i64⟩) (hx : evO e x = some (.raw (.int .u64 m))) (hm : 0 ≤ m ∧ m ≤ 255) : Quiet C.P o e h (.int m) := by
  apply Quiet.of_same
  intro a w hst
  have hops := hst.ops
  rw [ho] at hops
  have h1 := C.ok _ _ hs; have h2 := C.ok _ _ ht
  simp only [TIok, Bool.and_eq_true] at h1 h2
  have e1 := (hops x (by simp [Op.operands]) _ hx).raw_inv
  have hw : IntKind.i64.wrap m = m := by simp [IntKind.wrap, IntKind.bits, IntKind.signed]; omega
  exact ⟨.int .i64 m, by simp [execOp, ho, e1, convert, underlying, und_ik h1.2, und_ik h2.2, Conv.intToInt, hw], .int _ (by unfold InR; omega)⟩
theorem j_u64mul {t t2 dd : Nat} {x y : Operand} {m k : Int} (hw : wantE l e o = some true) (ho : o.op = .binOp .mul t x y t2) (hx : evO e x = some (.raw (.int .u64 m))) (hy : evO e y = some (.raw (.int .u64 k))) (hd : o.dst = some dd) (hn : Nat.blt dd n = true)
    (hj : J d C n l os Q ((dd, .raw (.int .u64 (IntKind.u64.wrap (m * k)))) :: e) h) : J d C n l (o :: os) Q e h := j_quiet hw (fun _ => u64mul_quiet ho hx hy) hd hn hj
theorem j_u64add {t t2 dd : Nat} {x y : Operand} {m k : Int} (hw : wantE l e o = some true) (ho : o.op = .binOp .add t x y t2) (hx : evO e x = some (.raw (.int .u64 m))) (hy : evO e y = some (.raw (.int .u64 k))) (hd : o.dst = some dd) (hn : Nat.blt dd n = true)
    (hj : J d C n l os Q ((dd, .raw (.int .u64 (IntKind.u64.wrap (m + k)))) :: e) h) : J d C n l (o :: os) Q e h := j_quiet hw (fun _ => u64add_quiet ho hx hy) hd hn hj
theorem j_u64shr {t t2 dd : Nat} {x y : Operand} {m k : Int} {kk : IntKind} (hw : wantE l e o = some true) (ho : o.op = .binOp .shr t x y t2) (hx : evO e x = some (.raw (.int .u64 m))) (hy : evO e y = some (.raw (.int kk k)) ∨ evO e y = some (.int k)) (hk : 0 ≤ k) (hd : o.dst = some dd) (hn : Nat.blt dd n = true)
    (hj : J d C n l os Q ((dd, .raw (.int .u64 (m.fdiv (2 ^ (min k.toNat 64))))) :: e) h) : J d C n l (o :: os) Q e h := j_quiet hw (fun _ => u64shr_quiet ho hx hy hk) hd hn hj
theorem j_u64and {t t2 dd : Nat} {x y : Operand} {m : Int} (hw : wantE l e o = some true) (ho : o.op = .binOp .and t x y t2) (hx : evO e x = some (.raw (.int .u64 m))) (hy : evO e y = some (.raw (.int .u64 255))) (hd : o.dst = some dd) (hn : Nat.blt dd n = true)
    (hj : ∀ c : Int, 0 ≤ c ∧ c ≤ 255 → J d C n l os Q ((dd, .raw (.int .u64 c)) :: e) h) : J d C n l (o :: os) Q e h := by
  obtain ⟨c, hc, hq⟩ := u64and_quiet (C := C) ho hx hy
  exact j_quiet hw (fun _ => hq _) hd hn (hj c hc)
theorem j_u2i {s t sz sz2 dd : Nat} {x : Operand} {m : Int} (hw : wantE l e o = some true) (ho : o.op = .convert s t x) (hs : C.ty s = some ⟨sz, .ik .u64⟩) (ht : C.ty t = some ⟨sz2, .ik .i64⟩) (hx : evO e x = some (.raw (.int .u64 m))) (hm : 0 ≤ m ∧ m ≤ 255) (hd : o.dst = some dd) (hn : Nat.blt dd n = true)
    (hj : J d C n l os Q ((dd, .int m) :: e) h) : J d C n l (o :: os) Q e h := j_quiet hw (fun _ => u2i_quiet ho hs ht hx hm) hd hn hj
end
end Go.AI

/-
  Calls in statements of open order: with memory of the call's own that is read alone; that write. No condition.
-/
namespace Go.AI
open Go.RowKit
section
variable {C : Cx} {n : Nat} {Q : Exit → Env → Heap → Prop} {e : Env} {h : Heap} {l os : List Oper} {o : Oper} {f : Fl} {fs : List Fl} {B : List (Nat × Blk)}
end
end Go.AI
