/-
  More rules of the walk: unsigned numbers as they stand. No condition.
-/
import Derived.Test.YtblidfklblmheaaZE3
namespace Go.AI
open Go.RowKit

section
variable {C : Cx} {n : Nat} {Q : Exit → Env → Heap → Prop} {e : Env} {h h' : Heap} {d : Bool} {l os : List Oper} {o : Oper} {f : Fl} {fs : List Fl} {B : List Blk}
theorem rge_quiet {t t2 : Nat} {x y : Operand} {m k : Int} (ho : o.op = .binOp .geq t x y t2) (hx : evO e x = some (.raw (.int .u64 m))) (hy : evO e y = some (.raw (.int .u64 k))) : Quiet C.P o e h (.raw (.bool (dec (k ≤ m)))) := by
  apply Quiet.of_same
  intro a w hs
  have hops := hs.ops
  rw [ho] at hops
  have e1 := (hops x (by simp [Op.operands]) _ hx).raw_inv
  have e2 := (hops y (by simp [Op.operands]) _ hy).raw_inv
  exact ⟨.bool (dec (k ≤ m)), by simp [execOp, ho, e1, e2, eqGuard, binOp, Op.intCmp, dec_eq], .raw _⟩
theorem convR_quiet {s d' sz sz2 : Nat} {kk : IntKind} {x : Operand} {m : Int} (ho : o.op = .convert s d' x) (hs : C.ty s = some ⟨sz, .ik kk⟩) (hd : C.ty d' = some ⟨sz2, .ik .u8⟩) (hx : evO e x = some (.raw (.int .u64 m))) (hm : 0 ≤ m ∧ m < 256) : Quiet C.P o e h (.u8 (UInt8.ofNat m.toNat)) := by
  apply Quiet.of_same
  intro a w hst
  have hops := hst.ops
  rw [ho] at hops
  have h1 := C.ok _ _ hs; have h2 := C.ok _ _ hd
  simp only [TIok, Bool.and_eq_true] at h1 h2
  have e1 := (hops x (by simp [Op.operands]) _ hx).raw_inv
  have e3 : IntKind.u8.wrap m = (((UInt8.ofNat m.toNat).toNat : Nat) : Int) := by
    rw [UInt8.toNat_ofNat_of_lt' (by simp; omega)]
    simp [IntKind.wrap, IntKind.bits, IntKind.signed]; omega
  exact ⟨.int .u8 (((UInt8.ofNat m.toNat).toNat : Nat) : Int), by simp [execOp, ho, e1, convert, underlying, und_ik h1.2, und_ik h2.2, Conv.intToInt, e3], .u8 _⟩
theorem siu_quiet {T sz : Nat} {i : Operand} {s : ByteArray} {c : UInt8} (ho : o.op = .index T (.const (.string s)) i) (hT : C.ty T = some ⟨sz, .str⟩) (hi : evO e i = some (.u8 c)) (hc : c.toNat < s.size) : Quiet C.P o e h (.u8 s[c.toNat]) := by
  apply Quiet.of_same
  intro a w hs
  have hops := hs.ops
  rw [ho] at hops
  have hti := C.ok _ _ hT
  simp only [TIok, Bool.and_eq_true] at hti
  have hu := und_str hti.2
  have e2 := (hops i (by simp [Op.operands]) _ hi).u8_inv
  have hy : a.eval (.const (.string s)) = .string s := rfl
  have hg : s[c.toNat]? = some s[c.toNat] := getElem?_pos s c.toNat hc
  refine ⟨.int .u8 s[c.toNat].toNat, ?_, .u8 _⟩
  simp [execOp, ho, hy, Instr.index, asIntOf, run_underlying hu, e2, hg]
theorem j_rge {t t2 dd : Nat} {x y : Operand} {m k : Int} (hw : wantE l e o = some true) (ho : o.op = .binOp .geq t x y t2) (hx : evO e x = some (.raw (.int .u64 m))) (hy : evO e y = some (.raw (.int .u64 k))) (hd : o.dst = some dd) (hn : Nat.blt dd n = true)
    (hj : J d C n l os Q ((dd, .raw (.bool (dec (k ≤ m)))) :: e) h) : J d C n l (o :: os) Q e h := j_quiet hw (fun _ => rge_quiet ho hx hy) hd hn hj
theorem j_convR {s t sz sz2 dd : Nat} {kk : IntKind} {x : Operand} {m : Int} (hw : wantE l e o = some true) (ho : o.op = .convert s t x) (hs : C.ty s = some ⟨sz, .ik kk⟩) (ht : C.ty t = some ⟨sz2, .ik .u8⟩) (hx : evO e x = some (.raw (.int .u64 m))) (hm : 0 ≤ m ∧ m < 256) (hd : o.dst = some dd) (hn : Nat.blt dd n = true)
    (hj : J d C n l os Q ((dd, .u8 (UInt8.ofNat m.toNat)) :: e) h) : J d C n l (o :: os) Q e h := j_quiet hw (fun _ => convR_quiet ho hs ht hx hm) hd hn hj
theorem j_siu {T sz dd : Nat} {i : Operand} {s : ByteArray} {c : UInt8} (hw : wantE l e o = some true) (ho : o.op = .index T (.const (.string s)) i) (hT : C.ty T = some ⟨sz, .str⟩) (hi : evO e i = some (.u8 c)) (hc : c.toNat < s.size) (hd : o.dst = some dd) (hn : Nat.blt dd n = true)
    (hj : ∀ c' : UInt8, c'.toNat ≤ 255 → J d C n l os Q ((dd, .u8 c') :: e) h) : J d C n l (o :: os) Q e h := j_quiet hw (fun _ => siu_quiet ho hT hi hc) hd hn (hj _ (by have := UInt8.toNat_lt s[c.toNat]; omega))
end
end Go.AI
