/-
  More rules of the walk: elements of lists of the call's own, the tail of a list. No condition.
-/
import Derived.Test.YtgjlemedckhlfaaZM
namespace Go.AI
open Go.RowKit

section
variable {C : Cx} {n : Nat} {Q : Exit → Env → Heap → Prop} {e : Env} {h h' : Heap} {d : Bool} {l os : List Oper} {o : Oper} {f : Fl} {fs : List Fl} {B : List (Nat × Blk)}
theorem drop_flat {α : Type} {g : α → List A} {z : Nat} (hz : ∀ y, (g y).length = z) : ∀ (L : List α) (m : Nat) (hm : m < L.length), (L.map g).flatten.drop (m * z) = g L[m] ++ ((L.drop (m + 1)).map g).flatten
  | [], m, hm => absurd hm (Nat.not_lt_zero _)
  | x :: L, 0, hm => by simp
  | x :: L, m + 1, hm => by
    have ih := drop_flat hz L m (by simpa using hm)
    simp only [List.map_cons, List.flatten_cons, List.drop_succ_cons, List.getElem_cons_succ]
    have e1 : (m + 1) * z = (g x).length + m * z := by rw [hz, Nat.succ_mul]; omega
    rw [e1, List.drop_length_add_append]; exact ih

/-- '.. = s[m]', s a list of the call's own. -/
theorem j_mloadE (i m : Nat) {α : Type} {g : α → List A} {L : List α} {z : Nat} {T b p T' room dd : Nat} {x : Operand} {v : A} (hw : wantE l e o = some true) (ho : o.op = .load T x) (hx : evO e x = some (.op (some b) p)) (hi : h[i]? = some ⟨some b, T', room, (L.map g).flatten⟩)
    (hz : ∀ y, (g y).length = z) (hp : p = m * z) (hm : m < L.length) (hv : ∀ rest, loadA C.ty T (g L[m] ++ rest) = some v) (hd : o.dst = some dd) (hn : Nat.blt dd n = true) (hj : J d C n l os Q ((dd, v) :: e) h) : J d C n l (o :: os) Q e h :=
  j_mload i hw ho hx hi (by rw [hp, drop_flat hz L m hm]; exact hv _) hd hn hj
theorem j_mloadEO (i m : Nat) {α : Type} {g : α → List A} {L : List α} {z : Nat} {T b p T' room dd : Nat} {x : Operand} {v : A} (ht : f.tight = true) (hw : wantE l e o = some true) (ho : o.op = .load T x) (hx : evO e x = some (.op (some b) p)) (hi : h[i]? = some ⟨some b, T', room, (L.map g).flatten⟩)
    (hz : ∀ y, (g y).length = z) (hp : p = m * z) (hm : m < L.length) (hv : ∀ rest, loadA C.ty T (g L[m] ++ rest) = some v) (hd : o.dst = some dd) (hn : Nat.blt dd n = true) (hj : JO fs B C n l os Q ((dd, v) :: e) h) : JO (f :: fs) B C n l (o :: os) Q e h :=
  j_mloadO i ht hw ho hx hi (by rw [hp, drop_flat hz L m hm]; exact hv _) hd hn hj
theorem buildA_quiet {T sz bytes ln E z : Nat} {zk : List ZK} {parts : Array (Nat × Operand)} {cs : List A} (ho : o.op = .build T parts) (hT : C.ty T = some ⟨sz, .arr ln E z⟩) (hz : C.zt T = some (zk, bytes))
    (hf : fillA e (fun i => some (i * z, z)) parts.toList (zk.map ZK.a) = some cs) : Quiet C.P o e h (.agg cs) := by
  apply Quiet.of_same
  intro a w hs
  have hops := hs.ops
  rw [ho] at hops
  have hti := C.ok _ _ hT
  simp only [TIok, Bool.and_eq_true] at hti
  obtain ⟨hu, hze⟩ := und_arr hti.2
  have hse := run_sizeOf hze w
  obtain ⟨z0, hz1, hz2⟩ := C.zok _ _ _ hz
  have hzr := run_zero hz1 w
  have hzrel : RelL (Im w h) w (zk.map ZK.a) (zk.map ZK.val) := ⟨by simp, fun j hj hj' => by simpa using ZK.rel _ _ _⟩
  obtain ⟨vs', q1, q2⟩ := fill_run (S := Im w h) (w := w) (a := a) (e := e) (place := fun i => some (i * z, z)) (place' := fun i => some (i * z, z)) (fun _ _ h => h) parts.toList _ cs (zk.map ZK.val) (fun p hp v hv => hops p.2 (by simp [Op.operands]; exact ⟨p.1, by simpa using hp⟩) v hv) hf hzrel
  refine ⟨.agg vs'.toArray, ?_, .agg cs vs' q2.1 q2.2⟩
  have hm : (parts.map fun p => (p.1, a.eval p.2)).toList = parts.toList.map fun p => (p.1, a.eval p.2) := by simp
  simp only [execOp, ho, Instr.build, Sem.run_bind, hzr, Result.andThen_ok, run_underlying hu, hse, hz2]
  rw [hm, q1]
  rfl
theorem j_buildA {T sz bytes ln E z dd : Nat} {zk : List ZK} {parts : Array (Nat × Operand)} {cs : List A} (hw : wantE l e o = some true) (ho : o.op = .build T parts) (hT : C.ty T = some ⟨sz, .arr ln E z⟩) (hz : C.zt T = some (zk, bytes))
    (hf : fillA e (fun i => some (i * z, z)) parts.toList (zk.map ZK.a) = some cs) (hd : o.dst = some dd) (hn : Nat.blt dd n = true) (hj : J d C n l os Q ((dd, .agg cs) :: e) h) : J d C n l (o :: os) Q e h := j_quiet hw (fun _ => buildA_quiet ho hT hz hf) hd hn hj
/-- 's[m:]'. -/
theorem j_tail (m : Nat) {α : Type} {g : α → List A} {ys : List α} {T E z sz dd : Nat} {x : Operand} {lo : Option Operand} (hw : wantE l e o = some true) (ho : o.op = .slice T x lo none none) (hT : C.ty T = some ⟨sz, .slice E z⟩) (hx : evO e x = some (.sl (ys.map g))) (hlo : bndO e 0 lo = some (.int (m : Int)))
    (hb : m ≤ ys.length) (hz : ∀ y, (g y).length = z) (hd : o.dst = some dd) (hn : Nat.blt dd n = true) (hj : J d C n l os Q ((dd, .sl ((ys.drop m).map g)) :: e) h) : J d C n l (o :: os) Q e h :=
  j_slice hw ho hT hx hlo (b := ((ys.map g).length : Int)) rfl (by rw [List.length_map]; omega) hz hd hn (by
    have e1 : ((((ys.map g).length : Nat) : Int)).toNat = ys.length := by rw [List.length_map]; omega
    have e2 : ((m : Int)).toNat = m := by omega
    rw [e1, e2, List.take_length]; exact hj)
end
end Go.AI
