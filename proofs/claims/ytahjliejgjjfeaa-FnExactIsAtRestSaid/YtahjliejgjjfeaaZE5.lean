/-
  slices.Grow of a list that is nil: its capacity, zeros behind it, and slices of lists of the call's own. No condition.
-/
import Derived.Test.YtahjliejgjjfeaaZEnd
import Derived.Test.YtahjliejgjjfeaaZOP
namespace Go.AI
open Go.RowKit

section
variable {C : Cx} {n : Nat} {Q : Exit → Env → Heap → Prop} {e : Env} {h h' : Heap} {d : Bool} {l os : List Oper} {o : Oper} {f : Fl} {fs : List Fl} {B : List (Nat × Blk)}
theorem cap0_quiet {t sz E z : Nat} {x : Operand} (ho : o.op = .call ⟨.builtin .cap, #[x], #[t]⟩) (hT : C.ty t = some ⟨sz, .slice E z⟩) (hx : evO e x = some (.os none 0 0)) : Quiet C.P o e h (.int 0) := by
  apply Quiet.of_same
  intro a w hs
  have hops := hs.ops
  rw [ho] at hops
  have hti := C.ok _ _ hT
  simp only [TIok, Bool.and_eq_true] at hti
  obtain ⟨hu, hes⟩ := und_slice hti.2
  obtain ⟨_, _, p, ex⟩ := (hops x (by simp [Op.operands, Call.operands]) _ hx).osn_inv
  refine ⟨goInt 0, ?_, Rel.int _ (by unfold InR; omega)⟩
  simp [execOp, ho, resolve, invoke, builtin, Builtin.cap_, run_underlying hu, ex]
theorem sl0_quiet {T E z sz m c : Nat} {b : Option Nat} {x q : Operand} (ho : o.op = .slice T x none (some q) none) (hT : C.ty T = some ⟨sz, .slice E z⟩) (hx : evO e x = some (.os b m c)) (hq : evO e q = some (.int 0)) : Quiet C.P o e h (.os b 0 c) := by
  apply Quiet.of_same
  intro a w hs
  have hops := hs.ops
  rw [ho] at hops
  have hti := C.ok _ _ hT
  simp only [TIok, Bool.and_eq_true] at hti
  obtain ⟨hu, hes⟩ := und_slice hti.2
  have hsz := run_sizeOf hes w
  have r := hops x (by simp [Op.operands]) _ hx
  obtain ⟨e3, _⟩ := (hops q (by simp [Op.operands]) _ hq).int_inv
  cases b with
  | none =>
    obtain ⟨rfl, rfl, p, ex⟩ := r.osn_inv
    refine ⟨.slice p 0 0, ?_, .osn _⟩
    simp [execOp, ho, Instr.slice, Instr.sliceAt, run_underlying hu, ex, Instr.sliceBounds, Instr.sliceBound, asIntOf, e3, hsz]
  | some b =>
    obtain ⟨ex, _⟩ := r.os_inv
    refine ⟨.slice (some ⟨b, 0, none⟩) 0 c, ?_, .os b 0 c (Nat.zero_le _)⟩
    simp [execOp, ho, Instr.slice, Instr.sliceAt, run_underlying hu, ex, Instr.sliceBounds, Instr.sliceBound, asIntOf, e3, hsz, addr_add]
theorem j_cap0 {t sz E z dd : Nat} {x : Operand} (hw : wantE l e o = some true) (ho : o.op = .call ⟨.builtin .cap, #[x], #[t]⟩) (hT : C.ty t = some ⟨sz, .slice E z⟩) (hx : evO e x = some (.os none 0 0)) (hd : o.dst = some dd) (hn : Nat.blt dd n = true)
    (hj : J d C n l os Q ((dd, .int 0) :: e) h) : J d C n l (o :: os) Q e h := j_quiet hw (fun _ => cap0_quiet ho hT hx) hd hn hj
theorem j_sl0 {T E z sz m c dd : Nat} {b : Option Nat} {x q : Operand} (hw : wantE l e o = some true) (ho : o.op = .slice T x none (some q) none) (hT : C.ty T = some ⟨sz, .slice E z⟩) (hx : evO e x = some (.os b m c)) (hq : evO e q = some (.int 0)) (hd : o.dst = some dd) (hn : Nat.blt dd n = true)
    (hj : J d C n l os Q ((dd, .os b 0 c) :: e) h) : J d C n l (o :: os) Q e h := j_quiet hw (fun _ => sl0_quiet ho hT hx hq) hd hn hj
/-- 'append(nil, make([]E, m)...)': memory of the call's own, of whose contents nothing is told. -/
theorem appendz_step {T U E z sz sz2 bytes m : Nat} {zk : List ZK} {x y : Operand} (ho : o.op = .call ⟨.builtin .append, #[x, y], #[T, U]⟩) (hT : C.ty T = some ⟨sz, .slice E z⟩) (hU : C.ty U = some ⟨sz2, .ik .i64⟩) (hz : C.zt E = some (zk, bytes)) (hzl : zk.length = z) (hz0 : 0 < z)
    (hx : evO e x = some (.os none 0 0)) (hy : evO e y = some (.int (m : Int))) (hm0 : 0 < m) (hsize : m * bytes ≤ 140737488355328) (hlen : m ≤ maxLn) :
    MStep C.P o e h fun v h' => ∃ b' cap', v = .os (some b') m cap' ∧ h' = ⟨some b', E, cap' * z, []⟩ :: h := by
  intro a w hs
  have hti := C.ok _ _ hT
  simp only [TIok, Bool.and_eq_true] at hti
  obtain ⟨hu, hes⟩ := und_slice hti.2
  have htu := C.ok _ _ hU
  simp only [TIok, Bool.and_eq_true] at htu
  have huu := und_ik htu.2
  have hsz := run_sizeOf hes
  obtain ⟨zv, hz1, hz2⟩ := C.zok _ _ _ hz
  obtain ⟨_, _, p, ex⟩ := (hs.ops x (by simp [ho, Op.operands, Call.operands]) _ hx).osn_inv
  obtain ⟨ey, hwr⟩ := (hs.ops y (by simp [ho, Op.operands, Call.operands]) _ hy).int_inv
  obtain ⟨ti, hti1, hti2⟩ := info_of_size hes
  have hexec : (execOp a.eval o).run C.P w = ((Builtin.append_ #[T, U] o.type #[a.eval x, a.eval y]).run C.P w).andThen fun v w => .ok (Next.value v) w := by
    simp only [execOp, ho, resolve, invoke, builtin, Sem.run_bind, Sem.run_pure, Result.andThen_ok, List.map_toArray, List.map_cons, List.map_nil]
  have hbytes : ti.bytes = bytes := by
    have := hz1
    unfold ZeroOk at this
    rw [hti1] at this
    simp at this
    exact this.2
  have hzero : ti.zero = some zv := by
    have := hz1
    unfold ZeroOk at this
    rw [hti1] at this
    simp at this
    exact this.1
  have hcapge := grownCap_ge w m 0 E
  have hzc : zv.cells.size = z := by rw [hz2]; simp [hzl]
  have hfit : ¬ (281474976710656 < Builtin.nextslicecap m 0 * ti.bytes) := by
    have := growslice_fits (need := m) (old := 0) (bytes := ti.bytes) (by omega) (by rw [hbytes]; exact hsize)
    omega
  have hmax : IntKind.i64.max = 9223372036854775807 := by decide
  have hw64 : IntKind.i64.wrap (m : Int) = (m : Int) := wrap64_in hwr
  have hn : ¬ (m ≤ 0) := by omega
  have hmz : ¬ (m * z = 0) := fun q => by rcases Nat.mul_eq_zero.1 q with q | q <;> omega
  have hml : ((m * bytes : Nat) : Int) = (m : Int) * (bytes : Int) := Int.natCast_mul m bytes
  have hby : ¬ (281474976710656 < (m : Int) * (ti.bytes : Int)) := by rw [hbytes, ← hml]; omega
  have h63 : ¬ ((9223372036854775807 : Int) < (m : Int)) := by unfold maxLn at hlen; omega
  have hneg : ¬ ((m : Int) < 0) := by omega
  have hrun : (Builtin.append_ #[T, U] o.type #[a.eval x, a.eval y]).run C.P w =
      .ok (.slice (some ⟨w.heap.size, 0, none⟩) m (grownCap w m 0 E)) (w.drew.alloc (.cells ([] ++ ((Builtin.zeroCells zv.cells m).toList ++ (Builtin.zeroCells zv.cells (grownCap w m 0 E - m)).toList)).toArray E)) := by
    rw [ex, ey]
    have hf : (Builtin.firstCells z 0 (.slice p 0 0)).run C.P w.drew = .ok #[] w.drew := by
      cases p with
      | none => simp [Builtin.firstCells]
      | some pa => have := run_firstCells_some (P := C.P) w.drew z 0 pa 0 0 [] (by simp) (by simp); simpa using this
    simp [Builtin.append_, run_underlying hu, run_underlying huu, hsz, typeInfo, zeroValue, hti1, hzero, hn, hm0, hw64, hby, hneg, h63, hfit, hmax, hmz, Question.forced, hf, newRow, grownCap, asInt, asIntOf]
    rw [if_neg (by omega)]
    congr 4
    apply Array.ext'
    simp
  suffices hsuff : ∃ u w', (Builtin.append_ #[T, U] o.type #[a.eval x, a.eval y]).run C.P w = .ok u w' ∧ ∃ v h', (∃ b' cap', v = .os (some b') m cap' ∧ h' = ⟨some b', E, cap' * z, []⟩ :: h) ∧ Chg h h' w w' ∧ Rel (Im w' h') w' v u by
    obtain ⟨u, w', h1, h2⟩ := hsuff
    unfold Yields
    rw [hexec, h1]
    exact h2
  have hx1 : Ext [] w (w.drew.alloc (.cells ([] ++ ((Builtin.zeroCells zv.cells m).toList ++ (Builtin.zeroCells zv.cells (grownCap w m 0 E - m)).toList)).toArray E)) := (Ext.drew w).trans (Ext.alloc w.drew _)
  have hroom' : grownCap w m 0 E * z = ([] ++ ((Builtin.zeroCells zv.cells m).toList ++ (Builtin.zeroCells zv.cells (grownCap w m 0 E - m)).toList)).length := by
    simp only [List.length_append, List.nil_append, Array.length_toList, size_zeroCells, hzc]
    rw [← Nat.add_mul]
    congr 1; omega
  have hcg := chg_new (h := h) (w := w) (T := E) (vs := []) (rest := (Builtin.zeroCells zv.cells m).toList ++ (Builtin.zeroCells zv.cells (grownCap w m 0 E - m)).toList) (cs := []) hs.heap hx1
    (by have := heap_new w.drew (.cells ([] ++ ((Builtin.zeroCells zv.cells m).toList ++ (Builtin.zeroCells zv.cells (grownCap w m 0 E - m)).toList)).toArray E); exact this) RelL.nil hroom'
  exact ⟨_, _, hrun, _, _, ⟨w.heap.size, _, rfl, rfl⟩, hcg, .os _ _ _ hlen⟩
theorem j_appendz {T U E z sz sz2 bytes m dd : Nat} {zk : List ZK} {x y : Operand} (hw : wantE l e o = some true) (ho : o.op = .call ⟨.builtin .append, #[x, y], #[T, U]⟩) (hT : C.ty T = some ⟨sz, .slice E z⟩) (hU : C.ty U = some ⟨sz2, .ik .i64⟩) (hz : C.zt E = some (zk, bytes)) (hzl : zk.length = z) (hz0 : Nat.blt 0 z = true)
    (hx : evO e x = some (.os none 0 0)) (hy : evO e y = some (.int (m : Int))) (hm0 : 0 < m) (hsize : m * bytes ≤ 140737488355328 ∧ m ≤ 9223372036854775807) (hd : o.dst = some dd) (hn : Nat.blt dd n = true)
    (hj : ∀ b' cap', J false C n l os Q ((dd, .os (some b') m cap') :: e) (⟨some b', E, cap' * z, []⟩ :: h)) : J false C n l (o :: os) Q e h :=
  j_mut hw (appendz_step ho hT hU hz hzl (Nat.le_of_ble_eq_true hz0) hx hy hm0 hsize.1 hsize.2) (by rw [hd]; exact hn) fun v h' ⟨b', cap', h1, h2⟩ => by rw [hd, h1, h2]; exact hj b' cap'
end
end Go.AI

/-
  Calls in statements of open order: with memory of the call's own that is read alone; that write. No condition.
-/
namespace Go.AI
open Go.RowKit
section
variable {C : Cx} {n : Nat} {Q : Exit → Env → Heap → Prop} {e : Env} {h : Heap} {l os : List Oper} {o : Oper} {f : Fl} {fs : List Fl} {B : List (Nat × Blk)}
theorem jctO (hT : Heap) {g : FuncId} {xs all : List A} {R : A → Heap → Prop} {dd : Nat} (hf : Does C.P g all [] R) (hm : f.w = true) (hB : ∀ k ∈ B, k.2 ∈ h) (hp : ∀ k ∈ hT, k ∈ h) (hz : FrzL hT xs all) (hR : ∀ v h1, R v h1 → Clo v ∧ CloH h1) (hd : o.dst = some dd) (hn : Nat.blt dd n = true)
    (hj : ∀ v h1, R v h1 → JO fs B C n l os Q ((dd, v) :: e) (h1 ++ h)) : JCO g xs f fs B C n l o os Q e h := by
  unfold JCO CallAt
  rintro ⟨x, args, ts, caps, as0, hw, ho, hx, ha, rfl⟩
  exact j_mutO hm hw (call_thaw ho hx ha hf hp hz hR) (fun v h' ⟨h1, q1, q2⟩ => by rw [q2]; exact fun k hk => List.mem_append_right _ (hB k hk)) (by rw [hd]; exact hn) fun v h' ⟨h1, q1, q2⟩ => by rw [hd, q2]; exact hj v h1 q1
theorem jcpO (F : Heap) {g : FuncId} {xs all : List A} {R : A → Heap → Prop} {h0 : Heap} {dd : Nat} (hf : Does C.P g all h0 R) (hm : f.w = true) (hp : h.Perm (h0 ++ F)) (hle : LeL xs all) (hd : o.dst = some dd) (hn : Nat.blt dd n = true)
    (hj : ∀ v h1, R v h1 → JO fs [] C n l os Q ((dd, v) :: e) (h1 ++ F)) : JCO g xs f fs [] C n l o os Q e h := by
  unfold JCO CallAt
  rintro ⟨x, args, ts, caps, as0, hw, ho, hx, ha, rfl⟩
  exact j_mutO hm hw ((call_step ho hx ha hf hle).perm hp) (fun _ _ _ k hk => nomatch hk) (by rw [hd]; exact hn) fun v h' ⟨h1, q1, q2⟩ => by rw [hd, q2]; exact hj v h1 q1
end
end Go.AI

/-
  Results in memory of the call's own, with room or without a block: what is told of them. No condition.
-/
namespace Go.AI
open Go.RowKit
/-- A list whose elements' cells and memory are told by E, in memory of the call's own, with room behind it. -/
def OwnC {α : Type} (E : α → List A → Heap → Prop) (T z : Nat) (xs : List α) (a : A) (h : Heap) : Prop :=
  ∃ (b : Option Nat) (cap : Nat) (css : List (Cells z)) (hs : List Heap), css.length = xs.length ∧ hs.length = xs.length ∧ (∀ i (hi : i < xs.length) (h1 : i < css.length) (h2 : i < hs.length), E xs[i] css[i].1 hs[i]) ∧
    a = .os b xs.length cap ∧ h = ⟨b, T, cap * z, (css.map Subtype.val).flatten⟩ :: hs.flatten
theorem OwnC.clo {α : Type} {E : α → List A → Heap → Prop} {T z : Nat} {xs : List α} {a : A} {h : Heap} (hE : ∀ x cs h, E x cs h → CloL cs ∧ CloH h) (o : OwnC E T z xs a h) : Clo a ∧ CloH h := by
  obtain ⟨b, cap, css, hs, l1, l2, hall, rfl, rfl⟩ := o
  refine ⟨Clo.os _ _ _, CloH.cons (CloL.flat fun cs hc => ?_) (CloH.flat fun x hx => ?_)⟩
  · obtain ⟨c, hc1, rfl⟩ := List.mem_map.1 hc
    obtain ⟨i, hi, rfl⟩ := List.mem_iff_getElem.1 hc1
    exact (hE _ _ _ (hall i (by omega) hi (by omega))).1
  · obtain ⟨i, hi, rfl⟩ := List.mem_iff_getElem.1 hx
    exact (hE _ _ _ (hall i (by omega) (by omega) hi)).2
theorem Clo.nil : Clo (.sl []) := fun S S' w w' v r => by
  cases r with
  | nil a c => exact .nil a c
  | sl xs b off cap sz V hS hlen hcap hsz hc hr => exact .nil _ _
/-- A flat list in memory of the call's own. -/
def OwnF {α : Type} (g : α → List A) (T z : Nat) (l : List α) (a : A) (h : Heap) : Prop := (∃ b cap, a = .os b l.length cap ∧ h = [⟨b, T, cap * z, (l.map g).flatten⟩]) ∨ (l = [] ∧ a = .sl [] ∧ h = [])
theorem OwnF.clo {α : Type} {g : α → List A} {T z : Nat} {l : List α} {a : A} {h : Heap} (hc : ∀ x, CloL (g x)) (o : OwnF g T z l a h) : Clo a ∧ CloH h := by
  rcases o with ⟨b, cap, rfl, rfl⟩ | ⟨rfl, rfl, rfl⟩
  · refine ⟨Clo.os _ _ _, CloH.cons (CloL.flat fun cs hcs => ?_) CloH.nil⟩
    obtain ⟨x, _, rfl⟩ := List.mem_map.1 hcs
    exact hc x
  · exact ⟨Clo.nil, CloH.nil⟩
/-- A list of lists of the call's own. -/
def OwnLL {β : Type} (O : β → A → Heap → Prop) (T : Nat) (L : List β) (a : A) (h : Heap) : Prop :=
  (∃ (b : Option Nat) (cap : Nat) (vs : List A) (hs : List Heap), vs.length = L.length ∧ hs.length = L.length ∧ (∀ i (h0 : i < L.length) (h1 : i < vs.length) (h2 : i < hs.length), O L[i] vs[i] hs[i]) ∧
    a = .os b L.length cap ∧ h = ⟨b, T, cap * 1, (vs.map fun a => [a]).flatten⟩ :: hs.flatten) ∨ (L = [] ∧ a = .sl [] ∧ h = [])
theorem ownLL_c {β : Type} {O : β → A → Heap → Prop} {T : Nat} {L : List β} {a : A} {h : Heap} (o : ∃ (b : Option Nat) (cap : Nat) (vs : List A) (hs : List Heap), vs.length = L.length ∧ hs.length = L.length ∧ (∀ i (h0 : i < L.length) (h1 : i < vs.length) (h2 : i < hs.length), O L[i] vs[i] hs[i]) ∧
    a = .os b L.length cap ∧ h = ⟨b, T, cap * 1, (vs.map fun a => [a]).flatten⟩ :: hs.flatten) : OwnC (fun x cs h => ∃ a, cs = [a] ∧ O x a h) T 1 L a h := by
  obtain ⟨b, cap, vs, hs, l1, l2, hall, rfl, rfl⟩ := o
  refine ⟨b, cap, vs.map fun a => ⟨[a], rfl⟩, hs, by simpa using l1, l2, fun i hi h1 h2 => ⟨vs[i]'(by omega), by simp, hall i hi (by omega) h2⟩, rfl, ?_⟩
  congr 2
  rw [List.map_map]
  rfl
theorem OwnLL.clo {β : Type} {O : β → A → Heap → Prop} {T : Nat} {L : List β} {a : A} {h : Heap} (hO : ∀ x a h, O x a h → Clo a ∧ CloH h) (o : OwnLL O T L a h) : Clo a ∧ CloH h := by
  rcases o with o | ⟨rfl, rfl, rfl⟩
  · exact (ownLL_c o).clo (fun x cs h ⟨a, e1, q⟩ => by rw [e1]; exact ⟨CloL.cons (hO x a h q).1 CloL.nil, (hO x a h q).2⟩)
  · exact ⟨Clo.nil, CloH.nil⟩
end Go.AI

/-
  Results in memory of the call's own, read as data that nobody writes any more. No condition.
-/
namespace Go.AI
open Go.RowKit
def FrzLF (h1 : Heap) (cs cs' : List A) : Prop := ∀ (F : Heap) (w : World) (vs : List Value), HeapOk (h1 ++ F) w → RelL (Im w (h1 ++ F)) w cs vs → RelL (Im w F) w cs' vs
theorem RelL.heapS {w : World} {h h0 : Heap} {cs : List A} {vs : List Value} (r : RelL (Im w h) w cs vs) (hs : h0.Sublist h) : RelL (Im w h0) w cs vs := ⟨r.1, fun j hj hj' => (r.2 j hj hj').heap hs⟩
theorem RelL.permS {w : World} {h h0 : Heap} {cs : List A} {vs : List Value} (r : RelL (Im w h) w cs vs) (hp : h.Perm h0) : RelL (Im w h0) w cs vs := r.stab fun _ hb => ⟨im_perm hp hb, rfl⟩
theorem FrzLF.nil {h : Heap} : FrzLF h [] [] := fun _ _ _ _ r => ⟨r.1, fun j hj => absurd hj (Nat.not_lt_zero _)⟩
theorem FrzF.same (h : Heap) (a : A) : FrzF h a a := fun F _ _ _ r => r.heap (List.sublist_append_right h F)
theorem FrzLF.cons {h1 h2 : Heap} {a a' : A} {cs cs' : List A} (H : FrzF h1 a a') (T : FrzLF h2 cs cs') : FrzLF (h1 ++ h2) (a :: cs) (a' :: cs') := fun F w vs ho r => by
  obtain ⟨v, us, rfl, r1, r2⟩ := r.uncons
  have p1 : (h1 ++ h2 ++ F).Perm (h1 ++ (h2 ++ F)) := by rw [List.append_assoc]
  have p2 : (h1 ++ h2 ++ F).Perm (h2 ++ (h1 ++ F)) := by classical exact List.perm_iff_count.2 fun _ => by simp only [List.count_append]; omega
  have q1 := H (h2 ++ F) w v (ho.perm p1) (by rw [← List.append_assoc]; exact r1)
  have q2 := T (h1 ++ F) w us (ho.perm p2) (r2.permS p2)
  exact RelL.cons (q1.heap (List.sublist_append_right _ _)) (q2.heapS (List.sublist_append_right _ _))
theorem FrzF.agg {h : Heap} {cs cs' : List A} (H : FrzLF h cs cs') : FrzF h (.agg cs) (.agg cs') := fun F w v ho r => by
  obtain ⟨vs, rfl, rl⟩ := r.agg_inv
  have q := H F w vs ho rl
  exact .agg _ _ q.1 q.2
end Go.AI

/-
  A pointer to an element of a list of the call's own, read as data. No condition.
-/
namespace Go.AI
open Go.RowKit
theorem Frz.ptrE {α : Type} {g : α → List A} {L : List α} {z i : Nat} {hT : Heap} {b T room : Nat} (hz : ∀ y, (g y).length = z) (hi : i < L.length) (hm0 : (⟨some b, T, room, (L.map g).flatten⟩ : Blk) ∈ hT) : Frz hT (.op (some b) (i * z)) (.ip (g L[i])) := fun F w v hm ho r => by
  have e := r.op_inv
  simp only [Option.map_some] at e
  rw [e]
  obtain ⟨vs, rest, hb, hr, hrm⟩ := ho.at (hm _ hm0)
  have hlt := ho.lt (mem_keys (hm _ hm0) rfl)
  have hvl : vs.length = L.length * z := by rw [hr.1, flat_len hz]
  have bnd : ∀ j, j < z → i * z + j < vs.length := fun j hj => by
    have : (i + 1) * z ≤ L.length * z := Nat.mul_le_mul_right z hi
    rw [Nat.succ_mul] at this
    omega
  refine .ip (g L[i]) b (i * z) (fun j => vs.getD (i * z + j) undef) ⟨hlt, by simp [keys]⟩ (fun j hj => ?_) (fun j hj => ?_)
  · have hv := bnd j (by rw [← hz L[i]]; exact hj)
    rw [cell_of_vs hb _ hv]; simp [hv]
  · obtain ⟨u, hu1, hu2⟩ := hr.get (flat_get (f := g) L i j hi hj hz)
    have e3 : vs.getD (i * z + j) undef = u := by simp [hu1]
    rw [e3]
    exact hu2.heap (List.nil_sublist _)
end Go.AI

/-
  A statement of open order whose writing operations come in any order: the walk over all that is done. No condition.
-/
namespace Go.AI
open Go.RowKit

section
variable {C : Cx} {n : Nat} {l : List Oper} {Q : Exit → Env → Heap → Prop} {e e' : Env} {h h' : Heap} {o : Oper}
/-- 'box': a new variable with a content, of the call's own. -/
theorem boxM_step {T : Nat} {x : Operand} {v : A} {cs : List A} (ho : o.op = .box T x) (hx : evO e x = some v) (hc : cellsA v = some cs) : MStep C.P o e h fun u h' => ∃ b, u = .op (some b) 0 ∧ h' = ⟨some b, T, cs.length, cs⟩ :: h := by
  intro a w hs
  have hops := hs.ops
  rw [ho] at hops
  have r := hops x (by simp [Op.operands]) _ hx
  obtain ⟨vs, e1, rl⟩ := cellsA_rel hc r
  have hrun : (execOp a.eval o).run C.P w = .ok (.value (.pointer (some ⟨w.heap.size, 0, none⟩))) (w.alloc (.cells vs.toArray T)) := by
    simp [execOp, ho, Instr.box, newVar, newRow, e1]
  unfold Yields
  rw [hrun]
  exact ⟨_, _, ⟨w.heap.size, rfl, rfl⟩, chg_new hs.heap (vs := vs) (rest := []) (Ext.alloc w _) (by rw [heap_new]; simp) rl (by rw [List.append_nil]; exact rl.1.symm), .op (some w.heap.size) 0⟩
theorem j_boxM {os : List Oper} {T dd : Nat} {x : Operand} {v : A} {cs : List A} (hw : wantE l e o = some true) (ho : o.op = .box T x) (hx : evO e x = some v) (hc : cellsA v = some cs) (hd : o.dst = some dd) (hn : Nat.blt dd n = true)
    (hj : ∀ b, J false C n l os Q ((dd, .op (some b) 0) :: e) (⟨some b, T, cs.length, cs⟩ :: h)) : J false C n l (o :: os) Q e h :=
  j_mut hw (boxM_step ho hx hc) (by rw [hd]; exact hn) fun v h' ⟨b, h1, h2⟩ => by rw [hd, h1, h2]; exact hj b
end
end Go.AI

/-
  A cell of a variable of the call's own: the memory that it tells of is written no more. No condition.
-/
namespace Go.AI
open Go.RowKit
section
variable {e : Env} {h : Heap}
theorem view_cellF {b : Option Nat} {T room k : Nat} {cs : List A} {a a' : A} {h1 F : Heap} (hp : h.Perm (⟨b, T, room, cs⟩ :: (h1 ++ F))) (hk : cs[k]? = some a) (hf : FrzF h1 a a') : View e h e (⟨b, T, room, cs.set k a'⟩ :: F) := fun C n act w hc => by
  have hc1 := view_perm hp C n act w hc
  have hsub : (⟨b, T, room, cs⟩ :: F : Heap).Sublist (⟨b, T, room, cs⟩ :: (h1 ++ F)) := (List.sublist_append_right h1 F).cons_cons _
  have H := hc1.heap
  have H2 := H.sub hsub
  have hs2 := view_sub (e := e) hsub C n act w hc1
  refine ⟨hs2.defers, hs2.size, fun t v hv => hs2.env t v hv, ⟨H2.nodup, ?_⟩, hs2.ext, hs2.own⟩
  intro q hq
  rcases List.mem_cons.1 hq with rfl | hq
  · have hb := H.blk _ (List.mem_cons_self)
    cases b with
    | none =>
      have := hb.1
      simp only at this
      rw [this] at hk; simp at hk
    | some b0 =>
      obtain ⟨vs, rest, e1, r, er⟩ := hb
      refine ⟨vs, rest, e1, ⟨by rw [List.length_set]; exact r.1, fun j hj hj' => ?_⟩, er⟩
      have hjc : j < cs.length := by rw [List.length_set] at hj; exact hj
      have rr := r.2 j hjc hj'
      by_cases hjk : k = j
      · subst hjk
        rw [List.getElem_set_self]
        rw [List.getElem?_eq_getElem hjc] at hk
        rw [Option.some.inj hk] at rr
        have hp2 : (⟨some b0, T, room, cs⟩ :: (h1 ++ F) : Heap).Perm (h1 ++ (⟨some b0, T, room, cs⟩ :: F)) := List.perm_middle.symm
        exact (hf (⟨some b0, T, room, cs⟩ :: F) w _ (H.perm hp2) (rr.stab fun _ hb => ⟨im_perm hp2 hb, rfl⟩)).stab fun _ hb => ⟨hb, rfl⟩
      · rw [List.getElem_set_ne hjk]
        exact rr.heap hsub
  · exact H2.blk q (List.mem_cons_of_mem _ hq)
theorem rev3 {α : Type} {a b c : α} {l : List α} : (a :: b :: c :: l).Perm (c :: b :: a :: l) := (List.Perm.swap b a _).trans ((List.Perm.cons b (List.Perm.swap c a _)).trans (List.Perm.swap c b _))
end
end Go.AI

/-
  One more rule of the walk: is a list without elements nil? Either answer. No condition.
-/
namespace Go.AI
open Go.RowKit

section
variable {C : Cx} {n : Nat} {Q : Exit → Env → Heap → Prop} {e : Env} {h : Heap} {l os : List Oper} {o : Oper}
theorem slnilE_step {t t2 sz E z : Nat} {x : Operand} (ho : o.op = .binOp .eql t x (.const (.slice none 0 0)) t2) (hT : C.ty t = some ⟨sz, .slice E z⟩) (hx : evO e x = some (.sl [])) : MStep C.P o e h fun v h' => ∃ b, v = .raw (.bool b) ∧ h' = h := by
  intro a w hst
  have hops := hst.ops
  rw [ho] at hops
  have h1 := C.ok _ _ hT
  simp only [TIok, Bool.and_eq_true] at h1
  have hu := (und_slice h1.2).1
  have rx := hops x (by simp [Op.operands]) _ hx
  have e1 : Op.maxDepth = 9999 + 1 := rfl
  obtain ⟨p, cap, hv⟩ : ∃ p cap, a.eval x = .slice p 0 cap := by
    generalize a.eval x = v at rx
    cases rx with
    | nil p cap => exact ⟨p, cap, rfl⟩
    | sl _ b off cap => exact ⟨_, cap, rfl⟩
  have hy : a.eval (.const (.slice none 0 0)) = .slice none 0 0 := rfl
  have key : ∃ q, (execOp a.eval o).run C.P w = .ok (.value (.bool q)) w := by
    cases p with
    | none =>
      refine ⟨true, ?_⟩
      have heq : (Op.equal t (a.eval x) (.slice none 0 0)).run C.P w = .ok true w := by
        unfold Op.equal
        rw [e1, hv]
        unfold Op.equalIn
        simp [underlying, hu]
      have hg : (eqGuard .eql t x (.const (.slice none 0 0)) (a.eval x) (.slice none 0 0)).run C.P w = .ok () w := by
        rw [hv]; simp [eqGuard]
      rw [hv] at heq hg
      simp [execOp, ho, hy, hv, hg, binOp, heq]
    | some p =>
      refine ⟨false, ?_⟩
      have heq : (Op.equal t (a.eval x) (.slice none 0 0)).run C.P w = .ok false w := by
        unfold Op.equal
        rw [e1, hv]
        unfold Op.equalIn
        simp [underlying, hu]
      have hg : (eqGuard .eql t x (.const (.slice none 0 0)) (a.eval x) (.slice none 0 0)).run C.P w = .ok () w := by
        rw [hv]; simp [eqGuard]
      rw [hv] at heq hg
      simp [execOp, ho, hy, hv, hg, binOp, heq]
  obtain ⟨q, hq⟩ := key
  unfold Yields
  rw [hq]
  exact ⟨_, _, ⟨q, rfl, rfl⟩, Chg.refl hst.heap, .raw _⟩
theorem j_slnilE {t t2 sz E z dd : Nat} {x : Operand} (hw : wantE l e o = some true) (ho : o.op = .binOp .eql t x (.const (.slice none 0 0)) t2) (hT : C.ty t = some ⟨sz, .slice E z⟩) (hx : evO e x = some (.sl [])) (hd : o.dst = some dd) (hn : Nat.blt dd n = true)
    (hj : ∀ b, J false C n l os Q ((dd, .raw (.bool b)) :: e) h) : J false C n l (o :: os) Q e h :=
  j_mut hw (slnilE_step ho hT hx) (by rw [hd]; exact hn) fun v h' ⟨b, h1, h2⟩ => by rw [hd, h1, h2]; exact hj b
end
end Go.AI
