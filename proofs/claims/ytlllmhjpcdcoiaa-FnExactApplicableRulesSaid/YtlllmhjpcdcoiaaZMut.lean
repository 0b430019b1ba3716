/-
  Memory of the call's own: blocks that it makes and writes. No condition.
-/
import Derived.Test.YtlllmhjpcdcoiaaZMore
import Derived.Laws.AppendOwn
namespace Go.AI
open Go.RowKit

section
variable {C : Cx} {n : Nat} {Q : Exit → Env → Heap → Prop} {e : Env} {h h' : Heap} {l os : List Oper} {o : Oper} {f : Fl} {fs : List Fl} {B : List (Nat × Blk)}

theorem heapOk_cons {w w' : World} (H : HeapOk h w) {T room : Nat} {vs rest : List Value} {cs : List A} (hx : Ext [] w w') (hw : w'.heap[w.heap.size]? = some (.cells (vs ++ rest).toArray T (0, 0))) (hr : RelL (Im w h) w cs vs) (hroom : room = (vs ++ rest).length) :
    HeapOk (⟨some w.heap.size, T, room, cs⟩ :: h) w' := by
  have im : ∀ b, Im w h b → Im w' (⟨some w.heap.size, T, room, cs⟩ :: h) b ∧ w'.heap[b]? = w.heap[b]? := fun b hb =>
    ⟨⟨Nat.lt_of_lt_of_le hb.1 hx.size, by
      simp only [keys, List.filterMap_cons, List.mem_cons, not_or]
      exact ⟨by have := hb.1; omega, hb.2⟩⟩, hx.block b hb.1 (by simp)⟩
  refine ⟨?_, fun k hk => ?_, H.tab.stab im⟩
  · simp only [keys, List.filterMap_cons, List.nodup_cons]
    exact ⟨fun hm => absurd (H.lt hm) (Nat.lt_irrefl _), H.nodup⟩
  · rcases List.mem_cons.1 hk with rfl | hk
    · exact ⟨vs, rest, hw, hr.stab im, hroom⟩
    · exact (H.blk k hk).stab im fun b hb => hx.block b (H.lt (mem_keys hk hb)) (by simp)

/-- A new block of the call's own. -/
theorem chg_new {w w' : World} (H : HeapOk h w) {T room : Nat} {vs rest : List Value} {cs : List A} (hx : Ext [] w w') (hw : w'.heap[w.heap.size]? = some (.cells (vs ++ rest).toArray T (0, 0))) (hr : RelL (Im w h) w cs vs) (hroom : room = (vs ++ rest).length) :
    Chg h (⟨some w.heap.size, T, room, cs⟩ :: h) w w' :=
  ⟨hx.os, hx.tape, hx.output, hx.size, fun k hk _ => hx.block k hk (by simp), fun b hb => by
    simp only [keys, List.filterMap_cons, List.mem_cons] at hb
    rcases hb with rfl | hb
    · exact .inr (Nat.le_refl _)
    · exact .inl hb, heapOk_cons H hx hw hr hroom⟩

/-- A variable of the call's own: 'var x T'. -/
theorem alloc_step {T bytes : Nat} {z : Value} {zk : List ZK} (ho : o.op = .alloc T) (hz : ZeroOk C.P T z bytes) (hzc : z.cells = (zk.map ZK.val).toArray) :
    MStep C.P o e h fun v h' => ∃ b, v = .op (some b) 0 ∧ h' = ⟨some b, T, zk.length, zk.map ZK.a⟩ :: h := by
  intro a w hc
  have hrun : (execOp a.eval o).run C.P w = .ok (.value (.pointer (some ⟨w.heap.size, 0, none⟩))) (w.alloc (.cells (zk.map ZK.val).toArray T)) := by
    have := run_zero hz w
    simp [execOp, ho, Instr.alloc, newVar, newRow, this, hzc]
  unfold Yields
  rw [hrun]
  refine ⟨_, _, ⟨w.heap.size, rfl, rfl⟩, chg_new hc.heap (vs := zk.map ZK.val) (rest := []) (Ext.alloc w _) (by rw [heap_new]; simp) ?_ (by simp), .op (some w.heap.size) 0⟩
  exact ⟨by simp, fun j hj hj' => by simpa using ZK.rel _ _ _⟩

theorem j_alloc {T bytes dd : Nat} {zk : List ZK} (hw : wantE l e o = some true) (ho : o.op = .alloc T) (hz : C.zt T = some (zk, bytes)) (hd : o.dst = some dd) (hn : Nat.blt dd n = true)
    (hj : ∀ b, J false C n l os Q ((dd, .op (some b) 0) :: e) (⟨some b, T, zk.length, zk.map ZK.a⟩ :: h)) : J false C n l (o :: os) Q e h := by
  obtain ⟨z, hz1, hz2⟩ := C.zok _ _ _ hz
  exact j_mut hw (alloc_step ho hz1 hz2) (by rw [hd]; exact hn) fun v h' ⟨b, h1, h2⟩ => by rw [hd, h1, h2]; exact hj b
/-- 'make([]E, m)'. -/
theorem make_step {T E esz sz bytes m : Nat} {z : Value} {zk : List ZK} {x y : Operand} (ho : o.op = .makeSlice T x y) (hT : C.ty T = some ⟨sz, .slice E esz⟩) (hx : evO e x = some (.int (m : Int))) (hy : evO e y = some (.int (m : Int)))
    (hz : ZeroOk C.P E z bytes) (hzc : z.cells = (zk.map ZK.val).toArray) (hzl : zk.length = esz) (hz0 : 0 < esz) (hm : bytes * m ≤ 281474976710656) :
    MStep C.P o e h fun v h' => ∃ b, v = .os (some b) m m ∧ h' = ⟨some b, E, m * esz, (List.replicate m (zk.map ZK.a)).flatten⟩ :: h := by
  intro a w hc
  have hti := C.ok _ _ hT
  simp only [TIok, Bool.and_eq_true] at hti
  obtain ⟨hu, hes⟩ := und_slice hti.2
  obtain ⟨e1, r1⟩ := (hc.ops x (by simp [ho, Op.operands]) _ hx).int_inv
  obtain ⟨e2, _⟩ := (hc.ops y (by simp [ho, Op.operands]) _ hy).int_inv
  have hs := run_sizeOf hes w
  have hzv := run_zero hz w
  obtain ⟨i, hi, hib⟩ := run_info_bytes hz w
  have hw : IntKind.i64.wrap (m : Int) = m := wrap64_of r1
  have hmap : (Array.range (m * esz)).map ((zk.map ZK.val).toArray[· % esz]!) = ((List.replicate m (zk.map ZK.val)).flatten).toArray := by
    apply Array.ext'
    simp only [Array.toList_map, Array.toList_range, List.toList_toArray]
    apply List.ext_getElem?
    intro j
    by_cases hj : j < m * esz
    · have hlen : ((List.replicate m (zk.map ZK.val)).flatten).length = m * esz := by simp [hzl]
      rw [List.getElem?_map, List.getElem?_range hj]
      simp only [Option.map_some]
      rw [List.getElem?_eq_getElem (by omega)]
      have hmod : j % esz < zk.length := by rw [hzl]; exact Nat.mod_lt _ hz0
      have : ∀ (q : Nat) (j : Nat) (hj : j < q * esz), ((List.replicate q (zk.map ZK.val)).flatten)[j]? = (zk.map ZK.val)[j % esz]? := by
        intro q
        induction q with
        | zero => intro j hj; omega
        | succ q ih =>
          intro j hj
          rw [List.replicate_succ, List.flatten_cons, List.getElem?_append]
          simp only [List.length_map, hzl]
          split
          · rename_i hlt; rw [Nat.mod_eq_of_lt hlt]
          · rename_i hge
            rw [ih (j - esz) (by rw [Nat.succ_mul] at hj; omega)]
            have : j % esz = (j - esz) % esz := Nat.mod_eq_sub_mod (by omega)
            rw [this]
      have h3 := this m j hj
      rw [List.getElem?_eq_getElem (by omega)] at h3
      rw [h3]
      simp [hmod]
    · rw [List.getElem?_eq_none (by simp; omega), List.getElem?_eq_none (by simp [hzl]; omega)]
  have hrun : (execOp a.eval o).run C.P w = .ok (.value (.slice (some ⟨w.heap.size, 0, none⟩) m m)) (w.alloc (.cells ((List.replicate m (zk.map ZK.val)).flatten).toArray E)) := by
    have h1 : ¬ ((m : Int) < 0) := by omega
    have h2 : ¬ ((bytes : Int) * (m : Int) > 2 ^ 48) := by
      have : ((bytes * m : Nat) : Int) ≤ 281474976710656 := by omega
      push_cast at this
      omega
    have hsize : (zk.map ZK.val).toArray.size = esz := by simp [hzl]
    simp only [execOp, ho, e1, e2, Instr.makeSlice, Sem.run_bind, run_underlying hu, Result.andThen_ok, asInt, asIntOf, Sem.run_pure, hi, hib, hw, h1, h2, decide_false, Bool.false_or, Bool.or_false, Bool.false_eq_true, if_false, run_askRoom, hs, Int.lt_irrefl, gt_iff_lt, Int.toNat_natCast]
    by_cases hm0 : m * esz = 0
    · have : m = 0 := by
        rcases Nat.mul_eq_zero.1 hm0 with q | q
        · exact q
        · omega
      subst this
      have hr0 : Array.range 0 = #[] := by apply Array.ext'; simp
      simp [newRow, hr0]
    · simp only [hm0, if_false, Sem.run_bind, hzv, Result.andThen_ok, Sem.run_pure, hzc, hsize, hmap]
      simp [newRow]
  unfold Yields
  rw [hrun]
  refine ⟨_, _, ⟨w.heap.size, rfl, rfl⟩, chg_new hc.heap (vs := (List.replicate m (zk.map ZK.val)).flatten) (rest := []) (Ext.alloc w _) (by rw [heap_new]; simp) ?_ (by simp [hzl]), .os w.heap.size m m (by unfold InR at r1; unfold maxLn; omega)⟩
  have : ∀ q, RelL (Im w h) w ((List.replicate q (zk.map ZK.a)).flatten) ((List.replicate q (zk.map ZK.val)).flatten) := by
    intro q
    induction q with
    | zero => exact RelL.nil
    | succ q ih =>
      simp only [List.replicate_succ, List.flatten_cons]
      exact RelL.append ⟨by simp, fun j hj hj' => by simpa using ZK.rel _ _ _⟩ ih
  exact this m

theorem j_make {T E esz sz bytes m dd : Nat} {zk : List ZK} {x y : Operand} (hw : wantE l e o = some true) (ho : o.op = .makeSlice T x y) (hT : C.ty T = some ⟨sz, .slice E esz⟩) (hx : evO e x = some (.int (m : Int))) (hy : evO e y = some (.int (m : Int)))
    (hz : C.zt E = some (zk, bytes)) (hzl : zk.length = esz) (hz0 : Nat.blt 0 esz = true) (hm : bytes * m ≤ 281474976710656) (hd : o.dst = some dd) (hn : Nat.blt dd n = true)
    (hj : ∀ b, J false C n l os Q ((dd, .os (some b) m m) :: e) (⟨some b, E, m * esz, (List.replicate m (zk.map ZK.a)).flatten⟩ :: h)) : J false C n l (o :: os) Q e h := by
  obtain ⟨z, hz1, hz2⟩ := C.zok _ _ _ hz
  exact j_mut hw (make_step ho hT hx hy hz1 hz2 hzl (Nat.le_of_ble_eq_true hz0) hm) (by rw [hd]; exact hn) fun v h' ⟨b, h1, h2⟩ => by rw [hd, h1, h2]; exact hj b
theorem keys_set {h : Heap} {i T T' room room' : Nat} {b : Option Nat} {cs cs' : List A} (hi : h[i]? = some ⟨b, T, room, cs⟩) : keys (h.set i ⟨b, T', room', cs'⟩) = keys h := by
  unfold keys
  induction h generalizing i with
  | nil => simp at hi
  | cons k h ih =>
    cases i with
    | zero => simp only [List.getElem?_cons_zero, Option.some.injEq] at hi; subst hi; simp [List.filterMap_cons]
    | succ i => simp only [List.getElem?_cons_succ] at hi; simp only [List.set_cons_succ, List.filterMap_cons]; rw [ih hi]

theorem keys_ne {h : Heap} (hn : (keys h).Nodup) : ∀ {i j : Nat} {k q : Blk} {b : Nat}, h[i]? = some k → h[j]? = some q → i ≠ j → k.b = some b → q.b ≠ some b := by
  induction h with
  | nil => intro i j k q b hi; simp at hi
  | cons x h ih =>
    have hn' : (keys h).Nodup := hn.sublist ((List.sublist_cons_self x h).filterMap _)
    intro i j k q b hi hj hij hk hq
    cases i with
    | zero =>
      cases j with
      | zero => exact hij rfl
      | succ j =>
        simp only [List.getElem?_cons_zero, Option.some.injEq] at hi
        subst hi
        have : b ∈ keys h := mem_keys (List.mem_of_getElem? (by simpa using hj)) hq
        simp only [keys, List.filterMap_cons, hk, List.nodup_cons] at hn
        exact hn.1 this
    | succ i =>
      cases j with
      | zero =>
        simp only [List.getElem?_cons_zero, Option.some.injEq] at hj
        subst hj
        have : b ∈ keys h := mem_keys (List.mem_of_getElem? (by simpa using hi)) hk
        simp only [keys, List.filterMap_cons, hq, List.nodup_cons] at hn
        exact hn.1 this
      | succ j => exact ih hn' (by simpa using hi) (by simpa using hj) (by omega) hk hq

/-! #### A zero value told as a read-only one -/
def ZK.i : ZK → A
  | .slice => .sl []
  | z => z.a
theorem zk_le : ∀ zk : List ZK, LeL (zk.map ZK.a) (zk.map ZK.i)
  | [] => trivial
  | z :: zk => ⟨by cases z <;> first | exact Le.refl _ | exact Le.nil 0, zk_le zk⟩
theorem zk_le_rep (zk : List ZK) : ∀ m, LeL ((List.replicate m (zk.map ZK.a)).flatten) ((List.replicate m (zk.map ZK.i)).flatten)
  | 0 => trivial
  | m + 1 => by simp only [List.replicate_succ, List.flatten_cons]; exact (zk_le zk).append (zk_le_rep zk m)

theorem view_cast (i : Nat) {b : Option Nat} {T room : Nat} {cs cs' : List A} (hi : h[i]? = some ⟨b, T, room, cs⟩) (hc : LeL cs cs') (hset : h' = h.set i ⟨b, T, room, cs'⟩) : View e h e h' := fun C n a w H => by
  subst hset
  have hk := keys_set (T' := T) (room' := room) (cs' := cs') hi
  have im : ∀ q, Im w h q → Im w (h.set i ⟨b, T, room, cs'⟩) q ∧ w.heap[q]? = w.heap[q]? := fun q hq => ⟨⟨hq.1, by rw [hk]; exact hq.2⟩, rfl⟩
  refine ⟨H.defers, H.size, fun t v hv => (H.env t v hv).stab im, ⟨by rw [hk]; exact H.heap.nodup, fun q hq => ?_, H.heap.tab.stab im⟩, H.ext, by rw [hk]; exact H.own⟩
  obtain ⟨j, hj⟩ := List.getElem?_of_mem hq
  by_cases hij : i = j
  · subst hij
    rw [List.getElem?_set_self (List.getElem?_eq_some_iff.1 hi).1] at hj
    simp only [Option.some.injEq] at hj
    subst hj
    have hb := H.heap.blk _ (List.mem_of_getElem? hi)
    unfold BlkOk at hb ⊢
    cases b with
    | none =>
      simp only at hb ⊢
      obtain ⟨rfl, hr⟩ := hb
      cases cs' with
      | nil => exact ⟨rfl, hr.stab im⟩
      | cons c cs' => exact hc.elim
    | some b =>
      simp only at hb ⊢
      obtain ⟨vs, rest, h1, h2, h3⟩ := hb
      exact ⟨vs, rest, h1, hc.rel (h2.stab im), h3⟩
  · rw [List.getElem?_set_ne hij] at hj
    exact (H.heap.blk q (List.mem_of_getElem? hj)).stab im fun _ _ => rfl

theorem j_view {e' : Env} (v : View e h e' h') (hj : J false C n l os Q e' h') : J false C n l os Q e h := by
  unfold J at *
  exact fun a w hc => hj a w (v _ _ _ _ hc)

theorem j_makeI {α : Type} {g : α → List A} (y0 : α) {T E esz sz bytes m dd : Nat} {zk : List ZK} {x y : Operand} (hw : wantE l e o = some true) (ho : o.op = .makeSlice T x y) (hT : C.ty T = some ⟨sz, .slice E esz⟩) (hx : evO e x = some (.int (m : Int))) (hy : evO e y = some (.int (m : Int)))
    (hz : C.zt E = some (zk, bytes)) (hf : zk.map ZK.i = g y0) (hzl : zk.length = esz) (hz0 : Nat.blt 0 esz = true) (hm : bytes * m ≤ 281474976710656) (hd : o.dst = some dd) (hn : Nat.blt dd n = true)
    (hj : ∀ b, J false C n l os Q ((dd, .os (some b) m m) :: e) (⟨some b, E, m * esz, ((List.replicate m y0).map g).flatten⟩ :: h)) : J false C n l (o :: os) Q e h :=
  j_make hw ho hT hx hy hz hzl hz0 hm hd hn fun b => j_view (view_cast 0 rfl (zk_le_rep zk m) rfl) (by
    have := hj b
    rw [List.map_replicate, ← hf] at this
    exact this)

/-! #### Places -/
theorem midx_quiet {T z E sz b ln cap : Nat} {x i : Operand} {k : Int} (ho : o.op = .indexAddr T x i) (hT : C.ty T = some ⟨sz, .slice E z⟩) (hx : evO e x = some (.os (some b) ln cap)) (hi : evO e i = some (.int k))
    (h0 : 0 ≤ k) (h1 : k < ln) : Quiet C.P o e h (.op (some b) (k.toNat * z)) := by
  apply Quiet.of_same
  intro a w hs
  have hops := hs.ops
  rw [ho] at hops
  have hti := C.ok _ _ hT
  simp only [TIok, Bool.and_eq_true] at hti
  have e1 := (hops x (by simp [Op.operands]) _ hx).os_inv.1
  obtain ⟨e2, _⟩ := (hops i (by simp [Op.operands]) _ hi).int_inv
  have hrun := run_indexAt (P := C.P) hti.2 (b := b) (off := 0) (ln := ln) (cap := cap) (k := k) h0 h1 w
  rw [Nat.zero_add] at hrun
  refine ⟨.pointer (some ⟨b, k.toNat * z, none⟩), ?_, .op (some b) _⟩
  simp only [execOp, ho, e1, e2]
  rw [Sem.run_bind, hrun]; rfl

/-- A place in an array of the call's own. -/
theorem aidx_quiet {T z E sz b off ln : Nat} {x i : Operand} {k : Int} (ho : o.op = .indexAddr T x i) (hT : C.ty T = some ⟨sz, .arr ln E z⟩) (hx : evO e x = some (.op (some b) off)) (hi : evO e i = some (.int k))
    (h0 : 0 ≤ k) (h1 : k < ln) : Quiet C.P o e h (.op (some b) (off + k.toNat * z)) := by
  apply Quiet.of_same
  intro a w hs
  have hops := hs.ops
  rw [ho] at hops
  have hti := C.ok _ _ hT
  simp only [TIok, Bool.and_eq_true] at hti
  have e1 := (hops x (by simp [Op.operands]) _ hx).op_inv
  obtain ⟨e2, _⟩ := (hops i (by simp [Op.operands]) _ hi).int_inv
  obtain ⟨hu, hz⟩ := und_arr hti.2
  have hs := run_sizeOf hz w
  simp only [Option.map_some] at e1
  refine ⟨.pointer (some ⟨b, off + k.toNat * z, none⟩), ?_, .op (some b) _⟩
  simp [execOp, ho, e1, e2, Instr.indexAt, asIntOf, underlying, hu, h0, h1, hs, addr_add, Instr.sureAddr]

end
section
variable {C : Cx} {n : Nat} {Q : Exit → Env → Heap → Prop} {e : Env} {h h' : Heap} {d : Bool} {l os : List Oper} {o : Oper} {f : Fl} {fs : List Fl} {B : List (Nat × Blk)}
/-- 's[m]', s memory of the call's own. -/
theorem j_midx {T z E sz b ln cap m dd : Nat} {x i : Operand} (hw : wantE l e o = some true) (ho : o.op = .indexAddr T x i) (hT : C.ty T = some ⟨sz, .slice E z⟩) (hx : evO e x = some (.os (some b) ln cap))
    (hi : evO e i = some (.int (m : Int))) (hm : m < ln) (hd : o.dst = some dd) (hn : Nat.blt dd n = true)
    (hj : J d C n l os Q ((dd, .op (some b) (m * z)) :: e) h) : J d C n l (o :: os) Q e h :=
  j_quiet hw (fun _ => midx_quiet ho hT hx hi (by omega) (by omega)) hd hn hj
theorem j_midxz {T z E sz b ln cap dd : Nat} {k : Int} {x i : Operand} (hw : wantE l e o = some true) (ho : o.op = .indexAddr T x i) (hT : C.ty T = some ⟨sz, .slice E z⟩) (hx : evO e x = some (.os (some b) ln cap))
    (hi : evO e i = some (.int k)) (hm : 0 ≤ k ∧ k < ln) (hd : o.dst = some dd) (hn : Nat.blt dd n = true)
    (hj : J d C n l os Q ((dd, .op (some b) (k.toNat * z)) :: e) h) : J d C n l (o :: os) Q e h :=
  j_quiet hw (fun _ => midx_quiet ho hT hx hi hm.1 hm.2) hd hn hj
theorem j_aidx {T z E sz b off ln m dd : Nat} {x i : Operand} (hw : wantE l e o = some true) (ho : o.op = .indexAddr T x i) (hT : C.ty T = some ⟨sz, .arr ln E z⟩) (hx : evO e x = some (.op (some b) off))
    (hi : evO e i = some (.int (m : Int))) (hm : m < ln) (hd : o.dst = some dd) (hn : Nat.blt dd n = true)
    (hj : J d C n l os Q ((dd, .op (some b) (off + m * z)) :: e) h) : J d C n l (o :: os) Q e h :=
  j_quiet hw (fun _ => aidx_quiet ho hT hx hi (by omega) (by omega)) hd hn hj
theorem j_aidxz {T z E sz b off ln dd : Nat} {k : Int} {x i : Operand} (hw : wantE l e o = some true) (ho : o.op = .indexAddr T x i) (hT : C.ty T = some ⟨sz, .arr ln E z⟩) (hx : evO e x = some (.op (some b) off))
    (hi : evO e i = some (.int k)) (hm : 0 ≤ k ∧ k < ln) (hd : o.dst = some dd) (hn : Nat.blt dd n = true)
    (hj : J d C n l os Q ((dd, .op (some b) (off + k.toNat * z)) :: e) h) : J d C n l (o :: os) Q e h :=
  j_quiet hw (fun _ => aidx_quiet ho hT hx hi hm.1 hm.2) hd hn hj
/-- 's[m]', s memory of the call's own. -/
theorem j_midxO {T z E sz b ln cap m dd : Nat} {x i : Operand} (hw : wantE l e o = some true) (ho : o.op = .indexAddr T x i) (hT : C.ty T = some ⟨sz, .slice E z⟩) (hx : evO e x = some (.os (some b) ln cap))
    (hi : evO e i = some (.int (m : Int))) (hm : m < ln) (hd : o.dst = some dd) (hn : Nat.blt dd n = true)
    (hj : JO fs B C n l os Q ((dd, .op (some b) (m * z)) :: e) h) : JO (f :: fs) B C n l (o :: os) Q e h :=
  j_quietO hw (fun _ => midx_quiet ho hT hx hi (by omega) (by omega)) hd hn hj
theorem j_midxzO {T z E sz b ln cap dd : Nat} {k : Int} {x i : Operand} (hw : wantE l e o = some true) (ho : o.op = .indexAddr T x i) (hT : C.ty T = some ⟨sz, .slice E z⟩) (hx : evO e x = some (.os (some b) ln cap))
    (hi : evO e i = some (.int k)) (hm : 0 ≤ k ∧ k < ln) (hd : o.dst = some dd) (hn : Nat.blt dd n = true)
    (hj : JO fs B C n l os Q ((dd, .op (some b) (k.toNat * z)) :: e) h) : JO (f :: fs) B C n l (o :: os) Q e h :=
  j_quietO hw (fun _ => midx_quiet ho hT hx hi hm.1 hm.2) hd hn hj
theorem j_aidxzO {T z E sz b off ln dd : Nat} {k : Int} {x i : Operand} (hw : wantE l e o = some true) (ho : o.op = .indexAddr T x i) (hT : C.ty T = some ⟨sz, .arr ln E z⟩) (hx : evO e x = some (.op (some b) off))
    (hi : evO e i = some (.int k)) (hm : 0 ≤ k ∧ k < ln) (hd : o.dst = some dd) (hn : Nat.blt dd n = true)
    (hj : JO fs B C n l os Q ((dd, .op (some b) (off + k.toNat * z)) :: e) h) : JO (f :: fs) B C n l (o :: os) Q e h :=
  j_quietO hw (fun _ => aidx_quiet ho hT hx hi hm.1 hm.2) hd hn hj
end
section
variable {C : Cx} {n : Nat} {Q : Exit → Env → Heap → Prop} {e : Env} {h h' : Heap} {l os : List Oper} {o : Oper} {f : Fl} {fs : List Fl} {B : List (Nat × Blk)}

theorem mload_quiet {T b p T' room : Nat} {x : Operand} {cs : List A} {v : A} (ho : o.op = .load T x) (hx : evO e x = some (.op (some b) p)) (hi : (⟨some b, T', room, cs⟩ : Blk) ∈ h) (hv : loadA C.ty T (cs.drop p) = some v) : Quiet C.P o e h v := by
  apply Quiet.of_same
  intro a w hs
  have hops := hs.ops
  rw [ho] at hops
  have e1 := (hops x (by simp [Op.operands]) _ hx).op_inv
  simp only [Option.map_some] at e1
  obtain ⟨vs, rest, hb, hr, _⟩ := hs.heap.at hi
  obtain ⟨u, hu, ru⟩ := loadA_cells (P := C.P) C.ok hv (S := Im w h) (w := w) (b := b) (o := p) (V := fun j => vs.getD (p + j) undef) (fun j hj => by
      have hj' : p + j < vs.length := by rw [hr.1]; simp at hj; omega
      rw [cell_of_vs hb (p + j) hj']; simp [hj']) (fun j hj => by
      have hj2 : p + j < cs.length := by simp at hj; omega
      have hj' : p + j < vs.length := by rw [hr.1]; exact hj2
      have := hr.2 (p + j) hj2 hj'
      simpa [hj'] using this)
  exact ⟨u, by simp [execOp, ho, e1, Instr.loadAt, Instr.sureAddr, hu], ru⟩

theorem j_mload {d : Bool} (i : Nat) {T b p T' room dd : Nat} {x : Operand} {cs : List A} {v : A} (hw : wantE l e o = some true) (ho : o.op = .load T x) (hx : evO e x = some (.op (some b) p)) (hi : h[i]? = some ⟨some b, T', room, cs⟩)
    (hv : loadA C.ty T (cs.drop p) = some v) (hd : o.dst = some dd) (hn : Nat.blt dd n = true) (hj : J d C n l os Q ((dd, v) :: e) h) : J d C n l (o :: os) Q e h :=
  j_at hw (mload_quiet ho hx (List.mem_of_getElem? hi) hv) hd hn hj
theorem j_mloadO (i : Nat) {T b p T' room dd : Nat} {x : Operand} {cs : List A} {v : A} (ht : f.tight = true) (hw : wantE l e o = some true) (ho : o.op = .load T x) (hx : evO e x = some (.op (some b) p)) (hi : h[i]? = some ⟨some b, T', room, cs⟩)
    (hv : loadA C.ty T (cs.drop p) = some v) (hd : o.dst = some dd) (hn : Nat.blt dd n = true) (hj : JO fs B C n l os Q ((dd, v) :: e) h) : JO (f :: fs) B C n l (o :: os) Q e h :=
  j_atO ht hw (mload_quiet ho hx (List.mem_of_getElem? hi) hv) hd hn hj
/-! #### Stores -/
def splice {α : Type} (l : List α) (p : Nat) (us : List α) : List α := l.take p ++ us ++ l.drop (p + us.length)

theorem splice_cons {α : Type} {arr : List α} {o i : Nat} (u : α) (us : List α) (h : o + i < arr.length) : splice (arr.set (o + i) u) (o + (i + 1)) us = splice arr (o + i) (u :: us) := by
  unfold splice
  have e1 : (arr.set (o + i) u).take (o + (i + 1)) = arr.take (o + i) ++ [u] := by
    have : o + (i + 1) = o + i + 1 := by omega
    rw [this, List.take_set, List.take_succ_eq_append_getElem h, List.set_append_right _ _ (by simp; omega)]
    simp [Nat.min_eq_left (Nat.le_of_lt h)]
  have e2 : (arr.set (o + i) u).drop (o + (i + 1) + us.length) = arr.drop (o + i + (u :: us).length) := by
    rw [List.drop_set_of_lt (by omega)]
    congr 1
    simp; omega
  rw [e1, e2]; simp

theorem run_storeCells {P : Program} {b o T : Nat} : ∀ (us : List Value) (i : Nat) (w : World) (arr : List Value), (∀ u ∈ us, u.oneCell' = true) → w.heap[b]? = some (.cells arr.toArray T (0, 0)) → o + i + us.length ≤ arr.length →
    ∃ w', (storeCells ⟨b, o, none⟩ us i).run P w = .ok () w' ∧ w'.os = w.os ∧ w'.tape = w.tape ∧ w'.output = w.output ∧ w'.heap.size = w.heap.size ∧ (∀ k, k ≠ b → w'.heap[k]? = w.heap[k]?) ∧
      w'.heap[b]? = some (.cells (splice arr (o + i) us).toArray T (0, 0))
  | [], i, w, arr, _, hb, hle => ⟨w, rfl, rfl, rfl, rfl, rfl, fun _ _ => rfl, by simpa [splice] using hb⟩
  | u :: us, i, w, arr, h1, hb, hle => by
    simp only [List.length_cons] at hle
    have hlt : o + i < arr.length := by omega
    have hcell : w.cell? ⟨b, o + i, none⟩ = some arr[o + i] := by
      rw [cell_of_row _ _ _ _ _ _ hb]; simp [hlt]
    have hfr : w.frozen? ⟨b, o + i, none⟩ = false := frozen_of_row _ _ _ _ _ hb
    have hset : (w.setCell ⟨b, o + i, none⟩ u).heap[b]? = some (.cells (arr.set (o + i) u).toArray T (0, 0)) := by
      rw [heap_setCell_same w b (o + i) arr.toArray T u hb]; simp
    obtain ⟨w', r1, r2, r3, r4, r5, r6, r7⟩ := run_storeCells (P := P) (b := b) (o := o) (T := T) us (i + 1) (w.setCell ⟨b, o + i, none⟩ u) (arr.set (o + i) u) (fun v hv => h1 v (by simp [hv])) hset (by simp; omega)
    refine ⟨w', ?_, r2, r3, r4, by rw [r5]; simp [World.setCell], fun k hk => by rw [r6 k hk]; exact heap_setCell_other _ _ _ _ hk, ?_⟩
    · have hst := run_store P w ⟨b, o + i, none⟩ u .plain (h1 u (by simp))
      simp only [storeCells, addr_add, Sem.run_bind]
      rw [hst]
      simp only [hcell, hfr, Bool.false_eq_true, if_false, Result.andThen_ok]
      exact r1
    · rw [r7]
      congr 3
      exact splice_cons u us hlt

def okCell : A → Bool
  | .agg _ => false
  | .tup _ => false
  | .any _ => false
  | .raw (.agg _) => false
  | .raw (.tuple _) => false
  | _ => true

theorem okCell_one {S : Nat → Prop} {w : World} {a : A} {v : Value} (ha : okCell a = true) (r : Rel S w a v) : v.oneCell' = true := by
  cases r with
  | raw v => cases v <;> first | rfl | (simp [okCell] at ha)
  | agg => simp [okCell] at ha
  | tup => simp [okCell] at ha
  | any => simp [okCell] at ha
  | _ => rfl

theorem RelL.take {S : Nat → Prop} {w : World} {as : List A} {vs : List Value} (h : RelL S w as vs) (k : Nat) : RelL S w (as.take k) (vs.take k) :=
  ⟨by simp [h.1], fun j hj hj' => by
    simp at hj hj'
    have := h.2 j (by omega) (by omega)
    simpa using this⟩
theorem RelL.drop {S : Nat → Prop} {w : World} {as : List A} {vs : List Value} (h : RelL S w as vs) (k : Nat) : RelL S w (as.drop k) (vs.drop k) :=
  ⟨by simp [h.1], fun j hj hj' => by
    simp at hj hj'
    have := h.2 (k + j) (by omega) (by omega)
    simpa using this⟩

theorem splice_one {α : Type} {cs : List α} {p : Nat} {u : α} (hle : p < cs.length) : splice cs p [u] = cs.set p u := by
  unfold splice
  rw [List.set_eq_take_append_cons_drop, if_pos hle]
  simp
theorem splice_all {α : Type} {cs us : List α} (hle : us.length = cs.length) : splice cs 0 us = us := by unfold splice; simp [hle]

/-- Cells p, p + 1, .. of a block of the call's own are written. -/
theorem write_heap {w w' : World} (H : HeapOk h w) {i b T' room p : Nat} {us cs : List A} {vs : List Value} {arr : List Value} (hi : h[i]? = some ⟨some b, T', room, cs⟩) (hsz : w'.heap.size = w.heap.size) (hother : ∀ k, k ≠ b → w'.heap[k]? = w.heap[k]?)
    (harr : w.heap[b]? = some (.cells arr.toArray T' (0, 0))) (hnew : w'.heap[b]? = some (.cells (splice arr p vs).toArray T' (0, 0))) (hrel : RelL (Im w h) w us vs) (hle : p ≤ cs.length) (hfit : p + us.length ≤ arr.length) (hroom : room = arr.length) :
    HeapOk (h.set i ⟨some b, T', room, splice cs p us⟩) w' ∧ ∀ q, Im w h q → Im w' (h.set i ⟨some b, T', room, splice cs p us⟩) q ∧ w'.heap[q]? = w.heap[q]? := by
  have hmem := List.mem_of_getElem? hi
  obtain ⟨bs, rest, hb, hr, _⟩ := H.at hmem
  have harr' : arr = bs ++ rest := by
    rw [hb] at harr
    simp only [Option.some.injEq, Obj.cells.injEq] at harr
    have := harr.1
    simpa using this.symm
  have hkeys := keys_set (T' := T') (room' := room) (cs' := splice cs p us) hi
  have hbk : b ∈ keys h := mem_keys hmem rfl
  have im : ∀ q, Im w h q → Im w' (h.set i ⟨some b, T', room, splice cs p us⟩) q ∧ w'.heap[q]? = w.heap[q]? := fun q hq =>
    ⟨⟨by rw [hsz]; exact hq.1, by rw [hkeys]; exact hq.2⟩, hother q (fun hqb => hq.2 (by rw [hqb]; exact hbk))⟩
  refine ⟨⟨by rw [hkeys]; exact H.nodup, fun q hq => ?_, H.tab.stab im⟩, im⟩
  obtain ⟨j, hj⟩ := List.getElem?_of_mem hq
  by_cases hij : i = j
  · subst hij
    rw [List.getElem?_set_self (List.getElem?_eq_some_iff.1 hi).1] at hj
    simp only [Option.some.injEq] at hj
    subst hj
    have hbl : bs.length = cs.length := hr.1
    have hvl : vs.length = us.length := hrel.1
    -- what is known behind: the cells of cs from p + us.length on
    refine ⟨splice bs p vs, arr.drop (max (p + us.length) cs.length), ?_, ?_, ?_⟩
    · simp only
      rw [hnew]
      congr 2
      rw [harr']
      unfold splice
      rw [List.take_append_of_le_length (by omega), hvl]
      by_cases hc : p + us.length ≤ cs.length
      · rw [Nat.max_eq_right hc, List.drop_append_of_le_length (by omega), ← hbl, List.drop_append_of_le_length (Nat.le_refl _)]
        simp
      · have hd : bs.drop (p + us.length) = [] := List.drop_of_length_le (by omega)
        rw [Nat.max_eq_left (by omega), hd]
        simp
    · unfold splice
      rw [hvl]
      exact ((RelL.append (hr.take p) hrel).append (hr.drop _)).stab im
    · have harl : arr.length = bs.length + rest.length := by rw [harr', List.length_append]
      simp only [List.length_append, List.length_drop]
      unfold splice
      simp only [List.length_append, List.length_take, List.length_drop]
      by_cases hc : p + us.length ≤ cs.length
      · rw [Nat.max_eq_right hc]; omega
      · rw [Nat.max_eq_left (by omega)]; omega
  · rw [List.getElem?_set_ne hij] at hj
    refine (H.blk q (List.mem_of_getElem? hj)).stab im fun b' hb' => hother b' fun hbb => ?_
    subst hbb
    exact keys_ne H.nodup hi hj hij rfl hb'

theorem store_step {T i b p T' room sz : Nat} {k : TK} {x y : Operand} {v : A} {us cs : List A} (ho : o.op = .store T x y) (hT : C.ty T = some ⟨sz, k⟩) (hx : evO e x = some (.op (some b) p)) (hi : h[i]? = some ⟨some b, T', room, cs⟩)
    (hy : evO e y = some v) (hc : cellsA v = some us) (hok : us.all okCell = true) (hus : us.length = sz) (hle : p + us.length ≤ cs.length) :
    MStep C.P o e h fun u h' => u = .raw undef ∧ h' = h.set i ⟨some b, T', room, splice cs p us⟩ := by
  intro a w hcc
  have hti := C.ok _ _ hT
  simp only [TIok, Bool.and_eq_true] at hti
  have hz := run_sizeOf hti.1 w
  have e1 := (hcc.ops x (by simp [ho, Op.operands]) _ hx).op_inv
  simp only [Option.map_some] at e1
  have r := hcc.ops y (by simp [ho, Op.operands]) _ hy
  obtain ⟨vs, hv1, hv2⟩ := cellsA_rel hc r
  have hmem := List.mem_of_getElem? hi
  obtain ⟨bs, rest, hb, hr, hroom⟩ := hcc.heap.at hmem
  have hone : ∀ u ∈ vs, u.oneCell' = true := by
    intro u hu
    obtain ⟨j, hj, rfl⟩ := List.mem_iff_getElem.1 hu
    have hj' : j < us.length := by rw [← hv2.1]; exact hj
    exact okCell_one (List.all_eq_true.1 hok _ (List.getElem_mem hj')) (hv2.2 j hj' hj)
  have hvl : vs.length = us.length := hv2.1
  have hbl : bs.length = cs.length := hr.1
  obtain ⟨w', r1, r2, r3, r4, r5, r6, r7⟩ := run_storeCells (P := C.P) (b := b) (o := p) (T := T') vs 0 w (bs ++ rest) hone hb (by simp; omega)
  simp only [Nat.add_zero] at r7
  have hrun : (execOp a.eval o).run C.P w = .ok .skip w' := by
    simp only [execOp, ho, e1, Instr.storeAt, Instr.sureAddr, storeVar, hv1, Sem.run_bind, hz, Sem.run_pure, Result.andThen_ok]
    rw [if_neg (by simp; omega)]
    simp [r1]
  obtain ⟨hok', im⟩ := write_heap hcc.heap hi r5 r6 hb r7 hv2 (by omega) (by simp; omega) hroom
  have hkeys := keys_set (T' := T') (room' := room) (cs' := splice cs p us) hi
  have hbk : b ∈ keys h := mem_keys hmem rfl
  unfold Yields
  rw [hrun]
  exact ⟨_, _, ⟨rfl, rfl⟩, ⟨r2, r3, r4, by rw [r5]; exact Nat.le_refl _, fun q hq hqk => r6 q (fun hqb => hqk (by rw [hqb]; exact hbk)), fun q hq => .inl (by rw [hkeys] at hq; exact hq), hok'⟩, .raw _⟩

/-- '*p = v': cell p of block b. -/
theorem j_store (i : Nat) {T b p T' room sz : Nat} {k : TK} {x y : Operand} {v u : A} {cs : List A} (hw : wantE l e o = some true) (ho : o.op = .store T x y) (hd : o.dst = none) (hT : C.ty T = some ⟨sz, k⟩) (hx : evO e x = some (.op (some b) p))
    (hi : h[i]? = some ⟨some b, T', room, cs⟩) (hy : evO e y = some v) (hc : cellsA v = some [u]) (hok : okCell u = true) (hus : Nat.beq sz 1 = true) (hle : Nat.blt p cs.length = true)
    (hj : J false C n l os Q e (h.set i ⟨some b, T', room, cs.set p u⟩)) : J false C n l (o :: os) Q e h :=
  have hle : p < cs.length := Nat.le_of_ble_eq_true hle
  j_mut hw (store_step ho hT hx hi hy hc (by simp [hok]) (by simpa using (Nat.eq_of_beq_eq_true hus).symm) (by simp; omega)) (by rw [hd]; rfl) fun v h' ⟨_, h2⟩ => by
    rw [hd, h2, splice_one hle]; exact hj
/-- .. a whole variable. -/
theorem j_storeN (i : Nat) {T b T' room sz : Nat} {k : TK} {x y : Operand} {v : A} {us cs : List A} (hw : wantE l e o = some true) (ho : o.op = .store T x y) (hd : o.dst = none) (hT : C.ty T = some ⟨sz, k⟩) (hx : evO e x = some (.op (some b) 0))
    (hi : h[i]? = some ⟨some b, T', room, cs⟩) (hy : evO e y = some v) (hc : cellsA v = some us) (hok : us.all okCell = true) (hus : us.length = sz) (hle : us.length = cs.length)
    (hj : J false C n l os Q e (h.set i ⟨some b, T', room, us⟩)) : J false C n l (o :: os) Q e h :=
  j_mut hw (store_step ho hT hx hi hy hc hok hus (by omega)) (by rw [hd]; rfl) fun v h' ⟨_, h2⟩ => by
    rw [hd, h2, splice_all hle]; exact hj
theorem flat_len {α : Type} {f : α → List A} {z : Nat} (hz : ∀ y, (f y).length = z) : ∀ ys : List α, ((ys.map f).flatten).length = ys.length * z
  | [] => by simp
  | y :: ys => by simp only [List.map_cons, List.flatten_cons, List.length_append, flat_len hz ys, hz, List.length_cons, Nat.succ_mul]; omega

theorem flat_splice {α : Type} {f : α → List A} {z : Nat} (hz : ∀ y, (f y).length = z) : ∀ (ys : List α) (m : Nat) (y : α), m < ys.length → splice ((ys.map f).flatten) (m * z) (f y) = ((ys.set m y).map f).flatten
  | [], m, y, hm => absurd hm (Nat.not_lt_zero _)
  | x :: ys, 0, y, _ => by
    unfold splice
    simp only [Nat.zero_mul, List.take_zero, List.nil_append, Nat.zero_add, List.map_cons, List.flatten_cons, List.set_cons_zero, hz]
    rw [← hz x, List.drop_left]
  | x :: ys, m + 1, y, hm => by
    have ih := flat_splice hz ys m y (by simpa using hm)
    unfold splice at *
    simp only [List.map_cons, List.flatten_cons, List.set_cons_succ]
    have e1 : (m + 1) * z = (f x).length + m * z := by rw [hz, Nat.succ_mul]; omega
    rw [e1, List.take_length_add_append, Nat.add_assoc, List.drop_length_add_append, List.append_assoc, List.append_assoc, ← ih]
    simp

/-- 's[m] = v': element m of a list of data by g. -/
theorem j_storeE (i m : Nat) {α : Type} {g : α → List A} {L : List α} (y' : α) {T b p T' room sz : Nat} {k : TK} {x y : Operand} {v : A} (hw : wantE l e o = some true) (ho : o.op = .store T x y) (hd : o.dst = none) (hT : C.ty T = some ⟨sz, k⟩) (hx : evO e x = some (.op (some b) p))
    (hi : h[i]? = some ⟨some b, T', room, (L.map g).flatten⟩) (hy : evO e y = some v) (hc : cellsA v = some (g y')) (hok : (g y').all okCell = true) (hz : ∀ y, (g y).length = sz) (hp : p = m * sz) (hm : m < L.length)
    (hj : J false C n l os Q e (h.set i ⟨some b, T', room, ((L.set m y').map g).flatten⟩)) : J false C n l (o :: os) Q e h :=
  have hle : p + (g y').length ≤ ((L.map g).flatten).length := by
    rw [flat_len hz, hz, hp, ← Nat.succ_mul]; exact Nat.mul_le_mul_right _ hm
  j_mut hw (store_step ho hT hx hi hy hc hok (hz y') hle) (by rw [hd]; rfl) fun v h' ⟨_, h2⟩ => by
    rw [hd, h2, hp, flat_splice hz L m y' hm]; exact hj
theorem j_storeEO (i m : Nat) {α : Type} {g : α → List A} {L : List α} (y' : α) {T b p T' room sz : Nat} {k : TK} {x y : Operand} {v : A} (hf : f.w = true) (hw : wantE l e o = some true) (ho : o.op = .store T x y) (hd : o.dst = none) (hT : C.ty T = some ⟨sz, k⟩) (hx : evO e x = some (.op (some b) p))
    (hi : h[i]? = some ⟨some b, T', room, (L.map g).flatten⟩) (hy : evO e y = some v) (hc : cellsA v = some (g y')) (hok : (g y').all okCell = true) (hz : ∀ y, (g y).length = sz) (hp : p = m * sz) (hm : m < L.length) (hB : ∀ k ∈ B, k.2 ∈ h.set i ⟨some b, T', room, ((L.set m y').map g).flatten⟩)
    (hj : JO fs B C n l os Q e (h.set i ⟨some b, T', room, ((L.set m y').map g).flatten⟩)) : JO (f :: fs) B C n l (o :: os) Q e h :=
  have hle : p + (g y').length ≤ ((L.map g).flatten).length := by
    rw [flat_len hz, hz, hp, ← Nat.succ_mul]; exact Nat.mul_le_mul_right _ hm
  j_mutO hf hw (store_step ho hT hx hi hy hc hok (hz y') hle) (fun v h' ⟨_, h2⟩ => by rw [h2, hp, flat_splice hz L m y' hm]; exact hB) (by rw [hd]; rfl) fun v h' ⟨_, h2⟩ => by
    rw [hd, h2, hp, flat_splice hz L m y' hm]; exact hj

end
end Go.AI
