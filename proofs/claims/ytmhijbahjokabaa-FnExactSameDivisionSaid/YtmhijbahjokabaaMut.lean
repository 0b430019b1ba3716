/-
  Memory of the call's own: blocks that it makes and writes.
-/
import Derived.Test.YtmhijbahjokabaaMore
namespace Go.AI
open Go.RowKit

/-- What an operation may do to the world: new blocks, and writes to the call's own. -/
structure Chg (C : Cx) (h h' : Heap) (w w' : World) : Prop where
  os : w'.os = w.os
  tape : w'.tape = w.tape
  output : w'.output = w.output
  size : w.heap.size ≤ w'.heap.size
  block : ∀ k, k < w.heap.size → k ∉ keys h → w'.heap[k]? = w.heap[k]?
  own : ∀ k, k < w.heap.size → w'.heap[k]? ≠ w.heap[k]? → k ∈ C.K0 ∨ C.w0.heap.size ≤ k
  new : ∀ b ∈ keys h', b ∈ keys h ∨ w.heap.size ≤ b
  heap : HeapOk h' w'

section
variable {C : Cx} {n : Nat} {Q : Exit → Env → Heap → Prop} {e : Env} {h h' : Heap} {l os : List Oper} {o : Oper}

theorem Chg.im {w w' : World} (H : Chg C h h' w w') {b : Nat} (hb : Im w h b) : Im w' h' b ∧ w'.heap[b]? = w.heap[b]? :=
  ⟨⟨Nat.lt_of_lt_of_le hb.1 H.size, fun hk => (H.new b hk).elim hb.2 (fun q => absurd hb.1 (by omega))⟩, H.block b hb.1 hb.2⟩

theorem Conc.putM {a : Act} {w w' : World} (H : Conc C n e h a w) (x : Chg C h h' w w') {d : Option Nat} (hd : dOk n d = true) {v : A} {u : Value} (r : Rel (Im w' h') w' v u) :
    Conc C n (putE d v e) h' (a.put d u) w' where
  defers := by rw [defers_put]; exact H.defers
  size := by rw [size_put]; exact H.size
  env := fun t y hy => by
    by_cases hdt : d = some t
    · subst hdt
      rw [lk_putE_same] at hy
      simp only [Option.some.injEq] at hy
      subst hy
      have : t < n := Nat.le_of_ble_eq_true hd
      rw [eval_put_same (by have := H.size; omega)]; exact r
    · rw [lk_putE_ne v e hdt] at hy
      have := (H.env t y hy).stab fun b hb => x.im hb
      cases d with
      | none => exact this
      | some d => rw [eval_put_ne (fun q => hdt (by rw [q]))]; exact this
  heap := x.heap
  ext := ⟨x.os.trans H.ext.os, x.tape.trans H.ext.tape, x.output.trans H.ext.output, Nat.le_trans H.ext.size x.size, fun k hk hK => by
    rw [← H.ext.block k hk hK]
    by_cases hc : w'.heap[k]? = w.heap[k]?
    · exact hc
    · rcases x.own k (Nat.lt_of_lt_of_le hk H.ext.size) hc with q | q
      · exact absurd q hK
      · omega⟩

/-- A step that makes or writes memory of the call's own: what it yields and leaves is one of R. -/
def MStep (C : Cx) (n : Nat) (o : Oper) (e : Env) (h : Heap) (R : A → Heap → Prop) : Prop :=
  ∀ a w, Conc C n e h a w → Yields C.P o a w fun u w' => ∃ v h', R v h' ∧ Chg C h h' w w' ∧ Rel (Im w' h') w' v u

theorem j_mut {R : A → Heap → Prop} (hg : o.guard = none) (hm : MStep C n o e h R) (hd : dOk n o.dst = true) (hj : ∀ v h', R v h' → J false C n l os Q (putE o.dst v e) h') : J false C n l (o :: os) Q e h :=
  j_of_jw (by simp [wantE, hg]) (by
    unfold JW
    intro a w hc
    refine (hm a w hc).wp fun u w' ⟨v, h', h1, h2, h3⟩ => ?_
    have := hj v h' h1
    unfold J at this
    exact this _ _ (hc.putM h2 hd h3))

theorem heapOk_cons {w w' : World} (H : HeapOk h w) {T room : Nat} {vs rest : List Value} {cs : List A} (hx : Ext [] w w') (hw : w'.heap[w.heap.size]? = some (.cells (vs ++ rest).toArray T (0, 0))) (hr : RelL (Im w h) w cs vs) (hroom : room ≤ (vs ++ rest).length) :
    HeapOk (⟨some w.heap.size, T, room, cs⟩ :: h) w' := by
  have im : ∀ b, Im w h b → Im w' (⟨some w.heap.size, T, room, cs⟩ :: h) b ∧ w'.heap[b]? = w.heap[b]? := fun b hb =>
    ⟨⟨Nat.lt_of_lt_of_le hb.1 hx.size, by
      simp only [keys, List.filterMap_cons, List.mem_cons, not_or]
      exact ⟨by have := hb.1; omega, hb.2⟩⟩, hx.block b hb.1 (by simp)⟩
  refine ⟨?_, fun k hk => ?_⟩
  · simp only [keys, List.filterMap_cons, List.nodup_cons]
    exact ⟨fun hm => absurd (H.lt hm) (Nat.lt_irrefl _), H.nodup⟩
  · rcases List.mem_cons.1 hk with rfl | hk
    · exact ⟨vs, rest, hw, hr.stab im, hroom⟩
    · exact (H.blk k hk).stab im fun b hb => hx.block b (H.lt (mem_keys hk hb)) (by simp)

/-- A new block of the call's own. -/
theorem chg_new {a : Act} {w w' : World} (H : Conc C n e h a w) {T room : Nat} {vs rest : List Value} {cs : List A} (hx : Ext [] w w') (hw : w'.heap[w.heap.size]? = some (.cells (vs ++ rest).toArray T (0, 0))) (hr : RelL (Im w h) w cs vs) (hroom : room ≤ (vs ++ rest).length) :
    Chg C h (⟨some w.heap.size, T, room, cs⟩ :: h) w w' :=
  ⟨hx.os, hx.tape, hx.output, hx.size, fun k hk _ => hx.block k hk (by simp), fun k hk hne => absurd (hx.block k hk (by simp)) hne, fun b hb => by
    simp only [keys, List.filterMap_cons, List.mem_cons] at hb
    rcases hb with rfl | hb
    · exact .inr (Nat.le_refl _)
    · exact .inl hb, heapOk_cons H.heap hx hw hr hroom⟩

/-- A block b of which nothing is known but that it is new. -/
def NewB (C : Cx) (h : Heap) (b : Nat) : Prop := b ∉ keys h ∧ C.w0.heap.size ≤ b

theorem newB_size {a : Act} {w : World} (H : Conc C n e h a w) : NewB C h w.heap.size := ⟨fun hm => absurd (H.heap.lt hm) (Nat.lt_irrefl _), H.ext.size⟩

/-- A variable of the call's own: 'var x T'. -/
theorem alloc_step {T bytes : Nat} {z : Value} {zk : List ZK} (ho : o.op = .alloc T) (hz : ZeroOk C.P T z bytes) (hzc : z.cells = (zk.map ZK.val).toArray) :
    MStep C n o e h fun v h' => ∃ b, NewB C h b ∧ v = .raw (.pointer (some ⟨b, 0, none⟩)) ∧ h' = ⟨some b, T, zk.length, zk.map ZK.a⟩ :: h := by
  intro a w hc
  have hrun : (execOp a.eval o).run C.P w = .ok (.value (.pointer (some ⟨w.heap.size, 0, none⟩))) (w.alloc (.cells (zk.map ZK.val).toArray T)) := by
    have := run_zero hz w
    simp [execOp, ho, Instr.alloc, newVar, newRow, this, hzc]
  unfold Yields
  rw [hrun]
  refine ⟨_, _, ⟨w.heap.size, newB_size hc, rfl, rfl⟩, chg_new hc (vs := zk.map ZK.val) (rest := []) (Ext.alloc w _) (by rw [heap_new]; simp) ?_ (by simp), .raw _⟩
  exact ⟨by simp, fun j hj hj' => by simpa using ZK.rel _ _ _⟩

theorem j_alloc {T bytes dd : Nat} {zk : List ZK} (hg : o.guard = none) (ho : o.op = .alloc T) (hz : C.zt T = some (zk, bytes)) (hd : o.dst = some dd) (hn : Nat.blt dd n = true)
    (hj : ∀ b, NewB C h b → J false C n l os Q ((dd, .raw (.pointer (some ⟨b, 0, none⟩))) :: e) (⟨some b, T, zk.length, zk.map ZK.a⟩ :: h)) : J false C n l (o :: os) Q e h := by
  obtain ⟨z, hz1, hz2⟩ := C.zok _ _ _ hz
  exact j_mut hg (alloc_step ho hz1 hz2) (by rw [hd]; exact hn) fun v h' ⟨b, h1, h2, h3⟩ => by rw [hd, h2, h3]; exact hj b h1

/-- 'make([]E, m)'. -/
theorem make_step {T E esz sz bytes m : Nat} {z : Value} {zk : List ZK} {x y : Operand} (ho : o.op = .makeSlice T x y) (hT : C.ty T = some ⟨sz, .slice E esz⟩) (hx : evO e x = some (.int (m : Int))) (hy : evO e y = some (.int (m : Int)))
    (hz : ZeroOk C.P E z bytes) (hzc : z.cells = (zk.map ZK.val).toArray) (hzl : zk.length = esz) (hz0 : 0 < esz) (hm : bytes * m ≤ 281474976710656) :
    MStep C n o e h fun v h' => ∃ b, NewB C h b ∧ v = .raw (.slice (some ⟨b, 0, none⟩) m m) ∧ h' = ⟨some b, E, m * esz, (List.replicate m (zk.map ZK.a)).flatten⟩ :: h := by
  intro a w hc
  have hti := C.ok _ _ hT
  simp only [TIok, Bool.and_eq_true] at hti
  obtain ⟨hu, hes⟩ := und_slice hti.2
  obtain ⟨e1, r1⟩ := (hc.env.ev hx).int_inv
  obtain ⟨e2, _⟩ := (hc.env.ev hy).int_inv
  have hs := run_sizeOf hes w
  have hzv := run_zero hz w
  obtain ⟨i, hi, hib⟩ := run_info_bytes hz w
  have hw : IntKind.i64.wrap (m : Int) = m := wrap64_of r1
  have hmap : (Array.range (m * esz)).map ((zk.map ZK.val).toArray[· % esz]!) = ((List.replicate m (zk.map ZK.val)).flatten).toArray := by
    apply Array.ext'
    simp only [Array.toList_map, Array.toList_range, List.toList_toArray]
    apply List.ext_getElem?
    intro j
    by_cases hj : j < m * esz
    · have hlen : ((List.replicate m (zk.map ZK.val)).flatten).length = m * esz := by simp [hzl]
      rw [List.getElem?_map, List.getElem?_range hj]
      simp only [Option.map_some]
      rw [List.getElem?_eq_getElem (by omega)]
      have hmod : j % esz < zk.length := by rw [hzl]; exact Nat.mod_lt _ hz0
      have : ∀ (q : Nat) (j : Nat) (hj : j < q * esz), ((List.replicate q (zk.map ZK.val)).flatten)[j]? = (zk.map ZK.val)[j % esz]? := by
        intro q
        induction q with
        | zero => intro j hj; omega
        | succ q ih =>
          intro j hj
          rw [List.replicate_succ, List.flatten_cons, List.getElem?_append]
          simp only [List.length_map, hzl]
          split
          · rename_i hlt; rw [Nat.mod_eq_of_lt hlt]
          · rename_i hge
            rw [ih (j - esz) (by rw [Nat.succ_mul] at hj; omega)]
            have : j % esz = (j - esz) % esz := Nat.mod_eq_sub_mod (by omega)
            rw [this]
      have h3 := this m j hj
      rw [List.getElem?_eq_getElem (by omega)] at h3
      rw [h3]
      simp [hmod]
    · rw [List.getElem?_eq_none (by simp; omega), List.getElem?_eq_none (by simp [hzl]; omega)]
  have hrun : (execOp a.eval o).run C.P w = .ok (.value (.slice (some ⟨w.heap.size, 0, none⟩) m m)) (w.alloc (.cells ((List.replicate m (zk.map ZK.val)).flatten).toArray E)) := by
    have h1 : ¬ ((m : Int) < 0) := by omega
    have h2 : ¬ ((bytes : Int) * (m : Int) > 2 ^ 48) := by
      have : ((bytes * m : Nat) : Int) ≤ 281474976710656 := by omega
      push_cast at this
      omega
    have hsize : (zk.map ZK.val).toArray.size = esz := by simp [hzl]
    simp only [execOp, ho, e1, e2, Instr.makeSlice, Sem.run_bind, run_underlying hu, Result.andThen_ok, asInt, asIntOf, Sem.run_pure, hi, hib, hw, h1, h2, decide_false, Bool.false_or, Bool.or_false, Bool.false_eq_true, if_false, run_askRoom, hs, Int.lt_irrefl, gt_iff_lt, Int.toNat_natCast]
    by_cases hm0 : m * esz = 0
    · have : m = 0 := by
        rcases Nat.mul_eq_zero.1 hm0 with q | q
        · exact q
        · omega
      subst this
      have hr0 : Array.range 0 = #[] := by apply Array.ext'; simp
      simp [newRow, hr0]
    · simp only [hm0, if_false, Sem.run_bind, hzv, Result.andThen_ok, Sem.run_pure, hzc, hsize, hmap]
      simp [newRow]
  unfold Yields
  rw [hrun]
  refine ⟨_, _, ⟨w.heap.size, newB_size hc, rfl, rfl⟩, chg_new hc (vs := (List.replicate m (zk.map ZK.val)).flatten) (rest := []) (Ext.alloc w _) (by rw [heap_new]; simp) ?_ (by simp [hzl]), .raw _⟩
  have : ∀ q, RelL (Im w h) w ((List.replicate q (zk.map ZK.a)).flatten) ((List.replicate q (zk.map ZK.val)).flatten) := by
    intro q
    induction q with
    | zero => exact RelL.nil
    | succ q ih =>
      simp only [List.replicate_succ, List.flatten_cons]
      exact RelL.append ⟨by simp, fun j hj hj' => by simpa using ZK.rel _ _ _⟩ ih
  exact this m

theorem j_make {T E esz sz bytes m dd : Nat} {zk : List ZK} {x y : Operand} (hg : o.guard = none) (ho : o.op = .makeSlice T x y) (hT : C.ty T = some ⟨sz, .slice E esz⟩) (hx : evO e x = some (.int (m : Int))) (hy : evO e y = some (.int (m : Int)))
    (hz : C.zt E = some (zk, bytes)) (hzl : zk.length = esz) (hz0 : Nat.blt 0 esz = true) (hm : bytes * m ≤ 281474976710656) (hd : o.dst = some dd) (hn : Nat.blt dd n = true)
    (hj : ∀ b, NewB C h b → J false C n l os Q ((dd, .raw (.slice (some ⟨b, 0, none⟩) m m)) :: e) (⟨some b, E, m * esz, (List.replicate m (zk.map ZK.a)).flatten⟩ :: h)) : J false C n l (o :: os) Q e h := by
  obtain ⟨z, hz1, hz2⟩ := C.zok _ _ _ hz
  exact j_mut hg (make_step ho hT hx hy hz1 hz2 hzl (Nat.le_of_ble_eq_true hz0) hm) (by rw [hd]; exact hn) fun v h' ⟨b, h1, h2, h3⟩ => by rw [hd, h2, h3]; exact hj b h1

theorem keys_set {h : Heap} {i T T' room room' : Nat} {b : Option Nat} {cs cs' : List A} (hi : h[i]? = some ⟨b, T, room, cs⟩) : keys (h.set i ⟨b, T', room', cs'⟩) = keys h := by
  unfold keys
  induction h generalizing i with
  | nil => simp at hi
  | cons k h ih =>
    cases i with
    | zero => simp only [List.getElem?_cons_zero, Option.some.injEq] at hi; subst hi; simp [List.filterMap_cons]
    | succ i => simp only [List.getElem?_cons_succ] at hi; simp only [List.set_cons_succ, List.filterMap_cons]; rw [ih hi]

theorem keys_ne {h : Heap} (hn : (keys h).Nodup) : ∀ {i j : Nat} {k q : Blk} {b : Nat}, h[i]? = some k → h[j]? = some q → i ≠ j → k.b = some b → q.b ≠ some b := by
  induction h with
  | nil => intro i j k q b hi; simp at hi
  | cons x h ih =>
    have hn' : (keys h).Nodup := hn.sublist ((List.sublist_cons_self x h).filterMap _)
    intro i j k q b hi hj hij hk hq
    cases i with
    | zero =>
      cases j with
      | zero => exact hij rfl
      | succ j =>
        simp only [List.getElem?_cons_zero, Option.some.injEq] at hi
        subst hi
        have : b ∈ keys h := mem_keys (List.mem_of_getElem? (by simpa using hj)) hq
        simp only [keys, List.filterMap_cons, hk, List.nodup_cons] at hn
        exact hn.1 this
    | succ i =>
      cases j with
      | zero =>
        simp only [List.getElem?_cons_zero, Option.some.injEq] at hj
        subst hj
        have : b ∈ keys h := mem_keys (List.mem_of_getElem? (by simpa using hi)) hk
        simp only [keys, List.filterMap_cons, hq, List.nodup_cons] at hn
        exact hn.1 this
      | succ j => exact ih hn' (by simpa using hi) (by simpa using hj) (by omega) hk hq

/-! #### A zero value told as a read-only one -/
/-- What is told by each of as is told by each of bs. -/
def Casts : List A → List A → Prop
  | [], [] => True
  | a :: as, b :: bs => (∀ S w v, Rel S w a v → Rel S w b v) ∧ Casts as bs
  | _, _ => False
theorem Casts.refl : ∀ as : List A, Casts as as
  | [] => trivial
  | _ :: as => ⟨fun _ _ _ r => r, Casts.refl as⟩
theorem Casts.rel {S : Nat → Prop} {w : World} : ∀ {as bs : List A} {vs : List Value}, Casts as bs → RelL S w as vs → RelL S w bs vs
  | [], [], _, _, r => r
  | a :: as, b :: bs, vs, ⟨h1, h2⟩, r => by
    obtain ⟨v, us, rfl, r1, r2⟩ := r.uncons
    exact RelL.cons (h1 _ _ _ r1) (Casts.rel h2 r2)
  | [], _ :: _, _, h, _ => h.elim
  | _ :: _, [], _, h, _ => h.elim
theorem Casts.append : ∀ {as bs cs ds : List A}, Casts as bs → Casts cs ds → Casts (as ++ cs) (bs ++ ds)
  | [], [], _, _, _, h => h
  | _ :: _, _ :: _, _, _, ⟨h1, h2⟩, h => ⟨h1, Casts.append h2 h⟩
  | [], _ :: _, _, _, h, _ => h.elim
  | _ :: _, [], _, _, h, _ => h.elim
def ZK.i : ZK → A
  | .slice => .sl []
  | z => z.a
theorem zk_casts : ∀ zk : List ZK, Casts (zk.map ZK.a) (zk.map ZK.i)
  | [] => trivial
  | z :: zk => ⟨fun S w v r => by
      cases z with
      | slice => cases r.raw_inv; exact .nil _ _
      | _ => exact r, zk_casts zk⟩
theorem zk_casts_rep (zk : List ZK) : ∀ m, Casts ((List.replicate m (zk.map ZK.a)).flatten) ((List.replicate m (zk.map ZK.i)).flatten)
  | 0 => trivial
  | m + 1 => by simp only [List.replicate_succ, List.flatten_cons]; exact (zk_casts zk).append (zk_casts_rep zk m)

theorem view_cast (i : Nat) {b T room : Nat} {cs cs' : List A} (hi : h[i]? = some ⟨some b, T, room, cs⟩) (hc : Casts cs cs') (hset : h' = h.set i ⟨some b, T, room, cs'⟩) : View e h e h' := fun C n a w H => by
  subst hset
  have hk := keys_set (T' := T) (room' := room) (cs' := cs') hi
  have im : ∀ q, Im w h q → Im w (h.set i ⟨some b, T, room, cs'⟩) q ∧ w.heap[q]? = w.heap[q]? := fun q hq => ⟨⟨hq.1, by rw [hk]; exact hq.2⟩, rfl⟩
  refine ⟨H.defers, H.size, fun t v hv => (H.env t v hv).stab im, ⟨by rw [hk]; exact H.heap.nodup, fun q hq => ?_⟩, H.ext⟩
  obtain ⟨j, hj⟩ := List.getElem?_of_mem hq
  by_cases hij : i = j
  · subst hij
    rw [List.getElem?_set_self (List.getElem?_eq_some_iff.1 hi).1] at hj
    simp only [Option.some.injEq] at hj
    subst hj
    obtain ⟨vs, rest, h1, h2, h3⟩ := H.heap.at (List.mem_of_getElem? hi)
    exact ⟨vs, rest, h1, hc.rel (h2.stab im), h3⟩
  · rw [List.getElem?_set_ne hij] at hj
    exact (H.heap.blk q (List.mem_of_getElem? hj)).stab im fun _ _ => rfl

theorem j_view {e' : Env} (v : View e h e' h') (hj : J false C n l os Q e' h') : J false C n l os Q e h := by
  unfold J at *
  exact fun a w hc => hj a w (v _ _ _ _ hc)

theorem j_makeI {α : Type} {f : α → List A} (y0 : α) {T E esz sz bytes m dd : Nat} {zk : List ZK} {x y : Operand} (hg : o.guard = none) (ho : o.op = .makeSlice T x y) (hT : C.ty T = some ⟨sz, .slice E esz⟩) (hx : evO e x = some (.int (m : Int))) (hy : evO e y = some (.int (m : Int)))
    (hz : C.zt E = some (zk, bytes)) (hf : zk.map ZK.i = f y0) (hzl : zk.length = esz) (hz0 : Nat.blt 0 esz = true) (hm : bytes * m ≤ 281474976710656) (hd : o.dst = some dd) (hn : Nat.blt dd n = true)
    (hj : ∀ b, NewB C h b → J false C n l os Q ((dd, .raw (.slice (some ⟨b, 0, none⟩) m m)) :: e) (⟨some b, E, m * esz, ((List.replicate m y0).map f).flatten⟩ :: h)) : J false C n l (o :: os) Q e h :=
  j_make hg ho hT hx hy hz hzl hz0 hm hd hn fun b nb => j_view (view_cast 0 rfl (zk_casts_rep zk m) rfl) (by
    have := hj b nb
    rw [List.map_replicate, ← hf] at this
    exact this)

theorem j_allocI {α : Type} {f : α → List A} (y0 : α) {T bytes dd : Nat} {zk : List ZK} (hg : o.guard = none) (ho : o.op = .alloc T) (hz : C.zt T = some (zk, bytes)) (hf : zk.map ZK.i = f y0) (hd : o.dst = some dd) (hn : Nat.blt dd n = true)
    (hj : ∀ b, NewB C h b → J false C n l os Q ((dd, .raw (.pointer (some ⟨b, 0, none⟩))) :: e) (⟨some b, T, zk.length, f y0⟩ :: h)) : J false C n l (o :: os) Q e h :=
  j_alloc hg ho hz hd hn fun b nb => j_view (view_cast 0 rfl (zk_casts zk) rfl) (by rw [hf]; exact hj b nb)

/-! #### Places -/
theorem midx_quiet {T z E sz b off ln cap : Nat} {x i : Operand} {k : Int} (ho : o.op = .indexAddr T x i) (hT : C.ty T = some ⟨sz, .slice E z⟩) (hx : evO e x = some (.raw (.slice (some ⟨b, off, none⟩) ln cap))) (hi : evO e i = some (.int k))
    (h0 : 0 ≤ k) (h1 : k < ln) : Quiet C.P o e h (.raw (.pointer (some ⟨b, off + k.toNat * z, none⟩))) := by
  apply Quiet.of_same
  intro a w hs
  have hops := hs.ops
  rw [ho] at hops
  have hti := C.ok _ _ hT
  simp only [TIok, Bool.and_eq_true] at hti
  have e1 := (hops x (by simp [Op.operands]) _ hx).raw_inv
  obtain ⟨e2, _⟩ := (hops i (by simp [Op.operands]) _ hi).int_inv
  have hrun := run_indexAt (P := C.P) hti.2 (b := b) (off := off) (ln := ln) (cap := cap) (k := k) h0 h1 w
  refine ⟨.pointer (some ⟨b, off + k.toNat * z, none⟩), ?_, .raw _⟩
  simp only [execOp, ho, e1, e2]
  rw [Sem.run_bind, hrun]; rfl

/-- 's[m]', s memory of the call's own. -/
theorem j_midx {d : Bool} {T z E sz b off ln cap m dd : Nat} {x i : Operand} (hw : wantE l e o = some true) (ho : o.op = .indexAddr T x i) (hT : C.ty T = some ⟨sz, .slice E z⟩) (hx : evO e x = some (.raw (.slice (some ⟨b, off, none⟩) ln cap)))
    (hi : evO e i = some (.int (m : Int))) (hm : m < ln) (hd : o.dst = some dd) (hn : Nat.blt dd n = true)
    (hj : J d C n l os Q ((dd, .raw (.pointer (some ⟨b, off + m * z, none⟩))) :: e) h) : J d C n l (o :: os) Q e h :=
  j_quiet hw (midx_quiet ho hT hx hi (by omega) (by omega)) hd hn hj

theorem mload_quiet {T i b p T' room : Nat} {x : Operand} {cs : List A} {v : A} (ho : o.op = .load T x) (hx : evO e x = some (.raw (.pointer (some ⟨b, p, none⟩)))) (hi : h[i]? = some ⟨some b, T', room, cs⟩) (hv : loadA C.ty T (cs.drop p) = some v) : Quiet C.P o e h v := by
  apply Quiet.of_same
  intro a w hs
  have hops := hs.ops
  rw [ho] at hops
  have e1 := (hops x (by simp [Op.operands]) _ hx).raw_inv
  obtain ⟨vs, rest, hb, hr, _⟩ := hs.heap.at (List.mem_of_getElem? hi)
  obtain ⟨u, hu, ru⟩ := loadA_cells (P := C.P) C.ok hv (S := Im w h) (w := w) (b := b) (o := p) (V := fun j => vs.getD (p + j) undef) (fun j hj => by
      have hj' : p + j < vs.length := by rw [hr.1]; simp at hj; omega
      rw [cell_of_vs hb (p + j) hj']; simp [hj']) (fun j hj => by
      have hj2 : p + j < cs.length := by simp at hj; omega
      have hj' : p + j < vs.length := by rw [hr.1]; exact hj2
      have := hr.2 (p + j) hj2 hj'
      simpa [hj'] using this)
  exact ⟨u, by simp [execOp, ho, e1, Instr.loadAt, Instr.sureAddr, hu], ru⟩

theorem j_mload {d : Bool} (i : Nat) {T b p T' room dd : Nat} {x : Operand} {cs : List A} {v : A} (hw : wantE l e o = some true) (ho : o.op = .load T x) (hx : evO e x = some (.raw (.pointer (some ⟨b, p, none⟩)))) (hi : h[i]? = some ⟨some b, T', room, cs⟩)
    (hv : loadA C.ty T (cs.drop p) = some v) (hd : o.dst = some dd) (hn : Nat.blt dd n = true) (hj : J d C n l os Q ((dd, v) :: e) h) : J d C n l (o :: os) Q e h :=
  j_quiet hw (mload_quiet ho hx hi hv) hd hn hj

/-! #### Stores -/
def splice {α : Type} (l : List α) (p : Nat) (us : List α) : List α := l.take p ++ us ++ l.drop (p + us.length)

theorem splice_cons {α : Type} {arr : List α} {o i : Nat} (u : α) (us : List α) (h : o + i < arr.length) : splice (arr.set (o + i) u) (o + (i + 1)) us = splice arr (o + i) (u :: us) := by
  unfold splice
  have e1 : (arr.set (o + i) u).take (o + (i + 1)) = arr.take (o + i) ++ [u] := by
    have : o + (i + 1) = o + i + 1 := by omega
    rw [this, List.take_set, List.take_succ_eq_append_getElem h, List.set_append_right _ _ (by simp; omega)]
    simp [Nat.min_eq_left (Nat.le_of_lt h)]
  have e2 : (arr.set (o + i) u).drop (o + (i + 1) + us.length) = arr.drop (o + i + (u :: us).length) := by
    rw [List.drop_set_of_lt (by omega)]
    congr 1
    simp; omega
  rw [e1, e2]; simp

theorem run_storeCells {P : Program} {b o T : Nat} : ∀ (us : List Value) (i : Nat) (w : World) (arr : List Value), (∀ u ∈ us, u.oneCell' = true) → w.heap[b]? = some (.cells arr.toArray T (0, 0)) → o + i + us.length ≤ arr.length →
    ∃ w', (storeCells ⟨b, o, none⟩ us i).run P w = .ok () w' ∧ w'.os = w.os ∧ w'.tape = w.tape ∧ w'.output = w.output ∧ w'.heap.size = w.heap.size ∧ (∀ k, k ≠ b → w'.heap[k]? = w.heap[k]?) ∧
      w'.heap[b]? = some (.cells (splice arr (o + i) us).toArray T (0, 0))
  | [], i, w, arr, _, hb, hle => ⟨w, rfl, rfl, rfl, rfl, rfl, fun _ _ => rfl, by simpa [splice] using hb⟩
  | u :: us, i, w, arr, h1, hb, hle => by
    simp only [List.length_cons] at hle
    have hlt : o + i < arr.length := by omega
    have hcell : w.cell? ⟨b, o + i, none⟩ = some arr[o + i] := by
      rw [cell_of_row _ _ _ _ _ _ hb]; simp [hlt]
    have hfr : w.frozen? ⟨b, o + i, none⟩ = false := frozen_of_row _ _ _ _ _ hb
    have hset : (w.setCell ⟨b, o + i, none⟩ u).heap[b]? = some (.cells (arr.set (o + i) u).toArray T (0, 0)) := by
      rw [heap_setCell_same w b (o + i) arr.toArray T u hb]; simp
    obtain ⟨w', r1, r2, r3, r4, r5, r6, r7⟩ := run_storeCells (P := P) (b := b) (o := o) (T := T) us (i + 1) (w.setCell ⟨b, o + i, none⟩ u) (arr.set (o + i) u) (fun v hv => h1 v (by simp [hv])) hset (by simp; omega)
    refine ⟨w', ?_, r2, r3, r4, by rw [r5]; simp [World.setCell], fun k hk => by rw [r6 k hk]; exact heap_setCell_other _ _ _ _ hk, ?_⟩
    · have hst := run_store P w ⟨b, o + i, none⟩ u .plain (h1 u (by simp))
      simp only [storeCells, addr_add, Sem.run_bind]
      rw [hst]
      simp only [hcell, hfr, Bool.false_eq_true, if_false, Result.andThen_ok]
      exact r1
    · rw [r7]
      congr 3
      exact splice_cons u us hlt

def okCell : A → Bool
  | .agg _ => false
  | .tup _ => false
  | .raw (.agg _) => false
  | .raw (.tuple _) => false
  | _ => true

theorem okCell_one {S : Nat → Prop} {w : World} {a : A} {v : Value} (ha : okCell a = true) (r : Rel S w a v) : v.oneCell' = true := by
  cases r with
  | raw v => cases v <;> first | rfl | (simp [okCell] at ha)
  | agg => simp [okCell] at ha
  | tup => simp [okCell] at ha
  | _ => rfl

theorem RelL.take {S : Nat → Prop} {w : World} {as : List A} {vs : List Value} (h : RelL S w as vs) (k : Nat) : RelL S w (as.take k) (vs.take k) :=
  ⟨by simp [h.1], fun j hj hj' => by
    simp at hj hj'
    have := h.2 j (by omega) (by omega)
    simpa using this⟩
theorem RelL.drop {S : Nat → Prop} {w : World} {as : List A} {vs : List Value} (h : RelL S w as vs) (k : Nat) : RelL S w (as.drop k) (vs.drop k) :=
  ⟨by simp [h.1], fun j hj hj' => by
    simp at hj hj'
    have := h.2 (k + j) (by omega) (by omega)
    simpa using this⟩

/-- Cells p, p + 1, .. of a block of the call's own are written. -/
theorem write_heap {w w' : World} (H : HeapOk h w) {i b T' room p : Nat} {us cs : List A} {vs : List Value} {arr : List Value} (hi : h[i]? = some ⟨some b, T', room, cs⟩) (hsz : w'.heap.size = w.heap.size) (hother : ∀ k, k ≠ b → w'.heap[k]? = w.heap[k]?)
    (harr : w.heap[b]? = some (.cells arr.toArray T' (0, 0))) (hnew : w'.heap[b]? = some (.cells (splice arr p vs).toArray T' (0, 0))) (hrel : RelL (Im w h) w us vs) (hle : p ≤ cs.length) (hfit : p + us.length ≤ arr.length) (hroom : room ≤ arr.length) :
    HeapOk (h.set i ⟨some b, T', room, splice cs p us⟩) w' ∧ ∀ q, Im w h q → Im w' (h.set i ⟨some b, T', room, splice cs p us⟩) q ∧ w'.heap[q]? = w.heap[q]? := by
  have hmem := List.mem_of_getElem? hi
  obtain ⟨bs, rest, hb, hr, _⟩ := H.at hmem
  have harr' : arr = bs ++ rest := by
    rw [hb] at harr
    simp only [Option.some.injEq, Obj.cells.injEq] at harr
    have := harr.1
    simpa using this.symm
  have hkeys := keys_set (T' := T') (room' := room) (cs' := splice cs p us) hi
  have hbk : b ∈ keys h := mem_keys hmem rfl
  have im : ∀ q, Im w h q → Im w' (h.set i ⟨some b, T', room, splice cs p us⟩) q ∧ w'.heap[q]? = w.heap[q]? := fun q hq =>
    ⟨⟨by rw [hsz]; exact hq.1, by rw [hkeys]; exact hq.2⟩, hother q (fun hqb => hq.2 (by rw [hqb]; exact hbk))⟩
  refine ⟨⟨by rw [hkeys]; exact H.nodup, fun q hq => ?_⟩, im⟩
  obtain ⟨j, hj⟩ := List.getElem?_of_mem hq
  by_cases hij : i = j
  · subst hij
    rw [List.getElem?_set_self (List.getElem?_eq_some_iff.1 hi).1] at hj
    simp only [Option.some.injEq] at hj
    subst hj
    have hbl : bs.length = cs.length := hr.1
    have hvl : vs.length = us.length := hrel.1
    -- what is known behind: the cells of cs from p + us.length on
    refine ⟨splice bs p vs, arr.drop (max (p + us.length) cs.length), ?_, ?_, ?_⟩
    · simp only
      rw [hnew]
      congr 2
      rw [harr']
      unfold splice
      rw [List.take_append_of_le_length (by omega), hvl]
      by_cases hc : p + us.length ≤ cs.length
      · rw [Nat.max_eq_right hc, List.drop_append_of_le_length (by omega), ← hbl, List.drop_append_of_le_length (Nat.le_refl _)]
        simp
      · have hd : bs.drop (p + us.length) = [] := List.drop_of_length_le (by omega)
        rw [Nat.max_eq_left (by omega), hd]
        simp
    · unfold splice
      rw [hvl]
      exact ((RelL.append (hr.take p) hrel).append (hr.drop _)).stab im
    · simp only [List.length_append, List.length_drop]
      unfold splice
      simp only [List.length_append, List.length_take, List.length_drop]
      by_cases hc : p + us.length ≤ cs.length
      · rw [Nat.max_eq_right hc]; omega
      · rw [Nat.max_eq_left (by omega)]; omega
  · rw [List.getElem?_set_ne hij] at hj
    refine (H.blk q (List.mem_of_getElem? hj)).stab im fun b' hb' => hother b' fun hbb => ?_
    subst hbb
    exact keys_ne H.nodup hi hj hij rfl hb'

theorem store_step {T i b p T' room sz : Nat} {k : TK} {x y : Operand} {v : A} {us cs : List A} (ho : o.op = .store T x y) (hT : C.ty T = some ⟨sz, k⟩) (hx : evO e x = some (.raw (.pointer (some ⟨b, p, none⟩)))) (hi : h[i]? = some ⟨some b, T', room, cs⟩)
    (hy : evO e y = some v) (hc : cellsA v = some us) (hok : us.all okCell = true) (hus : us.length = sz) (hle : p + us.length ≤ cs.length) (hown : b ∈ C.K0 ∨ C.w0.heap.size ≤ b) :
    MStep C n o e h fun u h' => u = .raw undef ∧ h' = h.set i ⟨some b, T', room, splice cs p us⟩ := by
  intro a w hcc
  have hti := C.ok _ _ hT
  simp only [TIok, Bool.and_eq_true] at hti
  have hz := run_sizeOf hti.1 w
  have e1 := (hcc.env.ev hx).raw_inv
  have r := hcc.env.ev hy
  obtain ⟨vs, hv1, hv2⟩ := cellsA_rel hc r
  have hmem := List.mem_of_getElem? hi
  obtain ⟨bs, rest, hb, hr, hroom⟩ := hcc.heap.at hmem
  have hone : ∀ u ∈ vs, u.oneCell' = true := by
    intro u hu
    obtain ⟨j, hj, rfl⟩ := List.mem_iff_getElem.1 hu
    have hj' : j < us.length := by rw [← hv2.1]; exact hj
    exact okCell_one (List.all_eq_true.1 hok _ (List.getElem_mem hj')) (hv2.2 j hj' hj)
  have hvl : vs.length = us.length := hv2.1
  have hbl : bs.length = cs.length := hr.1
  obtain ⟨w', r1, r2, r3, r4, r5, r6, r7⟩ := run_storeCells (P := C.P) (b := b) (o := p) (T := T') vs 0 w (bs ++ rest) hone hb (by simp; omega)
  simp only [Nat.add_zero] at r7
  have hrun : (execOp a.eval o).run C.P w = .ok .skip w' := by
    simp only [execOp, ho, e1, Instr.storeAt, Instr.sureAddr, storeVar, hv1, Sem.run_bind, hz, Sem.run_pure, Result.andThen_ok]
    rw [if_neg (by simp; omega)]
    simp [r1]
  obtain ⟨hok', im⟩ := write_heap hcc.heap hi r5 r6 hb r7 hv2 (by omega) (by simp; omega) hroom
  have hkeys := keys_set (T' := T') (room' := room) (cs' := splice cs p us) hi
  have hbk : b ∈ keys h := mem_keys hmem rfl
  unfold Yields
  rw [hrun]
  refine ⟨_, _, ⟨rfl, rfl⟩, ⟨r2, r3, r4, by rw [r5]; exact Nat.le_refl _, fun q hq hqk => r6 q (fun hqb => hqk (by rw [hqb]; exact hbk)), fun q _ hne => ?_, fun q hq => .inl (by rw [hkeys] at hq; exact hq), hok'⟩, .raw _⟩
  by_cases hqb : q = b
  · subst hqb; exact hown
  · exact absurd (r6 q hqb) hne

/-- '*p = v': cell p of block b. -/
theorem j_store (i : Nat) {T b p T' room sz : Nat} {k : TK} {x y : Operand} {v u : A} {cs : List A} (hg : o.guard = none) (ho : o.op = .store T x y) (hd : o.dst = none) (hT : C.ty T = some ⟨sz, k⟩) (hx : evO e x = some (.raw (.pointer (some ⟨b, p, none⟩))))
    (hi : h[i]? = some ⟨some b, T', room, cs⟩) (hy : evO e y = some v) (hc : cellsA v = some [u]) (hok : okCell u = true) (hus : Nat.beq sz 1 = true) (hle : Nat.blt p cs.length = true) (hown : b ∈ C.K0 ∨ C.w0.heap.size ≤ b)
    (hj : J false C n l os Q e (h.set i ⟨some b, T', room, cs.set p u⟩)) : J false C n l (o :: os) Q e h :=
  have hle : p < cs.length := Nat.le_of_ble_eq_true hle
  j_mut hg (store_step ho hT hx hi hy hc (by simp [hok]) (by simpa using (Nat.eq_of_beq_eq_true hus).symm) (by simp; omega) hown) (by rw [hd]; rfl) fun v h' ⟨_, h2⟩ => by
    rw [hd, h2]
    have : splice cs p [u] = cs.set p u := by
      unfold splice
      rw [List.set_eq_take_append_cons_drop, if_pos hle]
      simp
    rw [this]; exact hj
/-- .. a whole variable. -/
theorem j_storeN (i : Nat) {T b T' room sz : Nat} {k : TK} {x y : Operand} {v : A} {us cs : List A} (hg : o.guard = none) (ho : o.op = .store T x y) (hd : o.dst = none) (hT : C.ty T = some ⟨sz, k⟩) (hx : evO e x = some (.raw (.pointer (some ⟨b, 0, none⟩))))
    (hi : h[i]? = some ⟨some b, T', room, cs⟩) (hy : evO e y = some v) (hc : cellsA v = some us) (hok : us.all okCell = true) (hus : us.length = sz) (hle : us.length = cs.length) (hown : b ∈ C.K0 ∨ C.w0.heap.size ≤ b)
    (hj : J false C n l os Q e (h.set i ⟨some b, T', room, us⟩)) : J false C n l (o :: os) Q e h :=
  j_mut hg (store_step ho hT hx hi hy hc hok hus (by omega) hown) (by rw [hd]; rfl) fun v h' ⟨_, h2⟩ => by
    rw [hd, h2]
    have : splice cs 0 us = us := by unfold splice; simp [hle]
    rw [this]; exact hj

theorem flat_len {α : Type} {f : α → List A} {z : Nat} (hz : ∀ y, (f y).length = z) : ∀ ys : List α, ((ys.map f).flatten).length = ys.length * z
  | [] => by simp
  | y :: ys => by simp only [List.map_cons, List.flatten_cons, List.length_append, flat_len hz ys, hz, List.length_cons, Nat.succ_mul]; omega

theorem flat_splice {α : Type} {f : α → List A} {z : Nat} (hz : ∀ y, (f y).length = z) : ∀ (ys : List α) (m : Nat) (y : α), m < ys.length → splice ((ys.map f).flatten) (m * z) (f y) = ((ys.set m y).map f).flatten
  | [], m, y, hm => absurd hm (Nat.not_lt_zero _)
  | x :: ys, 0, y, _ => by
    unfold splice
    simp only [Nat.zero_mul, List.take_zero, List.nil_append, Nat.zero_add, List.map_cons, List.flatten_cons, List.set_cons_zero, hz]
    rw [← hz x, List.drop_left]
  | x :: ys, m + 1, y, hm => by
    have ih := flat_splice hz ys m y (by simpa using hm)
    unfold splice at *
    simp only [List.map_cons, List.flatten_cons, List.set_cons_succ]
    have e1 : (m + 1) * z = (f x).length + m * z := by rw [hz, Nat.succ_mul]; omega
    rw [e1, List.take_length_add_append, Nat.add_assoc, List.drop_length_add_append, List.append_assoc, List.append_assoc, ← ih]
    simp

/-- 's[m] = v': element m of a list of data by f. -/
theorem j_storeE (i m : Nat) {α : Type} {f : α → List A} {L : List α} (y' : α) {T b p T' room sz : Nat} {k : TK} {x y : Operand} {v : A} (hg : o.guard = none) (ho : o.op = .store T x y) (hd : o.dst = none) (hT : C.ty T = some ⟨sz, k⟩) (hx : evO e x = some (.raw (.pointer (some ⟨b, p, none⟩))))
    (hi : h[i]? = some ⟨some b, T', room, (L.map f).flatten⟩) (hy : evO e y = some v) (hc : cellsA v = some (f y')) (hok : (f y').all okCell = true) (hz : ∀ y, (f y).length = sz) (hp : p = m * sz) (hm : m < L.length) (hown : b ∈ C.K0 ∨ C.w0.heap.size ≤ b)
    (hj : J false C n l os Q e (h.set i ⟨some b, T', room, ((L.set m y').map f).flatten⟩)) : J false C n l (o :: os) Q e h :=
  have hle : p + (f y').length ≤ ((L.map f).flatten).length := by
    rw [flat_len hz, hz, hp, ← Nat.succ_mul]; exact Nat.mul_le_mul_right _ hm
  j_mut hg (store_step ho hT hx hi hy hc hok (hz y') hle hown) (by rw [hd]; rfl) fun v h' ⟨_, h2⟩ => by
    rw [hd, h2, hp, flat_splice hz L m y' hm]; exact hj

/-! #### What was written is written no more -/
theorem Im.sub {w : World} {h0 : Heap} (hs : h0.Sublist h) {b : Nat} (hb : Im w h b) : Im w h0 b := im_sub hs b hb

theorem HeapOk.sub {w : World} {h0 : Heap} (hs : h0.Sublist h) (H : HeapOk h w) : HeapOk h0 w :=
  ⟨H.nodup.sublist (hs.filterMap _), fun k hk => (H.blk k (hs.subset hk)).stab (fun _ hb => ⟨Im.sub hs hb, rfl⟩) fun _ _ => rfl⟩

theorem erase_not_mem {i b T room : Nat} {cs : List A} (hi : h[i]? = some ⟨some b, T, room, cs⟩) (hn : (keys h).Nodup) : b ∉ keys (h.eraseIdx i) := by
  intro hm
  obtain ⟨k, hk1, hk2⟩ := List.mem_filterMap.1 hm
  obtain ⟨j, hji, hj⟩ := List.mem_eraseIdx_iff_getElem?.1 hk1
  exact keys_ne hn hi hj (Ne.symm hji) rfl hk2

theorem view_erase (i : Nat) : View e h e (h.eraseIdx i) := fun C n a w hc =>
  ⟨hc.defers, hc.size, fun t v hv => (hc.env t v hv).heap (List.eraseIdx_sublist _ _), hc.heap.sub (List.eraseIdx_sublist _ _), hc.ext⟩

theorem view_sub {h0 : Heap} (hs : h0.Sublist h) : View e h e h0 := fun C n a w hc => ⟨hc.defers, hc.size, fun t v hv => (hc.env t v hv).heap hs, hc.heap.sub hs, hc.ext⟩
theorem loopQ_nextD {σ : Type} {I : σ → Env} {H : σ → Heap} {G : σ → Prop} {μ : σ → Nat} {s : σ} {Q : Exit → Env → Heap → Prop} (s' : σ) (h1 : G s') (h2 : μ s' < μ s) (h3 : (H s').Sublist h) (h4 : EnvLe e (I s')) : loopQ I H G μ s Q .normal e h :=
  loopQ_view (view_sub h3) (loopQ_next s' h1 h2 rfl h4)

theorem conc_cons {a : Act} {w : World} (hc : Conc C n e h a w) {t : Nat} {v : A} (r : Rel (Im w h) w v (a.eval (.tmp t))) : Conc C n ((t, v) :: e) h a w :=
  ⟨hc.defers, hc.size, fun s u hu => by
    by_cases hst : t = s
    · subst hst; rw [lk_cons_eq] at hu; simp only [Option.some.injEq] at hu; subst hu; exact r
    · rw [lk_cons_ne _ _ hst] at hu; exact hc.env s u hu, hc.heap, hc.ext⟩

theorem flat_get {α : Type} {f : α → List A} {z : Nat} : ∀ (ys : List α) (i j : Nat) (hi : i < ys.length) (hj : j < (f ys[i]).length), (∀ y, (f y).length = z) → ((ys.map f).flatten)[i * z + j]? = some ((f ys[i])[j])
  | [], i, j, hi, _, _ => absurd hi (Nat.not_lt_zero _)
  | y :: ys, i, j, hi, hj, hz => by
    simp only [List.map_cons, List.flatten_cons]
    cases i with
    | zero =>
      simp only [Nat.zero_mul, Nat.zero_add]
      have hj' : j < (f y).length := hj
      rw [List.getElem?_append_left hj', List.getElem?_eq_getElem hj']; rfl
    | succ i =>
      have e1 : (i + 1) * z + j = (f y).length + (i * z + j) := by rw [hz, Nat.succ_mul]; omega
      rw [e1, List.getElem?_append_right (by omega)]
      have e2 : (f y).length + (i * z + j) - (f y).length = i * z + j := by omega
      rw [e2]
      exact flat_get ys i j (by simpa using hi) hj hz

/-- A slice over the whole of a block of the call's own, read only from here on. -/
theorem view_freeze {α : Type} {f : α → List A} {ys : List α} {z : Nat} (i t : Nat) {b T room cap : Nat} {cs : List A} (ht : lk e t = some (.raw (.slice (some ⟨b, 0, none⟩) ys.length cap))) (hi : h[i]? = some ⟨some b, T, room, cs⟩) (hcs : cs = (ys.map f).flatten)
    (hz : ∀ y, (f y).length = z) (hcap : ys.length ≤ cap) (hlen : ys.length ≤ maxLn) : View e h ((t, .sl (ys.map f)) :: e) (h.eraseIdx i) := fun C n a w hc => by
  have hsub := List.eraseIdx_sublist h i
  have hc' := view_erase (e := e) (h := h) i C n a w hc
  refine conc_cons hc' ?_
  have e1 : a.eval (.tmp t) = .slice (some ⟨b, 0, none⟩) ys.length cap := (hc.env t _ ht).raw_inv
  rw [e1]
  have hmem := List.mem_of_getElem? hi
  obtain ⟨vs, rest, hb, hr, _⟩ := hc.heap.at hmem
  rw [hcs] at hr
  have hlt := hc.heap.lt (mem_keys hmem rfl)
  have hvl : vs.length = ys.length * z := by rw [hr.1, flat_len hz]
  have bound : ∀ i j, i < ys.length → j < z → i * z + j < ys.length * z := fun i j h1 h2 => by
    have : (i + 1) * z ≤ ys.length * z := Nat.mul_le_mul_right z h1
    rw [Nat.succ_mul] at this; omega
  have key : Rel (Im w (h.eraseIdx i)) w (.sl (ys.map f)) (.slice (some ⟨b, 0, none⟩) (ys.map f).length cap) := by
    refine .sl _ b 0 cap z (fun i j => vs.getD (i * z + j) undef) ⟨hlt, erase_not_mem hi hc.heap.nodup⟩ (by simpa using hlen) (by simpa using hcap) (fun i hi => by simpa using hz _) (fun i j hi hj => ?_) (fun i j hi hj => ?_)
    · simp at hi
      have hv : i * z + j < vs.length := by rw [hvl]; exact bound i j hi hj
      rw [Nat.zero_add, cell_of_vs hb _ hv]; simp [hv]
    · simp at hi hj
      have hj' : j < z := by rw [← hz ys[i]]; exact hj
      have hv : i * z + j < vs.length := by rw [hvl]; exact bound i j hi hj'
      obtain ⟨u, hu1, hu2⟩ := hr.get (flat_get ys i j hi hj hz)
      have : vs.getD (i * z + j) undef = u := by simp [hu1]
      rw [this]
      simpa using hu2.heap hsub
  simpa using key

/-- A variable of the call's own, written no more. -/
theorem view_freezeP (i t : Nat) {b T room : Nat} {cs : List A} (ht : lk e t = some (.raw (.pointer (some ⟨b, 0, none⟩)))) (hi : h[i]? = some ⟨some b, T, room, cs⟩) : View e h ((t, .ip cs) :: e) (h.eraseIdx i) := fun C n a w hc => by
  have hsub := List.eraseIdx_sublist h i
  have hc' := view_erase (e := e) (h := h) i C n a w hc
  refine conc_cons hc' ?_
  have e1 : a.eval (.tmp t) = .pointer (some ⟨b, 0, none⟩) := (hc.env t _ ht).raw_inv
  rw [e1]
  have hmem := List.mem_of_getElem? hi
  obtain ⟨vs, rest, hb, hr, _⟩ := hc.heap.at hmem
  refine .ip cs b 0 (fun j => vs.getD j undef) ⟨hc.heap.lt (mem_keys hmem rfl), erase_not_mem hi hc.heap.nodup⟩ (fun j hj => ?_) (fun j hj => ?_)
  · have hj' : j < vs.length := by rw [hr.1]; exact hj
    rw [Nat.zero_add, cell_of_vs hb j hj']; simp [hj']
  · have hj' : j < vs.length := by rw [hr.1]; exact hj
    have := (hr.2 j hj hj').heap hsub
    simpa [hj'] using this

theorem end_cellM {ty : Nat → Option TI} {p T b T' room : Nat} {cs : List A} {u v : A} {h0 : Heap} {x : Exit} (hp : lk e p = some (.raw (.pointer (some ⟨b, 0, none⟩)))) (i : Nat) (hi : h[i]? = some ⟨some b, T', room, cs⟩) (hv : loadA ty T cs = some u) (hs : h0.Sublist h) (huv : u = v) (hx : x = .ret ∨ x = .normal) :
    endQ ty #[.cell p T] v h0 x e h := end_ret hs (vs := [u]) (.cons (.cellM hp (List.mem_of_getElem? hi) hv) .nil) huv hx

theorem sub1 {a : Blk} {h0 : Heap} : h0.Sublist (a :: h0) := List.sublist_cons_self _ _
theorem sub2 {a b : Blk} {h0 : Heap} : h0.Sublist (a :: b :: h0) := (List.sublist_cons_self _ _).trans (List.sublist_cons_self _ _)
theorem sub3 {a b c : Blk} {h0 : Heap} : h0.Sublist (a :: b :: c :: h0) := sub2.trans (List.sublist_cons_self _ _)
end
theorem rb {b c : Bool} (h : b = c) : A.raw (.bool b) = A.raw (.bool c) := by rw [h]
theorem rbT {p : Prop} [Decidable p] (h : p) : A.raw (.bool true) = A.raw (.bool (dec p)) := rb (dec_t h).symm
theorem rbF {p : Prop} [Decidable p] (h : ¬p) : A.raw (.bool false) = A.raw (.bool (dec p)) := rb (dec_f h).symm
theorem all_step {m k : Nat} {p : ∀ i, i < m → Prop} (g : ∀ i (h : i < m), i < k → p i h) (hn : ∀ h : k < m, p k h) : ∀ i (h : i < m), i < k + 1 → p i h := fun i h hi => by
  rcases Nat.lt_or_eq_of_le (Nat.le_of_lt_succ hi) with h1 | rfl
  · exact g i h h1
  · exact hn h
theorem ai {b c : Int} (h : b = c) : A.int b = A.int c := by rw [h]
theorem take_rep_set {α : Type} {l : List α} {k : Nat} (hk : k < l.length) (z : α) : (l.take k ++ List.replicate (l.length - k) z).set k l[k] = l.take (k + 1) ++ List.replicate (l.length - (k + 1)) z := by
  have e1 : l.length - k = (l.length - (k + 1)) + 1 := by omega
  have e2 : k - (l.take k).length = 0 := by rw [List.length_take]; omega
  rw [e1, List.replicate_succ, List.set_append_right _ _ (by rw [List.length_take]; omega), e2, List.set_cons_zero, List.take_succ_eq_append_getElem hk, List.append_assoc]
  rfl
theorem take_eq_succ {α : Type} {a b : List α} {k : Nat} (h : a.take k = b.take k) (ha : k < a.length) (hb : k < b.length) (hx : a[k] = b[k]) : a.take (k + 1) = b.take (k + 1) := by
  rw [List.take_succ_eq_append_getElem ha, List.take_succ_eq_append_getElem hb, h, hx]
end Go.AI
