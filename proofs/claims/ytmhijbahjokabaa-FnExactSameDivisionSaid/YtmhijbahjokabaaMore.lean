/-
  More rules of the walk over plain data: places in a slice, lengths, boxes, picks.
-/
import Derived.Test.YtmhijbahjokabaaRun
namespace Go.AI
open Go.RowKit

section
variable {C : Cx} {n : Nat} {Q : Exit → Env → Heap → Prop} {e : Env} {h : Heap} {d : Bool} {l os : List Oper} {o : Oper}

theorem run_indexAt {P : Program} {T E z : Nat} (hT : TKok P T (.slice E z) = true) {b off ln cap : Nat} {k : Int} (h0 : 0 ≤ k) (h1 : k < ln) (w : World) :
    (Instr.indexAt T (.slice (some ⟨b, off, none⟩) ln cap) (.int .i64 k)).run P w = .ok (.pointer (some ⟨b, off + k.toNat * z, none⟩)) w := by
  obtain ⟨hu, hz⟩ := und_slice hT
  have hs := run_sizeOf hz w
  simp [Instr.indexAt, asIntOf, underlying, hu, h0, h1, hs, addr_add]

theorem idx_quiet {T z E sz : Nat} {x i : Operand} {xs : List (List A)} {k : Int} {v : List A} (ho : o.op = .indexAddr T x i) (hT : C.ty T = some ⟨sz, .slice E z⟩) (hx : evO e x = some (.sl xs)) (hi : evO e i = some (.int k))
    (h0 : 0 ≤ k) (hv : xs[k.toNat]? = some v) (hvz : v.length = z) : Quiet C.P o e h (.ip v) := by
  apply Quiet.of_same
  intro a w hs
  have hops := hs.ops
  rw [ho] at hops
  have hti := C.ok _ _ hT
  simp only [TIok, Bool.and_eq_true] at hti
  obtain ⟨hk, hkv⟩ := List.getElem?_eq_some_iff.1 hv
  obtain ⟨p, cap, e1, hl, hcap, hne⟩ := (hops x (by simp [Op.operands]) _ hx).sl_inv
  obtain ⟨b, off, sz', V, rfl, hS, hsz, hc, hr⟩ := hne (by intro hh; rw [hh] at hk; simp at hk)
  obtain ⟨e2, _⟩ := (hops i (by simp [Op.operands]) _ hi).int_inv
  have hszz : sz' = z := by rw [← hsz k.toNat hk, hkv]; exact hvz
  subst hszz
  have hrun := run_indexAt (P := C.P) hti.2 (b := b) (off := off) (ln := xs.length) (cap := cap) (k := k) h0 (by omega) w
  refine ⟨.pointer (some ⟨b, off + k.toNat * sz', none⟩), ?_, ?_⟩
  · simp only [execOp, ho, e1, e2]
    rw [Sem.run_bind, hrun]; rfl
  · refine .ip v b (off + k.toNat * sz') (V k.toNat) hS (fun j hj => ?_) (fun j hj => ?_)
    · rw [Nat.add_assoc]; exact hc k.toNat j hk (by omega)
    · have := hr k.toNat j hk (by rw [hkv]; exact hj)
      simpa [hkv] using this

/-- 's[m]', s a list of data by f, m a counter. -/
theorem j_idx {α : Type} {f : α → List A} {ys : List α} {T z E sz m dd : Nat} {x i : Operand} (hw : wantE l e o = some true) (ho : o.op = .indexAddr T x i) (hT : C.ty T = some ⟨sz, .slice E z⟩) (hx : evO e x = some (.sl (ys.map f)))
    (hi : evO e i = some (.int (m : Int))) (hm : m < ys.length) (hz : (f ys[m]).length = z) (hd : o.dst = some dd) (hn : Nat.blt dd n = true)
    (hj : J d C n l os Q ((dd, .ip (f ys[m])) :: e) h) : J d C n l (o :: os) Q e h :=
  j_quiet hw (idx_quiet ho hT hx hi (by omega) (v := f ys[m]) (by simp [hm]) hz) hd hn hj
/-- .. at an index that is a number. -/
theorem j_idxz {α : Type} {f : α → List A} {ys : List α} {T z E sz dd : Nat} {x i : Operand} {k : Int} (hw : wantE l e o = some true) (ho : o.op = .indexAddr T x i) (hT : C.ty T = some ⟨sz, .slice E z⟩) (hx : evO e x = some (.sl (ys.map f)))
    (hi : evO e i = some (.int k)) (hm : 0 ≤ k ∧ k.toNat < ys.length) (hz : (f ys[k.toNat]).length = z) (hd : o.dst = some dd) (hn : Nat.blt dd n = true)
    (hj : J d C n l os Q ((dd, .ip (f ys[k.toNat])) :: e) h) : J d C n l (o :: os) Q e h :=
  j_quiet hw (idx_quiet ho hT hx hi hm.1 (v := f ys[k.toNat]) (by simp [hm.2]) hz) hd hn hj

/-- 'len(s)', s a list of data by f. -/
theorem j_len {α : Type} {f : α → List A} {ys : List α} {t sz E z dd : Nat} {x : Operand} (hw : wantE l e o = some true) (ho : o.op = .call ⟨.builtin .len, #[x], #[t]⟩) (hT : C.ty t = some ⟨sz, .slice E z⟩) (hx : evO e x = some (.sl (ys.map f)))
    (hd : o.dst = some dd) (hn : Nat.blt dd n = true) (hj : J d C n l os Q ((dd, .int ys.length) :: e) h) : J d C n l (o :: os) Q e h :=
  j_op hw (v := .int ys.length) (by rw [ho]; simp [opVal, hT, hx, lenA]) hd hn hj

/-- The cells of a variable that holds this. -/
def cellsA : A → Option (List A)
  | .agg cs => some cs
  | .tup _ => none
  | .raw (.bool b) => some [.raw (.bool b)]
  | .raw (.string b) => some [.raw (.string b)]
  | .raw (.slice p m c) => some [.raw (.slice p m c)]
  | .raw (.pointer p) => some [.raw (.pointer p)]
  | .raw _ => none
  | a => some [a]

theorem cellsA_rel {S : Nat → Prop} {w : World} {a : A} {cs : List A} (hc : cellsA a = some cs) {v : Value} (r : Rel S w a v) : ∃ vs : List Value, v.cells = vs.toArray ∧ RelL S w cs vs := by
  unfold cellsA at hc
  split at hc <;> (first | (cases hc; done) | (simp only [Option.some.injEq] at hc; subst hc))
  · obtain ⟨vs, rfl, h2⟩ := r.agg_inv; exact ⟨vs, rfl, h2⟩
  · cases r.raw_inv; exact ⟨[.bool _], rfl, RelL.cons r RelL.nil⟩
  · cases r.raw_inv; exact ⟨[.string _], rfl, RelL.cons r RelL.nil⟩
  · cases r.raw_inv; exact ⟨[.slice _ _ _], rfl, RelL.cons r RelL.nil⟩
  · cases r.raw_inv; exact ⟨[.pointer _], rfl, RelL.cons r RelL.nil⟩
  · rename_i h1 h2 h3 h4 h5 h6 h7
    cases r with
    | raw v => exact absurd rfl (h7 v)
    | int n h => exact ⟨[_], rfl, RelL.cons (.int n h) RelL.nil⟩
    | nil a cap => exact ⟨[_], rfl, RelL.cons (.nil a cap) RelL.nil⟩
    | sl xs b off cap sz V hS hlen hcap hsz hc hr => exact ⟨[_], rfl, RelL.cons (.sl xs b off cap sz V hS hlen hcap hsz hc hr) RelL.nil⟩
    | ip cs b off V hS hc hr => exact ⟨[_], rfl, RelL.cons (.ip cs b off V hS hc hr) RelL.nil⟩
    | agg cs vs hl hr => exact absurd rfl (h1 cs)
    | fn f cs vs hl hr => exact ⟨[_], rfl, RelL.cons (.fn f cs vs hl hr) RelL.nil⟩
    | tup cs vs hl hr => exact absurd rfl (h2 cs)

theorem heap_new (w : World) (o : Obj) : (w.alloc o).heap[w.heap.size]? = some o := heap_alloc_new w o

theorem box_quiet {T : Nat} {x : Operand} {v : A} {cs : List A} (ho : o.op = .box T x) (hx : evO e x = some v) (hc : cellsA v = some cs) : Quiet C.P o e h (.ip cs) := by
  intro a w hs
  have hops := hs.ops
  rw [ho] at hops
  have r := hops x (by simp [Op.operands]) _ hx
  obtain ⟨vs, e1, rl⟩ := cellsA_rel hc r
  have hrun : (execOp a.eval o).run C.P w = .ok (.value (.pointer (some ⟨w.heap.size, 0, none⟩))) (w.alloc (.cells vs.toArray T)) := by
    simp [execOp, ho, Instr.box, newVar, newRow, e1]
  unfold Yields
  rw [hrun]
  have hext := Ext.alloc w (.cells vs.toArray T)
  refine ⟨hext, ?_⟩
  have rl' := rl.ext hext (h := h)
  have hnew : (w.alloc (.cells vs.toArray T)).heap[w.heap.size]? = some (.cells (vs ++ []).toArray T (0, 0)) := by rw [heap_new]; simp
  refine .ip cs w.heap.size 0 (fun j => vs.getD j undef) ⟨by simp, fun hk => ?_⟩ (fun j hj => ?_) (fun j hj => ?_)
  · exact absurd (hs.heap.lt hk) (Nat.lt_irrefl _)
  · have hj' : j < vs.length := by rw [rl.1]; exact hj
    rw [Nat.zero_add, cell_of_vs hnew j hj']; simp [hj']
  · have hj' : j < vs.length := by rw [rl.1]; exact hj
    have := rl'.2 j hj hj'
    simpa [hj'] using this

theorem j_box {T dd : Nat} {x : Operand} {v : A} {cs : List A} (hw : wantE l e o = some true) (ho : o.op = .box T x) (hx : evO e x = some v) (hc : cellsA v = some cs) (hd : o.dst = some dd) (hn : Nat.blt dd n = true)
    (hj : J d C n l os Q ((dd, .ip cs) :: e) h) : J d C n l (o :: os) Q e h := j_quiet hw (box_quiet ho hx hc) hd hn hj

end
end Go.AI
