/-
  More rules of the walk over plain data: places in a slice, lengths, boxes, picks.
-/
import Derived.Test.YtlllmhjpcdcoiaaZRun
import Derived.Laws.BytesString
namespace Go.AI
open Go.RowKit

section
variable {C : Cx} {n : Nat} {Q : Exit → Env → Heap → Prop} {e : Env} {h : Heap} {d : Bool} {l os : List Oper} {o : Oper} {f : Fl} {fs : List Fl} {B : List (Nat × Blk)}

theorem run_indexAt {P : Program} {T E z : Nat} (hT : TKok P T (.slice E z) = true) {b off ln cap : Nat} {k : Int} (h0 : 0 ≤ k) (h1 : k < ln) (w : World) :
    (Instr.indexAt T (.slice (some ⟨b, off, none⟩) ln cap) (.int .i64 k)).run P w = .ok (.pointer (some ⟨b, off + k.toNat * z, none⟩)) w := by
  obtain ⟨hu, hz⟩ := und_slice hT
  have hs := run_sizeOf hz w
  simp [Instr.indexAt, asIntOf, underlying, hu, h0, h1, hs, addr_add]

theorem idx_quiet {T z E sz : Nat} {x i : Operand} {xs : List (List A)} {k : Int} {v : List A} (ho : o.op = .indexAddr T x i) (hT : C.ty T = some ⟨sz, .slice E z⟩) (hx : evO e x = some (.sl xs)) (hi : evO e i = some (.int k))
    (h0 : 0 ≤ k) (hv : xs[k.toNat]? = some v) (hvz : v.length = z) : Quiet C.P o e h (.ip v) := by
  apply Quiet.of_same
  intro a w hs
  have hops := hs.ops
  rw [ho] at hops
  have hti := C.ok _ _ hT
  simp only [TIok, Bool.and_eq_true] at hti
  obtain ⟨hk, hkv⟩ := List.getElem?_eq_some_iff.1 hv
  obtain ⟨p, cap, e1, hl, hcap, hne⟩ := (hops x (by simp [Op.operands]) _ hx).sl_inv
  obtain ⟨b, off, sz', V, rfl, hS, hsz, hc, hr⟩ := hne (by intro hh; rw [hh] at hk; simp at hk)
  obtain ⟨e2, _⟩ := (hops i (by simp [Op.operands]) _ hi).int_inv
  have hszz : sz' = z := by rw [← hsz k.toNat hk, hkv]; exact hvz
  subst hszz
  have hrun := run_indexAt (P := C.P) hti.2 (b := b) (off := off) (ln := xs.length) (cap := cap) (k := k) h0 (by omega) w
  refine ⟨.pointer (some ⟨b, off + k.toNat * sz', none⟩), ?_, ?_⟩
  · simp only [execOp, ho, e1, e2]
    rw [Sem.run_bind, hrun]; rfl
  · refine .ip v b (off + k.toNat * sz') (V k.toNat) hS (fun j hj => ?_) (fun j hj => ?_)
    · rw [Nat.add_assoc]; exact hc k.toNat j hk (by omega)
    · have := hr k.toNat j hk (by rw [hkv]; exact hj)
      simpa [hkv] using this

/-- 's[m]', s a list of data by f, m a counter. -/
theorem j_idx {α : Type} {g : α → List A} {ys : List α} {T z E sz m dd : Nat} {x i : Operand} (hw : wantE l e o = some true) (ho : o.op = .indexAddr T x i) (hT : C.ty T = some ⟨sz, .slice E z⟩) (hx : evO e x = some (.sl (ys.map g)))
    (hi : evO e i = some (.int (m : Int))) (hm : m < ys.length) (hz : (g ys[m]).length = z) (hd : o.dst = some dd) (hn : Nat.blt dd n = true)
    (hj : J d C n l os Q ((dd, .ip (g ys[m])) :: e) h) : J d C n l (o :: os) Q e h :=
  j_quiet hw (fun _ => idx_quiet ho hT hx hi (by omega) (v := g ys[m]) (by simp [hm]) hz) hd hn hj
/-- .. at an index that is a number. -/
theorem j_idxz {α : Type} {g : α → List A} {ys : List α} {T z E sz dd : Nat} {x i : Operand} {k : Int} (hw : wantE l e o = some true) (ho : o.op = .indexAddr T x i) (hT : C.ty T = some ⟨sz, .slice E z⟩) (hx : evO e x = some (.sl (ys.map g)))
    (hi : evO e i = some (.int k)) (hm : 0 ≤ k ∧ k.toNat < ys.length) (hz : (g ys[k.toNat]).length = z) (hd : o.dst = some dd) (hn : Nat.blt dd n = true)
    (hj : J d C n l os Q ((dd, .ip (g ys[k.toNat])) :: e) h) : J d C n l (o :: os) Q e h :=
  j_quiet hw (fun _ => idx_quiet ho hT hx hi hm.1 (v := g ys[k.toNat]) (by simp [hm.2]) hz) hd hn hj
/-- 'len(s)', s a list of data by f. -/
theorem j_len {α : Type} {g : α → List A} {ys : List α} {t sz E z dd : Nat} {x : Operand} (hw : wantE l e o = some true) (ho : o.op = .call ⟨.builtin .len, #[x], #[t]⟩) (hT : C.ty t = some ⟨sz, .slice E z⟩) (hx : evO e x = some (.sl (ys.map g)))
    (hd : o.dst = some dd) (hn : Nat.blt dd n = true) (hj : J d C n l os Q ((dd, .int ys.length) :: e) h) : J d C n l (o :: os) Q e h :=
  j_op hw (v := .int ys.length) (by rw [ho]; simp [opVal, hT, hx, lenA]) hd hn hj
/-- 's[m]', s a list of data by f, m a counter. -/
theorem j_idxO {α : Type} {g : α → List A} {ys : List α} {T z E sz m dd : Nat} {x i : Operand} (hw : wantE l e o = some true) (ho : o.op = .indexAddr T x i) (hT : C.ty T = some ⟨sz, .slice E z⟩) (hx : evO e x = some (.sl (ys.map g)))
    (hi : evO e i = some (.int (m : Int))) (hm : m < ys.length) (hz : (g ys[m]).length = z) (hd : o.dst = some dd) (hn : Nat.blt dd n = true)
    (hj : JO fs B C n l os Q ((dd, .ip (g ys[m])) :: e) h) : JO (f :: fs) B C n l (o :: os) Q e h :=
  j_quietO hw (fun _ => idx_quiet ho hT hx hi (by omega) (v := g ys[m]) (by simp [hm]) hz) hd hn hj
/-- The cells of a variable that holds this. -/
def cellsA : A → Option (List A)
  | .agg cs => some cs
  | .tup _ => none
  | .raw (.bool b) => some [.raw (.bool b)]
  | .raw (.string b) => some [.raw (.string b)]
  | .raw (.slice p m c) => some [.raw (.slice p m c)]
  | .raw (.pointer p) => some [.raw (.pointer p)]
  | .raw (.int k n) => some [.raw (.int k n)]
  | .raw _ => none
  | .any _ => none
  | a => some [a]

theorem cellsA_rel {S : Nat → Prop} {w : World} {a : A} {cs : List A} (hc : cellsA a = some cs) {v : Value} (r : Rel S w a v) : ∃ vs : List Value, v.cells = vs.toArray ∧ RelL S w cs vs := by
  cases a with
  | agg cs' => simp only [cellsA, Option.some.injEq] at hc; subst hc; obtain ⟨vs, rfl, h2⟩ := r.agg_inv; exact ⟨vs, rfl, h2⟩
  | tup _ => simp [cellsA] at hc
  | any _ => simp [cellsA] at hc
  | raw u =>
    obtain rfl := r.raw_inv
    cases v <;> simp only [cellsA, Option.some.injEq] at hc <;> first | (cases hc; done) | (subst hc; exact ⟨[_], rfl, RelL.cons r RelL.nil⟩)
  | int n => simp only [cellsA, Option.some.injEq] at hc; subst hc; obtain ⟨rfl, _⟩ := r.int_inv; exact ⟨[_], rfl, RelL.cons r RelL.nil⟩
  | str s => simp only [cellsA, Option.some.injEq] at hc; subst hc; obtain ⟨rfl, _⟩ := r.str_inv; exact ⟨[_], rfl, RelL.cons r RelL.nil⟩
  | u8 c => simp only [cellsA, Option.some.injEq] at hc; subst hc; obtain rfl := r.u8_inv; exact ⟨[_], rfl, RelL.cons r RelL.nil⟩
  | os b n c => simp only [cellsA, Option.some.injEq] at hc; subst hc; obtain ⟨a, rfl, _⟩ := r.os_len; exact ⟨[_], rfl, RelL.cons r RelL.nil⟩
  | op b o => simp only [cellsA, Option.some.injEq] at hc; subst hc; obtain rfl := r.op_inv; exact ⟨[_], rfl, RelL.cons r RelL.nil⟩
  | sl xs => simp only [cellsA, Option.some.injEq] at hc; subst hc; obtain ⟨p, c, rfl, _⟩ := r.sl_inv; exact ⟨[_], rfl, RelL.cons r RelL.nil⟩
  | ip cs' => simp only [cellsA, Option.some.injEq] at hc; subst hc; obtain ⟨b, off, V, rfl, _⟩ := r.ip_inv; exact ⟨[_], rfl, RelL.cons r RelL.nil⟩
  | fn g cs' => simp only [cellsA, Option.some.injEq] at hc; subst hc; obtain ⟨vs, rfl, _⟩ := r.fn_inv; exact ⟨[_], rfl, RelL.cons r RelL.nil⟩

theorem heap_new (w : World) (o : Obj) : (w.alloc o).heap[w.heap.size]? = some o := heap_alloc_new w o

theorem box_quiet {T : Nat} {x : Operand} {v : A} {cs : List A} (ho : o.op = .box T x) (hx : evO e x = some v) (hc : cellsA v = some cs) : Quiet C.P o e h (.ip cs) := by
  intro a w hs
  have hops := hs.ops
  rw [ho] at hops
  have r := hops x (by simp [Op.operands]) _ hx
  obtain ⟨vs, e1, rl⟩ := cellsA_rel hc r
  have hrun : (execOp a.eval o).run C.P w = .ok (.value (.pointer (some ⟨w.heap.size, 0, none⟩))) (w.alloc (.cells vs.toArray T)) := by
    simp [execOp, ho, Instr.box, newVar, newRow, e1]
  unfold Yields
  rw [hrun]
  have hext := Ext.alloc w (.cells vs.toArray T)
  refine ⟨Chg.ofExt hs.heap hext, ?_⟩
  have rl' := rl.ext hext (h := h)
  have hnew : (w.alloc (.cells vs.toArray T)).heap[w.heap.size]? = some (.cells (vs ++ []).toArray T (0, 0)) := by rw [heap_new]; simp
  refine .ip cs w.heap.size 0 (fun j => vs.getD j undef) ⟨by simp, fun hk => ?_⟩ (fun j hj => ?_) (fun j hj => ?_)
  · exact absurd (hs.heap.lt hk) (Nat.lt_irrefl _)
  · have hj' : j < vs.length := by rw [rl.1]; exact hj
    rw [Nat.zero_add, cell_of_vs hnew j hj']; simp [hj']
  · have hj' : j < vs.length := by rw [rl.1]; exact hj
    have := rl'.2 j hj hj'
    simpa [hj'] using this

/-! #### Structs and rows that are written out -/
/-- us in the place of the cells from off on. -/
def putC : List A → Nat → List A → List A
  | cs, 0, us => us ++ cs.drop us.length
  | c :: cs, k + 1, us => c :: putC cs k us
  | [], _ + 1, _ => []
def fillA (e : Env) (place : Nat → Option (Nat × Nat)) : List (Nat × Operand) → List A → Option (List A)
  | [], cs => some cs
  | (i, x) :: r, cs => match place i, evO e x with
    | some (off, sz), some v => match cellsA v with
      | some us => bif Nat.beq us.length sz && Nat.ble (off + sz) cs.length then fillA e place r (putC cs off us) else none
      | none => none
    | _, _ => none

theorem putC_rel {S : Nat → Prop} {w : World} : ∀ {cs us : List A} {vs xs : List Value} {off : Nat}, RelL S w cs vs → RelL S w us xs → off + us.length ≤ cs.length → RelL S w (putC cs off us) (vs.take off ++ xs ++ vs.drop (off + xs.length))
  | cs, us, vs, xs, 0, hc, hu, h => by
    simp only [putC, List.take_zero, List.nil_append, Nat.zero_add]
    rw [hu.1]
    refine RelL.append hu ⟨by simp [hc.1], fun j hj hj' => ?_⟩
    simp at hj hj'
    have := hc.2 (us.length + j) (by omega) (by omega)
    simpa using this
  | c :: cs, us, vs, xs, k + 1, hc, hu, h => by
    obtain ⟨v, vs', rfl, h1, h2⟩ := hc.uncons
    have ih := putC_rel (off := k) h2 hu (by simp at h; omega)
    have e1 : k + 1 + xs.length = (k + xs.length) + 1 := by omega
    simp only [putC, List.take_succ_cons, List.cons_append, e1, List.drop_succ_cons]
    exact RelL.cons h1 ih
  | [], _, _, _, _ + 1, _, _, h => by simp at h

theorem fold_set (vs : List Value) (off : Nat) : ∀ (xs : List Value) (k : Nat) (arr : Array Value), arr = (vs.take off ++ xs.take k ++ vs.drop (off + k)).toArray → off + xs.length ≤ vs.length → k ≤ xs.length →
    ((xs.drop k).zipIdx k).foldl (fun cs (c, j) => cs.setIfInBounds (off + j) c) arr = (vs.take off ++ xs ++ vs.drop (off + xs.length)).toArray := by
  intro xs k
  induction hm : xs.length - k generalizing k with
  | zero =>
    intro arr harr hle hk
    have : k = xs.length := by omega
    subst this
    simp [harr]
  | succ m ih =>
    intro arr harr hle hk
    have hlt : k < xs.length := by omega
    rw [List.drop_eq_getElem_cons hlt, List.zipIdx_cons, List.foldl_cons]
    refine ih (k + 1) (by omega) _ ?_ hle (by omega)
    subst harr
    apply Array.ext'
    simp only [Array.toList_setIfInBounds, List.toList_toArray]
    have e1 : (vs.take off).length = off := by simp; omega
    have e2 : (xs.take k).length = k := by simp; omega
    have e3 : vs.drop (off + k) = vs[off + k]'(by omega) :: vs.drop (off + (k + 1)) := by
      rw [List.drop_eq_getElem_cons (by omega)]; rfl
    rw [e3, List.set_append_right _ _ (by simp; omega)]
    have e4 : off + k - (vs.take off ++ xs.take k).length = 0 := by simp; omega
    rw [e4, List.set_cons_zero]
    have e5 : xs.take (k + 1) = xs.take k ++ [xs[k]] := List.take_succ_eq_append_getElem hlt
    rw [e5]
    simp only [List.append_assoc, List.cons_append, List.nil_append]

theorem fill_run {S : Nat → Prop} {w : World} {a : Act} {place place' : Nat → Option (Nat × Nat)} (hpl : ∀ i p, place i = some p → place' i = some p) : ∀ (ps : List (Nat × Operand)) (cs cs' : List A) (vs : List Value),
    (∀ p ∈ ps, ∀ v, evO e p.2 = some v → Rel S w v (a.eval p.2)) → fillA e place ps cs = some cs' → RelL S w cs vs →
    ∃ vs' : List Value, Instr.fill place' vs.toArray (ps.map fun p => (p.1, a.eval p.2)) = some vs'.toArray ∧ RelL S w cs' vs'
  | [], cs, cs', vs, _, hf, hr => by
    simp only [fillA, Option.some.injEq] at hf
    subst hf
    exact ⟨vs, rfl, hr⟩
  | (i, x) :: ps, cs, cs', vs, hx, hf, hr => by
    simp only [fillA] at hf
    split at hf
    · rename_i off sz v hp hv
      split at hf
      · rename_i us hu
        cases hb : (Nat.beq us.length sz && Nat.ble (off + sz) cs.length) with
        | false => rw [hb] at hf; cases hf
        | true =>
          rw [hb] at hf
          simp only [cond_true] at hf
          simp only [Bool.and_eq_true] at hb
          have h1 : us.length = sz := Nat.eq_of_beq_eq_true hb.1
          have h2 : off + sz ≤ cs.length := Nat.le_of_ble_eq_true hb.2
          have r := hx (i, x) (by simp) v hv
          obtain ⟨xs, e1, rl⟩ := cellsA_rel hu r
          have hlx : xs.length = sz := by rw [rl.1, h1]
          have hlv : vs.length = cs.length := hr.1
          obtain ⟨vs', q1, q2⟩ := fill_run hpl ps (putC cs off us) cs' _ (fun p hp => hx p (by simp [hp])) hf (putC_rel hr rl (by omega))
          refine ⟨vs', ?_, q2⟩
          simp only [List.map_cons, Instr.fill, hpl i _ hp, e1, List.size_toArray, hlx, ne_eq, not_true_eq_false, decide_false, Bool.false_or]
          rw [if_neg (by simp; omega)]
          rw [← q1]
          congr 1
          have := fold_set vs off xs 0 vs.toArray (by simp) (by omega) (by omega)
          rw [← Array.foldl_toList]
          simpa using this
      · cases hf
    · cases hf

/-- The cells of parts 0, 1, .. of a row of elements of so many cells. -/
def rowsA (e : Env) (esz : Nat) : Nat → List (Nat × Operand) → Option (List (List A))
  | _, [] => some []
  | k, (i, x) :: r => match evO e x, rowsA e esz (k + 1) r with
    | some v, some us => match cellsA v with
      | some cs => bif Nat.beq i k && Nat.beq cs.length esz then some (cs :: us) else none
      | none => none
    | _, _ => none

theorem rowsA_rel {S : Nat → Prop} {w : World} {a : Act} {esz : Nat} : ∀ (ps : List (Nat × Operand)) (k : Nat) (rows : List (List A)), (∀ p ∈ ps, ∀ v, evO e p.2 = some v → Rel S w v (a.eval p.2)) → rowsA e esz k ps = some rows →
    rows.length = ps.length ∧ (∀ r ∈ rows, r.length = esz) ∧ ∃ vs : List (List Value), vs.length = rows.length ∧ (∀ x ∈ vs, x.length = esz) ∧ RelL S w rows.flatten vs.flatten ∧
      ∀ (i : Nat) (p : Nat × Operand) (x : List Value), ps[i]? = some p → vs[i]? = some x → p.1 = k + i ∧ (a.eval p.2).cells = x.toArray
  | [], k, rows, _, h => by
    simp only [rowsA, Option.some.injEq] at h
    subst h
    exact ⟨rfl, by simp, [], rfl, by simp, RelL.nil, fun i p x hp => by simp at hp⟩
  | (i, x) :: ps, k, rows, hx, h => by
    simp only [rowsA] at h
    split at h
    · rename_i v us hv hus
      split at h
      · rename_i cs hc
        cases hb : (Nat.beq i k && Nat.beq cs.length esz) with
        | false => rw [hb] at h; cases h
        | true =>
          rw [hb] at h
          simp only [cond_true, Option.some.injEq] at h
          subst h
          simp only [Bool.and_eq_true] at hb
          have h1 : i = k := Nat.eq_of_beq_eq_true hb.1
          have h2 : cs.length = esz := Nat.eq_of_beq_eq_true hb.2
          obtain ⟨q1, q2, vs, q3, q4, q5, q6⟩ := rowsA_rel ps (k + 1) us (fun p hp => hx p (by simp [hp])) hus
          obtain ⟨xs, e1, rl⟩ := cellsA_rel hc (hx (i, x) (by simp) v hv)
          refine ⟨by simp [q1], fun r hr => ?_, xs :: vs, by simp [q3], fun y hy => ?_, ?_, fun j p y hp hy => ?_⟩
          · rcases List.mem_cons.1 hr with rfl | hr
            · exact h2
            · exact q2 r hr
          · rcases List.mem_cons.1 hy with rfl | hy
            · rw [rl.1, h2]
            · exact q4 y hy
          · simp only [List.flatten_cons]; exact rl.append q5
          · cases j with
            | zero =>
              simp only [List.getElem?_cons_zero, Option.some.injEq] at hp hy
              subst hp; subst hy
              exact ⟨by simp [h1], e1⟩
            | succ j =>
              obtain ⟨r1, r2⟩ := q6 j p y (by simpa using hp) (by simpa using hy)
              exact ⟨by omega, r2⟩
      · cases h
    · cases h

theorem flat_len_const {α : Type} {z : Nat} : ∀ {vs : List (List α)}, (∀ x ∈ vs, x.length = z) → vs.flatten.length = vs.length * z
  | [], _ => by simp
  | v :: vs, h => by
    rw [List.flatten_cons, List.length_append, h v (by simp), flat_len_const fun x hx => h x (by simp [hx]), List.length_cons, Nat.succ_mul]; omega

/-- Rows of parts, one behind the other: the zeros are written over. -/
theorem fill_rows {esz : Nat} {a : Act} : ∀ (ps : List (Nat × Operand)) (vs : List (List Value)) (k : Nat) (pre zeros : List Value), vs.length = ps.length → (∀ x ∈ vs, x.length = esz) → pre.length = k * esz → zeros.length = ps.length * esz →
    (∀ (i : Nat) (p : Nat × Operand) (x : List Value), ps[i]? = some p → vs[i]? = some x → p.1 = k + i ∧ (a.eval p.2).cells = x.toArray) →
    Instr.fill (fun i => some (i * esz, esz)) (pre ++ zeros).toArray (ps.map fun p => (p.1, a.eval p.2)) = some (pre ++ vs.flatten).toArray
  | [], [], k, pre, zeros, _, _, _, hz, _ => by
    have : zeros = [] := List.eq_nil_of_length_eq_zero (by simpa using hz)
    subst this; simp [Instr.fill]
  | p :: ps, x :: vs, k, pre, zeros, hl, he, hp, hz, hall => by
    obtain ⟨h1, h2⟩ := hall 0 p x rfl rfl
    have hx : x.length = esz := he x (by simp)
    have hz' : zeros.length = esz + ps.length * esz := by rw [hz, List.length_cons, Nat.succ_mul]; omega
    have ih := fill_rows (a := a) ps vs (k + 1) (pre ++ x) (zeros.drop esz) (by simpa using hl) (fun y hy => he y (by simp [hy])) (by rw [List.length_append, hp, hx, Nat.succ_mul]) (by rw [List.length_drop, hz']; exact Nat.add_sub_cancel_left ..) (fun i p' x' hp' hx' => by
      obtain ⟨r1, r2⟩ := hall (i + 1) p' x' (by simpa using hp') (by simpa using hx')
      exact ⟨by omega, r2⟩)
    simp only [List.map_cons, Instr.fill, h2, List.size_toArray, hx, ne_eq, not_true_eq_false, decide_false, Bool.false_or]
    have hb : p.1 * esz + esz ≤ (pre ++ zeros).length := by rw [List.length_append, hp, hz', h1]; simp only [Nat.add_zero]; omega
    rw [if_neg (by simp only [List.size_toArray, gt_iff_lt]; simpa using hb)]
    have hfold := fold_set (pre ++ zeros) (p.1 * esz) x 0 (pre ++ zeros).toArray (by simp) (by rw [hx]; exact hb) (by omega)
    have e1 : p.1 * esz = pre.length := by rw [h1, hp]; simp
    rw [e1] at hfold ⊢
    have hz2 : (pre ++ zeros).drop (pre.length + x.length) = zeros.drop esz := by rw [hx, List.drop_length_add_append]
    rw [List.take_left' rfl, hz2] at hfold
    simp only [List.drop_zero] at hfold
    rw [← Array.foldl_toList]
    have hfold' : List.foldl (fun (cs : Array Value) (x : Value × Nat) => cs.setIfInBounds (pre.length + x.2) x.1) (pre ++ zeros).toArray x.toArray.zipIdx.toList = (pre ++ x ++ zeros.drop esz).toArray := by
      simpa using hfold
    rw [hfold', ih]
    simp
  | [], _ :: _, _, _, _, hl, _, _, _, _ => by simp at hl
  | _ :: _, [], _, _, _, hl, _, _, _, _ => by simp at hl

theorem bsl_run {T E esz sz len bytes : Nat} {zk : List ZK} {parts : Array (Nat × Operand)} {rows : List (List A)} {a : Act} {w : World} (ho : o.op = .buildSlice T len parts) (hT : C.ty T = some ⟨sz, .slice E esz⟩) (hz : C.zt E = some (zk, bytes))
    (hzl : zk.length = esz) (hf : rowsA e esz 0 parts.toList = some rows) (hl : rows.length = len) (hlen : len * esz ≤ 16777216) (hs : Sit e h o a w) :
    ∃ vs : List (List Value), (execOp a.eval o).run C.P w = .ok (.value (.slice (some ⟨w.heap.size, 0, none⟩) len len)) (w.alloc (.cells vs.flatten.toArray E)) ∧ vs.length = rows.length ∧ (∀ x ∈ vs, x.length = esz) ∧ (∀ r ∈ rows, r.length = esz) ∧ RelL (Im w h) w rows.flatten vs.flatten := by
  have hops := hs.ops
  rw [ho] at hops
  have hti := C.ok _ _ hT
  simp only [TIok, Bool.and_eq_true] at hti
  obtain ⟨hu, hes⟩ := und_slice hti.2
  obtain ⟨z, hz1, hz2⟩ := C.zok _ _ _ hz
  have hzr := run_zero hz1 w
  have hsz := run_sizeOf hes w
  obtain ⟨q1, q2, vs, q3, q4, q5, q6⟩ := rowsA_rel (S := Im w h) (w := w) (a := a) (e := e) parts.toList 0 rows (fun p hp v hv => hops p.2 (by simp [Op.operands]; exact ⟨p.1, by simpa using hp⟩) v hv) hf
  refine ⟨vs, ?_, q3, q4, q2, q5⟩
  have hm : (parts.map fun p => (p.1, a.eval p.2)).toList = parts.toList.map fun p => (p.1, a.eval p.2) := by simp
  have hfill : ∀ zs : List Value, zs.length = len * esz → Instr.fill (fun i => some (i * esz, esz)) zs.toArray (parts.toList.map fun p => (p.1, a.eval p.2)) = some vs.flatten.toArray := by
    intro zs hzs
    have := fill_rows (esz := esz) (a := a) parts.toList vs 0 [] zs (by rw [q3, q1]) q4 (by simp) (by rw [hzs, ← hl, q1]) q6
    simpa using this
  by_cases h0 : len * esz = 0
  · have hr0 : Array.range 0 = #[] := by apply Array.ext'; simp
    have hf0 := hfill [] (by simp [h0])
    simp only [execOp, ho, Instr.buildSlice, Sem.run_bind, run_underlying hu, Result.andThen_ok, hsz, h0, if_true, Sem.run_pure, hm]
    rw [if_neg (by omega)]
    simp only [Sem.run_bind, Sem.run_pure, Result.andThen_ok, hr0, Array.map_empty, hf0]
    simp [newRow]
  · simp only [execOp, ho, Instr.buildSlice, Sem.run_bind, run_underlying hu, Result.andThen_ok, hsz, h0, if_false, hzr, Sem.run_pure, hm]
    rw [if_neg (by omega)]
    simp only [Sem.run_bind, Sem.run_pure, Result.andThen_ok, hzr]
    have hf0 := hfill ((Array.range (len * esz)).map (z.cells[· % z.cells.size]!)).toList (by simp)
    simp only [Array.toArray_toList] at hf0
    simp only [hf0]
    simp [newRow]

/-- A row that is written out, written no more. -/
theorem bsl_quiet {T E esz sz len bytes : Nat} {zk : List ZK} {parts : Array (Nat × Operand)} {rows : List (List A)} (ho : o.op = .buildSlice T len parts) (hT : C.ty T = some ⟨sz, .slice E esz⟩) (hz : C.zt E = some (zk, bytes)) (hzl : zk.length = esz)
    (hf : rowsA e esz 0 parts.toList = some rows) (hl : rows.length = len) (hlen : len * esz ≤ 16777216) (hpos : len ≤ len * esz) : Quiet C.P o e h (.sl rows) := by
  intro a w hs
  obtain ⟨vs, hrun, h1, h2, h2', h3⟩ := bsl_run ho hT hz hzl hf hl hlen hs
  unfold Yields
  rw [hrun]
  have hext := Ext.alloc w (.cells vs.flatten.toArray E)
  refine ⟨Chg.ofExt hs.heap hext, ?_⟩
  have r3 := h3.ext hext (h := h)
  have hnew : (w.alloc (.cells vs.flatten.toArray E)).heap[w.heap.size]? = some (.cells (vs.flatten ++ []).toArray E (0, 0)) := by rw [heap_new]; simp
  subst hl
  have hfl : vs.flatten.length = rows.length * esz := by rw [flat_len_const h2, h1]
  have pos : ∀ i j, i < rows.length → j < esz → i * esz + j < rows.length * esz := fun i j hi hj => by
    have : (i + 1) * esz ≤ rows.length * esz := Nat.mul_le_mul_right _ hi
    rw [Nat.succ_mul] at this; omega
  have frow : ∀ (rs : List (List A)), (∀ r ∈ rs, r.length = esz) → ∀ (i j : Nat) (hi : i < rs.length) (hj : j < esz), rs.flatten[i * esz + j]? = (rs[i])[j]? := by
    intro rs
    induction rs with
    | nil => intro _ i j hi; simp at hi
    | cons r rs ih =>
      intro hr i j hi hj
      rw [List.flatten_cons]
      have hrl := hr r (by simp)
      cases i with
      | zero => simp only [Nat.zero_mul, Nat.zero_add, List.getElem_cons_zero]; rw [List.getElem?_append_left (by omega)]
      | succ i =>
        rw [List.getElem?_append_right (by rw [Nat.succ_mul]; omega)]
        have : (i + 1) * esz + j - r.length = i * esz + j := by rw [Nat.succ_mul]; omega
        rw [this]
        simpa using ih (fun x hx => hr x (by simp [hx])) i j (by simpa using hi) hj
  refine .sl rows w.heap.size 0 rows.length esz (fun i j => vs.flatten.getD (i * esz + j) undef) ⟨by simp, fun hk => absurd (hs.heap.lt hk) (Nat.lt_irrefl _)⟩ (by unfold maxLn; omega) (Nat.le_refl _) (fun i hi => h2' _ (List.getElem_mem hi)) (fun i j hi hj => ?_) (fun i j hi hj => ?_)
  · have hj' : i * esz + j < vs.flatten.length := by rw [hfl]; exact pos i j hi hj
    rw [Nat.zero_add, cell_of_vs hnew _ hj', List.getD_eq_getElem?_getD, List.getElem?_eq_getElem hj']; rfl
  · have hje : j < esz := by rw [← h2' _ (List.getElem_mem hi)]; exact hj
    have e1 := frow rows h2' i j hi hje
    rw [List.getElem?_eq_getElem hj] at e1
    obtain ⟨u, hu1, hu2⟩ := r3.get e1
    have : vs.flatten.getD (i * esz + j) undef = u := by simp [hu1]
    rw [this]; exact hu2

/-- '[]E{}': a slice of length and capacity 0. -/
theorem bs0_quiet {T E esz sz : Nat} {parts : Array (Nat × Operand)} (ho : o.op = .buildSlice T 0 parts) (hp : parts.toList = []) (hT : C.ty T = some ⟨sz, .slice E esz⟩) : Quiet C.P o e h (.os none 0 0) := by
  intro a w hs
  have hti := C.ok _ _ hT
  simp only [TIok, Bool.and_eq_true] at hti
  obtain ⟨hu, hes⟩ := und_slice hti.2
  have hsz := run_sizeOf hes w
  have hp' : parts = #[] := by apply Array.ext'; simpa using hp
  have hr0 : Array.range 0 = #[] := by apply Array.ext'; simp
  have hrun : (execOp a.eval o).run C.P w = .ok (.value (.slice (some ⟨w.heap.size, 0, none⟩) 0 0)) (w.alloc (.cells #[] E)) := by
    subst hp'
    simp [execOp, ho, Instr.buildSlice, run_underlying hu, hsz, hr0, newRow, Instr.fill]
  unfold Yields
  rw [hrun]
  exact ⟨Chg.ofExt hs.heap (Ext.alloc w _), .osn _⟩

/-! #### Slices of slices, strings -/
theorem sl_take {S : Nat → Prop} {w : World} {xs : List (List A)} {b : Addr} {cap l k : Nat} (r : Rel S w (.sl xs) (.slice (some b) xs.length cap)) (hl : l ≤ k) (hk : k ≤ xs.length) (z : Nat) (hz : ∀ x ∈ xs, x.length = z) :
    Rel S w (.sl ((xs.take k).drop l)) (.slice (some (if cap = l then b else b.add (l * z))) (k - l) (cap - l)) := by
  have hlen : ((xs.take k).drop l).length = k - l := by simp; omega
  obtain ⟨a, cap', e1, h1, h2, hne⟩ := r.sl_inv
  by_cases h0 : k - l = 0
  · have : (xs.take k).drop l = [] := List.eq_nil_of_length_eq_zero (by omega)
    rw [this, h0]; exact .nil _ _
  · obtain ⟨bb, off, sz, V, hb, hS, hsz, hc, hr⟩ := hne (by intro q; rw [q] at hk; simp at hk; omega)
    simp only [Value.slice.injEq] at e1
    obtain ⟨e2, _, e3⟩ := e1
    subst e3
    rw [← e2] at hb
    simp only [Option.some.injEq] at hb
    subst hb
    have hz' : sz = z := by
      rw [← hsz 0 (by omega)]; exact hz _ (List.getElem_mem _)
    subst hz'
    rw [if_neg (by omega), addr_add]
    have key : Rel S w (.sl ((xs.take k).drop l)) (.slice (some ⟨bb, off + l * sz, none⟩) ((xs.take k).drop l).length (cap - l)) := by
      refine .sl _ bb (off + l * sz) (cap - l) sz (fun i j => V (l + i) j) hS (by omega) (by omega) (fun i hi => ?_) (fun i j hi hj => ?_) (fun i j hi hj => ?_)
      · exact hz _ (List.mem_of_mem_take (List.mem_of_mem_drop (List.getElem_mem hi)))
      · have := hc (l + i) j (by omega) hj
        rw [← this]
        congr 2
        rw [Nat.add_mul]; omega
      · have hi' : l + i < xs.length := by omega
        have e4 : ((xs.take k).drop l)[i] = xs[l + i] := by simp
        have hj' : j < xs[l + i].length := by rw [← e4]; exact hj
        have := hr (l + i) j hi' hj'
        simp only [e4]; exact this
    rw [hlen] at key
    exact key

/-- A bound of a slice. -/
def bndO (e : Env) (d : Int) : Option Operand → Option A
  | none => some (.int d)
  | some x => evO e x
theorem slice_quiet {T E z sz : Nat} {x : Operand} {lo hi : Option Operand} {xs : List (List A)} {l k : Int} (ho : o.op = .slice T x lo hi none) (hT : C.ty T = some ⟨sz, .slice E z⟩) (hx : evO e x = some (.sl xs)) (hlo : bndO e 0 lo = some (.int l)) (hhi : bndO e xs.length hi = some (.int k))
    (h0 : 0 ≤ l) (h1 : l ≤ k) (h2 : k ≤ xs.length) (hz : ∀ x ∈ xs, x.length = z) : Quiet C.P o e h (.sl ((xs.take k.toNat).drop l.toNat)) := by
  apply Quiet.of_same
  intro a w hs
  have hops := hs.ops
  rw [ho] at hops
  have hti := C.ok _ _ hT
  simp only [TIok, Bool.and_eq_true] at hti
  obtain ⟨hu, hes⟩ := und_slice hti.2
  have hsz := run_sizeOf hes w
  have r := hops x (by simp [Op.operands]) _ hx
  obtain ⟨p, cap, e1, hl, hcap, hne⟩ := r.sl_inv
  rw [e1] at r
  have bl : ∀ (q : Operand) (v : Int) (y : Nat) (c : BoundsCode), a.eval q = .int .i64 v → 0 ≤ v → v ≤ y → (Instr.sliceBound (a.eval q) y c).run C.P w = .ok v.toNat w := by
    intro q v y c hq hv hy
    simp [Instr.sliceBound, asIntOf, hq, hv, hy]
  have hbnd : (Instr.sliceBounds true xs.length cap (lo.map a.eval) (hi.map a.eval) none).run C.P w = .ok (l.toNat, k.toNat, cap) w := by
    cases lo with
    | none =>
      simp only [bndO, Option.some.injEq, A.int.injEq] at hlo
      subst hlo
      cases hi with
      | none =>
        simp only [bndO, Option.some.injEq, A.int.injEq] at hhi
        subst hhi
        simp [Instr.sliceBounds]
      | some q =>
        obtain ⟨e3, _⟩ := (hops q (by simp [Op.operands]) _ hhi).int_inv
        have := bl q k cap .sliceAcap e3 (by omega) (by omega)
        simp [Instr.sliceBounds, this]
    | some q1 =>
      obtain ⟨e2, _⟩ := (hops q1 (by simp [Op.operands]) _ hlo).int_inv
      cases hi with
      | none =>
        simp only [bndO, Option.some.injEq, A.int.injEq] at hhi
        subst hhi
        have := bl q1 l xs.length .sliceB e2 h0 h1
        simp [Instr.sliceBounds, this]
      | some q =>
        obtain ⟨e3, _⟩ := (hops q (by simp [Op.operands]) _ hhi).int_inv
        have t1 := bl q k cap .sliceAcap e3 (by omega) (by omega)
        have t2 := bl q1 l k.toNat .sliceB e2 h0 (by omega)
        simp [Instr.sliceBounds, t1, t2]
  have hrun : (execOp a.eval o).run C.P w = .ok (.value (.slice (if cap = l.toNat then p else p.map (·.add (l.toNat * z))) (k.toNat - l.toNat) (cap - l.toNat))) w := by
    simp [execOp, ho, Instr.slice, Instr.sliceAt, run_underlying hu, e1, hbnd, hsz]
  refine ⟨_, hrun, ?_⟩
  cases p with
  | none =>
    have hx0 : xs = [] := by
      by_cases q : xs = []
      · exact q
      · obtain ⟨b, off, sz', V, hb, _⟩ := hne q; cases hb
    subst hx0
    have : k = 0 ∧ l = 0 := by simp at h2; omega
    obtain ⟨rfl, rfl⟩ := this
    simp only [List.take_nil, List.drop_nil]
    exact .nil _ _
  | some b =>
    have := sl_take r (l := l.toNat) (k := k.toNat) (by omega) (by omega) z hz
    split
    · rename_i hcl; rw [if_pos hcl] at this; exact this
    · rename_i hcl; rw [if_neg hcl] at this; exact this

/-! #### Numbers with a side condition -/
theorem rem_quiet {t t2 : Nat} {x y : Operand} {m k : Int} (ho : o.op = .binOp .rem t x y t2) (hx : evO e x = some (.int m)) (hy : evO e y = some (.int k)) (h0 : 0 ≤ m) (h1 : 0 < k) : Quiet C.P o e h (.int (m % k)) := by
  apply Quiet.of_same
  intro a w hs
  have hops := hs.ops
  rw [ho] at hops
  obtain ⟨e1, r1⟩ := (hops x (by simp [Op.operands]) _ hx).int_inv
  obtain ⟨e2, r2⟩ := (hops y (by simp [Op.operands]) _ hy).int_inv
  have hin : InR (m % k) := by
    have h2 : 0 ≤ m % k := Int.emod_nonneg _ (by omega)
    have h3 : m % k < k := Int.emod_lt_of_pos _ h1
    unfold InR at *; omega
  have hk : k ≠ 0 := by omega
  refine ⟨.int .i64 (m % k), ?_, .int _ hin⟩
  simp [execOp, ho, e1, e2, eqGuard, binOp, Op.intDiv, hk, Int.tmod_eq_emod_of_nonneg h0]

theorem j_box {T dd : Nat} {x : Operand} {v : A} {cs : List A} (hw : wantE l e o = some true) (ho : o.op = .box T x) (hx : evO e x = some v) (hc : cellsA v = some cs) (hd : o.dst = some dd) (hn : Nat.blt dd n = true)
    (hj : J d C n l os Q ((dd, .ip cs) :: e) h) : J d C n l (o :: os) Q e h := j_quiet hw (fun _ => box_quiet ho hx hc) hd hn hj
theorem j_bsl {T E esz sz len bytes dd : Nat} {zk : List ZK} {parts : Array (Nat × Operand)} {rows : List (List A)} (hw : wantE l e o = some true) (ho : o.op = .buildSlice T len parts) (hT : C.ty T = some ⟨sz, .slice E esz⟩) (hz : C.zt E = some (zk, bytes)) (hzl : zk.length = esz)
    (hf : rowsA e esz 0 parts.toList = some rows) (hl : rows.length = len) (hlen : Nat.ble (len * esz) 16777216 = true) (hpos : Nat.ble len (len * esz) = true) (hd : o.dst = some dd) (hn : Nat.blt dd n = true) (hj : J d C n l os Q ((dd, .sl rows) :: e) h) : J d C n l (o :: os) Q e h :=
  j_quiet hw (fun _ => bsl_quiet ho hT hz hzl hf hl (Nat.le_of_ble_eq_true hlen) (Nat.le_of_ble_eq_true hpos)) hd hn hj
theorem j_bs0 {T E esz sz dd : Nat} {parts : Array (Nat × Operand)} (hw : wantE l e o = some true) (ho : o.op = .buildSlice T 0 parts) (hp : parts.toList = []) (hT : C.ty T = some ⟨sz, .slice E esz⟩) (hd : o.dst = some dd) (hn : Nat.blt dd n = true)
    (hj : J d C n l os Q ((dd, .os none 0 0) :: e) h) : J d C n l (o :: os) Q e h := j_quiet hw (fun _ => bs0_quiet ho hp hT) hd hn hj
/-- 's[lo:hi]', s a list of data by g. -/
theorem j_slice {α : Type} {g : α → List A} {ys : List α} {T E z sz dd : Nat} {x : Operand} {lo hi : Option Operand} {a b : Int} (hw : wantE l e o = some true) (ho : o.op = .slice T x lo hi none) (hT : C.ty T = some ⟨sz, .slice E z⟩) (hx : evO e x = some (.sl (ys.map g))) (hlo : bndO e 0 lo = some (.int a))
    (hhi : bndO e ((ys.map g).length) hi = some (.int b)) (hb : 0 ≤ a ∧ a ≤ b ∧ b ≤ ys.length) (hz : ∀ y, (g y).length = z) (hd : o.dst = some dd) (hn : Nat.blt dd n = true) (hj : J d C n l os Q ((dd, .sl (((ys.take b.toNat).drop a.toNat).map g)) :: e) h) : J d C n l (o :: os) Q e h :=
  j_quiet hw (v := .sl (((ys.take b.toNat).drop a.toNat).map g)) (fun _ => by
    have := slice_quiet (h := ‹Heap›) ho hT hx hlo hhi hb.1 hb.2.1 (by rw [List.length_map]; exact hb.2.2) (fun r hr => by obtain ⟨y, _, rfl⟩ := List.mem_map.1 hr; exact hz y)
    rw [List.map_drop, List.map_take]; exact this) hd hn hj
theorem j_rem {t t2 dd : Nat} {x y : Operand} {m k : Int} (hw : wantE l e o = some true) (ho : o.op = .binOp .rem t x y t2) (hx : evO e x = some (.int m)) (hy : evO e y = some (.int k)) (hr : 0 ≤ m ∧ 0 < k) (hd : o.dst = some dd) (hn : Nat.blt dd n = true)
    (hj : J d C n l os Q ((dd, .int (m % k)) :: e) h) : J d C n l (o :: os) Q e h := j_quiet hw (fun _ => rem_quiet ho hx hy hr.1 hr.2) hd hn hj
end
end Go.AI
