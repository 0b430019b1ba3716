/-
  A statement whose order Go leaves open: where each operation yields its datum and writes nothing that stood, every order comes to what the order of the text comes to.
-/
import Derived.Test.YtlllmhjpcdcoiaaZOps
namespace Go.AI
open Go.RowKit

/-! ### Zero values -/
inductive ZK where
  | int | bool | str | slice | ptr | byte | fn | u64
def ZK.val : ZK → Value
  | .int => .int .i64 0
  | .bool => .bool false
  | .str => .string ByteArray.empty
  | .slice => .slice none 0 0
  | .ptr => .pointer none
  | .byte => .int .u8 0
  | .fn => .nilFunc
  | .u64 => .int .u64 0
def ZK.a : ZK → A
  | .int => .int 0
  | .bool => .raw (.bool false)
  | .str => .str []
  | .slice => .os none 0 0
  | .ptr => .op none 0
  | .byte => .u8 0
  | .fn => .raw .nilFunc
  | .u64 => .raw (.int .u64 0)
theorem ZK.rel (S : Nat → Prop) (w : World) (z : ZK) : Rel S w z.a z.val := by
  cases z with
  | int => exact .int 0 ⟨by decide, by decide⟩
  | bool => exact .raw _
  | str => exact .str [] (Nat.zero_le _)
  | slice => exact .osn none
  | ptr => exact .op none 0
  | byte => exact .u8 0
  | fn => exact .raw _
  | u64 => exact .raw _

/-- The zero value of type t is z, of so many bytes. -/
def ZeroOk (P : Program) (t : Nat) (z : Value) (bytes : Nat) : Prop := (P.info? t).map (fun i => (i.zero, i.bytes)) = some (some z, bytes)

theorem run_zero {P : Program} {t : Nat} {z : Value} {bytes : Nat} (h : ZeroOk P t z bytes) (w : World) : (zeroValue t).run P w = .ok z w := by
  unfold ZeroOk at h
  cases hi : P.info? t with
  | none => rw [hi] at h; simp at h
  | some i => rw [hi] at h; simp at h; simp [zeroValue, typeInfo, hi, h.1]

theorem run_info_bytes {P : Program} {t : Nat} {z : Value} {bytes : Nat} (h : ZeroOk P t z bytes) (w : World) : ∃ i, (typeInfo t).run P w = .ok i w ∧ i.bytes = bytes := by
  unfold ZeroOk at h
  cases hi : P.info? t with
  | none => rw [hi] at h; simp at h
  | some i => rw [hi] at h; simp at h; exact ⟨i, by simp [typeInfo, hi], h.2⟩

/-- A table of zero values: for each type its cells, and its bytes. -/
def zcell : Value → ZK → Bool
  | .int .i64 n, .int => n == 0
  | .bool b, .bool => !b
  | .string s, .str => s.size == 0
  | .slice none 0 0, .slice => true
  | .pointer none, .ptr => true
  | .int .u8 n, .byte => n == 0
  | .nilFunc, .fn => true
  | .int .u64 n, .u64 => n == 0
  | _, _ => false
theorem zcell_ok {v : Value} {z : ZK} (h : zcell v z = true) : v = z.val := by
  unfold zcell at h
  split at h
  · rename_i n; simp at h; subst h; rfl
  · simp at h; subst h; rfl
  · rename_i s
    have : s = ByteArray.empty := by
      cases s with | mk d => simp [ByteArray.size] at h; subst h; rfl
    subst this; rfl
  · rfl
  · rfl
  · rename_i n; simp at h; subst h; rfl
  · rfl
  · rename_i n; simp at h; subst h; rfl
  · cases h
def zcells : List Value → List ZK → Bool
  | [], [] => true
  | v :: vs, z :: zs => zcell v z && zcells vs zs
  | _, _ => false
theorem zcells_ok : ∀ {vs : List Value} {zs : List ZK}, zcells vs zs = true → vs = zs.map ZK.val
  | [], [], _ => rfl
  | v :: vs, z :: zs, h => by
    simp only [zcells, Bool.and_eq_true] at h
    rw [zcell_ok h.1, zcells_ok h.2]; rfl
  | [], _ :: _, h => by cases h
  | _ :: _, [], h => by cases h
def zOkB (P : Program) (t : Nat) (zk : List ZK) (bytes : Nat) : Bool :=
  match P.info? t with
  | some i => match i.zero with
    | some z => zcells z.cells.toList zk && i.bytes == bytes
    | none => false
  | none => false
def ZtOk (P : Program) (zt : Nat → Option (List ZK × Nat)) : Prop := ∀ t zk bytes, zt t = some (zk, bytes) → ∃ z, ZeroOk P t z bytes ∧ z.cells = (zk.map ZK.val).toArray
def lkZ : List (Nat × (List ZK × Nat)) → Nat → Option (List ZK × Nat)
  | [], _ => none
  | (k, v) :: r, t => bif Nat.beq k t then some v else lkZ r t
theorem ztOk_of_list {P : Program} (l : List (Nat × (List ZK × Nat))) (h : l.all (fun p => zOkB P p.1 p.2.1 p.2.2) = true) : ZtOk P (lkZ l) := by
  intro t zk bytes hi
  have key : zOkB P t zk bytes = true := by
    induction l with
    | nil => simp [lkZ] at hi
    | cons p l ih =>
      obtain ⟨k, v⟩ := p
      simp only [List.all_cons, Bool.and_eq_true] at h
      simp only [lkZ] at hi
      cases hb : Nat.beq k t with
      | true =>
        rw [hb] at hi
        simp only [cond_true, Option.some.injEq] at hi
        subst hi
        rw [← Nat.eq_of_beq_eq_true hb]; exact h.1
      | false => rw [hb] at hi; exact ih h.2 hi
  unfold zOkB at key
  split at key
  · rename_i i hi2
    split at key
    · rename_i z hz
      simp only [Bool.and_eq_true, beq_iff_eq] at key
      refine ⟨z, by unfold ZeroOk; rw [hi2]; simp [hz, key.2], ?_⟩
      apply Array.ext'; simpa using zcells_ok key.1
    · cases key
  · cases key

structure Cx where
  P : Program
  ty : Nat → Option TI
  ok : TyOk P ty
  zt : Nat → Option (List ZK × Nat)
  zok : ZtOk P zt
  mix : P.follows .mixedOrders = true
  w0 : World
  K0 : List Nat
  D : List Deferred

structure Conc (C : Cx) (n : Nat) (e : Env) (h : Heap) (a : Act) (w : World) : Prop where
  defers : a.defers = C.D
  size : n ≤ a.tmps.size
  env : EnvOk e h a w
  heap : HeapOk h w
  ext : Ext C.K0 C.w0 w
  own : ∀ b ∈ keys h, b ∈ C.K0 ∨ C.w0.heap.size ≤ b

def putE (d : Option Nat) (v : A) (e : Env) : Env := match d with | some t => (t, v) :: e | none => e
def dOk (n : Nat) : Option Nat → Bool
  | some d => Nat.blt d n
  | none => true

theorem eval_put_same {a : Act} {d : Nat} {u : Value} (h : d < a.tmps.size) : (a.put (some d) u).eval (.tmp d) = u := by
  simp [Act.put, Act.eval, h]
theorem eval_put_ne {a : Act} {d t : Nat} {u : Value} (h : d ≠ t) : (a.put (some d) u).eval (.tmp t) = a.eval (.tmp t) := by
  simp [Act.put, Act.eval, Array.getElem?_setIfInBounds_ne h]

theorem lk_putE_same (d : Nat) (v : A) (e : Env) : lk (putE (some d) v e) d = some v := lk_cons_eq _ _ _
theorem lk_putE_ne {d : Option Nat} {t : Nat} (v : A) (e : Env) (h : d ≠ some t) : lk (putE d v e) t = lk e t := by
  cases d with
  | none => rfl
  | some d => exact lk_cons_ne v e (fun x => h (by rw [x]))

theorem size_put (a : Act) (d : Option Nat) (u : Value) : (a.put d u).tmps.size = a.tmps.size := by cases d <;> simp [Act.put]
theorem defers_put (a : Act) (d : Option Nat) (u : Value) : (a.put d u).defers = a.defers := by cases d <;> rfl

/-- Behind an operation that makes of h the memory h'. -/
theorem Conc.putM {C : Cx} {n : Nat} {e : Env} {h h' : Heap} {a : Act} {w w' : World} (H : Conc C n e h a w) (x : Chg h h' w w') {d : Option Nat} (hd : dOk n d = true) {v : A} {u : Value} (r : Rel (Im w' h') w' v u) :
    Conc C n (putE d v e) h' (a.put d u) w' where
  defers := by rw [defers_put]; exact H.defers
  size := by rw [size_put]; exact H.size
  env := fun t y hy => by
    by_cases hdt : d = some t
    · subst hdt
      rw [lk_putE_same] at hy
      simp only [Option.some.injEq] at hy
      subst hy
      have : t < n := Nat.le_of_ble_eq_true hd
      rw [eval_put_same (by have := H.size; omega)]; exact r
    · rw [lk_putE_ne v e hdt] at hy
      have := (H.env t y hy).chg x
      cases d with
      | none => exact this
      | some d => rw [eval_put_ne (fun q => hdt (by rw [q]))]; exact this
  heap := x.heap
  ext := ⟨x.os.trans H.ext.os, x.tape.trans H.ext.tape, x.output.trans H.ext.output, Nat.le_trans H.ext.size x.size, fun k hk hK => by
    rw [← H.ext.block k hk hK]
    refine x.block k (Nat.lt_of_lt_of_le hk H.ext.size) fun hkk => ?_
    rcases H.own k hkk with q | q
    · exact hK q
    · omega⟩
  own := fun b hb => by
    rcases x.new b hb with q | q
    · exact H.own b q
    · exact .inr (Nat.le_trans H.ext.size q)

theorem Conc.put {C : Cx} {n : Nat} {e : Env} {h : Heap} {a : Act} {w w' : World} (H : Conc C n e h a w) (x : Chg h h w w') {d : Option Nat} (hd : dOk n d = true) {v : A} {u : Value} (r : Rel (Im w' h) w' v u) :
    Conc C n (putE d v e) h (a.put d u) w' := H.putM x hd r

theorem Conc.drew {C : Cx} {n : Nat} {e : Env} {h : Heap} {a : Act} {w : World} (H : Conc C n e h a w) : Conc C n e h a { w with drawn := w.drawn + 1 } where
  defers := H.defers
  size := H.size
  env := fun t y hy => (H.env t y hy).ext (Ext.drew w)
  heap := H.heap.ext (Ext.drew w)
  ext := H.ext.trans ((Ext.drew w).mono (by simp))
  own := H.own

theorem Conc.sub {C : Cx} {n : Nat} {e e' : Env} {h : Heap} {a : Act} {w : World} (H : Conc C n e h a w) (hs : ∀ t v, lk e' t = some v → lk e t = some v) : Conc C n e' h a w :=
  ⟨H.defers, H.size, fun t v hv => H.env t v (hs t v hv), H.heap, H.ext, H.own⟩

/-- Is the operation wanted? -/
def wantE (l : List Oper) (e : Env) (o : Oper) : Option Bool :=
  match o.guard with
  | none => some true
  | some (j, want) => match (l[j]?).bind (·.dst) with
    | none => none
    | some d => match lk e d with
      | some (.raw (.bool b)) => some (b == want)
      | some (.raw (.tuple _)) => some false
      | _ => none

theorem want_of {l : List Oper} {e : Env} {o : Oper} {b : Bool} {a : Act} {h : Heap} {w : World} (H : ∀ j want d, o.guard = some (j, want) → (l[j]?).bind (·.dst) = some d → ∀ v, lk e d = some v → Rel (Im w h) w v (a.eval (.tmp d)))
    (hw : wantE l e o = some b) : Region.wanted o (yielded l.toArray a.tmps) = b := by
  unfold wantE at hw
  unfold Region.wanted
  split at hw
  · rename_i hg; simp only [Option.some.injEq] at hw; rw [hg, ← hw]
  · rename_i j want hg
    rw [hg]
    split at hw
    · cases hw
    · rename_i d hd
      have hy : yielded l.toArray a.tmps j = match a.tmps[d]? with | some (.bool b) => some b | _ => none := by
        simp only [yielded, List.getElem?_toArray, hd, Option.bind_some]
        rfl
      have hr := H j want d hg hd
      split at hw
      · rename_i c hc
        have e1 := (hr _ hc).raw_inv
        simp only [Option.some.injEq] at hw
        subst hw
        simp only [Act.eval, Array.getD_eq_getD_getElem?] at e1
        cases ht : a.tmps[d]? with
        | none => rw [ht] at e1; simp [undef] at e1
        | some u => rw [ht] at e1; simp at e1; subst e1; simp [hy, ht]
      · rename_i c hc
        have e1 := (hr _ hc).raw_inv
        simp only [Option.some.injEq] at hw
        subst hw
        simp only [Act.eval, Array.getD_eq_getD_getElem?] at e1
        cases ht : a.tmps[d]? with
        | none => simp [hy, ht]
        | some u => rw [ht] at e1; simp at e1; subst e1; simp [hy, ht]
      · cases hw

/-- The walk in the text's order. -/
inductive Lex (P : Program) (n : Nat) (l : List Oper) (h : Heap) : List Oper → Env → Env → Prop
  | nil (e : Env) : Lex P n l h [] e e
  | run {o : Oper} {os : List Oper} {e e' : Env} {v : A} (hw : wantE l e o = some true) (hq : Quiet P o e h v) (hd : dOk n o.dst = true) (t : Lex P n l h os (putE o.dst v e) e') : Lex P n l h (o :: os) e e'
  | skip {o : Oper} {os : List Oper} {e e' : Env} (hw : wantE l e o = some false) (hd : dOk n o.dst = true) (t : Lex P n l h os (putE o.dst (.raw undef) e) e') : Lex P n l h (o :: os) e e'

def StepAt (P : Program) (n : Nat) (l : List Oper) (h : Heap) (o : Oper) (e : Env) (v : A) : Prop :=
  dOk n o.dst = true ∧ ((wantE l e o = some true ∧ Quiet P o e h v) ∨ (wantE l e o = some false ∧ v = .raw undef))

/-- The env behind those of the first m operations that L lists. -/
def Mk (l : List Oper) (V : Nat → A) (e0 : Env) (L : Nat → Bool) : Nat → Env
  | 0 => e0
  | m + 1 => if L m then putE ((l[m]?).bind (·.dst)) (V m) (Mk l V e0 L m) else Mk l V e0 L m

theorem Lex.trace {P : Program} {n : Nat} {l : List Oper} {h : Heap} {os : List Oper} {e e' : Env} (H : Lex P n l h os e e') :
    ∃ V : Nat → A, Mk os V e (fun _ => true) os.length = e' ∧ ∀ i (hi : i < os.length), StepAt P n l h os[i] (Mk os V e (fun _ => true) i) (V i) := by
  have shift : ∀ (o : Oper) (os : List Oper) (v : A) (V : Nat → A) (e : Env) (m : Nat),
      Mk (o :: os) (fun i => match i with | 0 => v | i + 1 => V i) e (fun _ => true) (m + 1) = Mk os V (putE o.dst v e) (fun _ => true) m := by
    intro o os v V e m
    induction m with
    | zero => simp [Mk]
    | succ m ih => rw [Mk, ih]; simp [Mk]
  induction H with
  | nil e => exact ⟨fun _ => .raw undef, rfl, fun i hi => absurd hi (Nat.not_lt_zero _)⟩
  | @run o os e e' v hw hq hd t ih =>
    obtain ⟨V, h1, h2⟩ := ih
    refine ⟨fun i => match i with | 0 => v | i + 1 => V i, by rw [List.length_cons, shift]; exact h1, fun i hi => ?_⟩
    cases i with
    | zero => exact ⟨hd, .inl ⟨hw, hq⟩⟩
    | succ i =>
      rw [shift]
      have := h2 i (by simpa using hi)
      simpa using this
  | @skip o os e e' hw hd t ih =>
    obtain ⟨V, h1, h2⟩ := ih
    refine ⟨fun i => match i with | 0 => .raw undef | i + 1 => V i, by rw [List.length_cons, shift]; exact h1, fun i hi => ?_⟩
    cases i with
    | zero => exact ⟨hd, .inr ⟨hw, rfl⟩⟩
    | succ i =>
      rw [shift]
      have := h2 i (by simpa using hi)
      simpa using this

theorem lk_Mk_agree {l : List Oper} {V : Nat → A} {e0 : Env} {L L' : Nat → Bool} {t : Nat} : ∀ m, (∀ j, j < m → (l[j]?).bind (·.dst) = some t → L j = L' j) → lk (Mk l V e0 L m) t = lk (Mk l V e0 L' m) t
  | 0, _ => rfl
  | m + 1, H => by
    have ih := lk_Mk_agree (l := l) (V := V) (e0 := e0) (L := L) (L' := L') (t := t) m (fun j hj => H j (by omega))
    simp only [Mk]
    by_cases hd : (l[m]?).bind (·.dst) = some t
    · rw [H m (by omega) hd]
      split
      · rw [hd, lk_putE_same, lk_putE_same]
      · exact ih
    · have p : ∀ (b : Bool) (e : Env), lk (if b then putE ((l[m]?).bind (·.dst)) (V m) e else e) t = lk e t := fun b e => by
        split
        · exact lk_putE_ne _ _ hd
        · rfl
      rw [p, p]; exact ih

theorem lk_Mk_stop {l : List Oper} {V : Nat → A} {e0 : Env} {L : Nat → Bool} {t i : Nat} : ∀ m, i ≤ m → (∀ j, i ≤ j → j < m → (l[j]?).bind (·.dst) = some t → L j = false) → lk (Mk l V e0 L m) t = lk (Mk l V e0 L i) t
  | 0, him, _ => by have : i = 0 := by omega
                    subst this; rfl
  | m + 1, him, H => by
    by_cases hi : i = m + 1
    · subst hi; rfl
    · have ih := lk_Mk_stop (l := l) (V := V) (e0 := e0) (L := L) (t := t) (i := i) m (by omega) (fun j h1 h2 => H j h1 (by omega))
      rw [← ih]
      simp only [Mk]
      split
      · rename_i hL
        by_cases hd : (l[m]?).bind (·.dst) = some t
        · have := H m (by omega) (by omega) hd; rw [hL] at this; cases this
        · exact lk_putE_ne _ _ hd
      · rfl

/-! The check of a region -/
def tmpsOf (o : Oper) : List Nat := o.op.operands.toList.filterMap fun | .tmp t => some t | _ => none
def guardSlot (l : List Oper) (o : Oper) : List Nat := match o.guard with | some (j, _) => ((l[j]?).bind (·.dst)).toList | none => []
def slotsOf (l : List Oper) (o : Oper) : List Nat := tmpsOf o ++ guardSlot l o ++ o.dst.toList
def pre (o : Oper) (j : Nat) : Bool := o.after.toList.any fun e => Region.binds .any e && e.on == j
def detOne (l : List Oper) (i : Nat) (o : Oper) : Bool :=
  (o.after.toList.all fun e => !Region.binds .any e || Nat.blt e.on i) &&
  (List.range l.length).all fun j => match l[j]? with
    | none => true
    | some oj => match oj.dst with
      | none => true
      | some t => j == i || !(slotsOf l o).contains t || (if j < i then pre o j else pre oj i)
def detOk (l : List Oper) : Bool := (List.range l.length).all fun i => match l[i]? with | none => true | some o => detOne l i o

theorem detOk_one {l : List Oper} (h : detOk l = true) {i : Nat} {o : Oper} (ho : l[i]? = some o) : detOne l i o = true := by
  have hi := (List.getElem?_eq_some_iff.1 ho).1
  have := List.all_eq_true.1 h i (List.mem_range.2 hi)
  simpa [ho] using this

theorem det_edge {l : List Oper} {i : Nat} {o : Oper} (h : detOne l i o = true) {e : Edge} (he : e ∈ o.after) (hb : Region.binds .any e = true) : e.on < i := by
  simp only [detOne, Bool.and_eq_true] at h
  have := List.all_eq_true.1 h.1 e (by simpa using he)
  simp only [hb, Bool.not_true, Bool.false_or] at this
  exact Nat.le_of_ble_eq_true this

theorem det_pair {l : List Oper} {i : Nat} {o : Oper} (h : detOne l i o = true) {j t : Nat} (hj : (l[j]?).bind (·.dst) = some t) (ht : t ∈ slotsOf l o) (hne : j ≠ i) :
    ∃ oj, l[j]? = some oj ∧ (if j < i then pre o j else pre oj i) = true := by
  simp only [detOne, Bool.and_eq_true] at h
  cases hoj : l[j]? with
  | none => rw [hoj] at hj; cases hj
  | some oj =>
    have hjl := (List.getElem?_eq_some_iff.1 hoj).1
    have := List.all_eq_true.1 h.2 j (List.mem_range.2 hjl)
    rw [hoj] at hj this
    simp only [Option.bind_some] at hj
    simp only [hj] at this
    refine ⟨oj, rfl, ?_⟩
    have h1 : (j == i) = false := by simpa using hne
    have h2 : (slotsOf l o).contains t = true := by simpa using ht
    simp only [h1, h2, Bool.not_true, Bool.false_or] at this
    exact this

theorem pre_spec {o : Oper} {j : Nat} (h : pre o j = true) : ∃ e ∈ o.after, Region.binds .any e = true ∧ e.on = j := by
  unfold pre at h
  obtain ⟨e, he, hb⟩ := List.any_eq_true.1 h
  simp only [Bool.and_eq_true, beq_iff_eq] at hb
  exact ⟨e, by simpa using he, hb.1, hb.2⟩

section
variable {C : Cx} {n : Nat} {l : List Oper} {h : Heap} {V : Nat → A} {e0 : Env} {Q : Exit → Act → World → Prop}

def Lf (listed : Array Bool) (j : Nat) : Bool := listed.getD j true

theorem draw_main (hdet : detOk l = true) (hstep : ∀ i (hi : i < l.length), StepAt C.P n l h l[i] (Mk l V e0 (fun _ => true) i) (V i))
    (hQ : ∀ a w, Conc C n (Mk l V e0 (fun _ => true) l.length) h a w → Q .normal a w) :
    ∀ (fuel : Nat) (listed : Array Bool) (a : Act) (w : World), listed.size = l.length → listed.toList.count false ≤ fuel →
      (∀ i o, l[i]? = some o → Lf listed i = true → ∀ e ∈ o.after, Region.binds .any e = true → listed.getD e.on false = true) →
      Conc C n (Mk l V e0 (Lf listed) l.length) h a w → wpAny C.P .any l.toArray Q fuel listed a w := by
  have hend : ∀ (listed : Array Bool) (a : Act) (w : World), listed.size = l.length → (∀ j, j < l.length → Lf listed j = true) → Conc C n (Mk l V e0 (Lf listed) l.length) h a w → Q .normal a w := by
    intro listed a w hs hall hc
    refine hQ a w (hc.sub fun t v hv => ?_)
    rw [← hv]; exact lk_Mk_agree _ (fun j hj _ => hall j hj)
  intro fuel
  induction fuel with
  | zero =>
    intro listed a w hs hcnt hpc hc
    have hall : ∀ j, j < l.length → Lf listed j = true := by
      intro j hj
      have h0 : listed.toList.count false = 0 := by omega
      rw [List.count_eq_zero] at h0
      have hjs : j < listed.size := by omega
      unfold Lf
      rw [Array.getD_eq_getD_getElem?, Array.getElem?_eq_getElem hjs]
      simp only [Option.getD_some]
      cases hb : listed[j] with
      | true => rfl
      | false => exact absurd (by rw [← hb]; simp) h0
    refine ⟨?_, hend listed a w hs hall hc⟩
    apply List.eq_nil_iff_forall_not_mem.2
    intro j hj
    obtain ⟨h1, o, ho, _⟩ := mem_ready.1 hj
    have hjl : j < l.length := by
      have := (Array.getElem?_eq_some_iff.1 ho).1; simpa using this
    have := hall j hjl
    unfold Lf at this
    rw [this] at h1; cases h1
  | succ fuel ih =>
    intro listed a w hs hcnt hpc hc
    refine ⟨fun hnil => ?_, fun i hi => ?_⟩
    · refine hend listed a w hs ?_ hc
      intro j
      induction j using Nat.strongRecOn with
      | _ j jh =>
        intro hj
        cases hb : Lf listed j with
        | true => rfl
        | false =>
          exfalso
          have ho : l[j]? = some l[j] := List.getElem?_eq_getElem hj
          have : j ∈ Region.ready .any l.toArray listed := by
            rw [mem_ready]
            refine ⟨hb, l[j], by simp [ho], fun e he hbd => ?_⟩
            have hlt := det_edge (detOk_one hdet ho) he hbd
            have := jh e.on hlt (by omega)
            unfold Lf at this
            have hes : e.on < listed.size := by omega
            rw [Array.getD_eq_getD_getElem?, Array.getElem?_eq_getElem hes] at this ⊢
            simpa using this
          rw [hnil] at this; cases this
    · obtain ⟨hun, o, ho', hall⟩ := mem_ready.1 hi
      have ho : l[i]? = some o := by simpa using ho'
      have hil : i < l.length := (List.getElem?_eq_some_iff.1 ho).1
      have hoi : l[i] = o := (List.getElem?_eq_some_iff.1 ho).2
      have hone := detOk_one hdet ho
      have hLi : Lf listed i = false := hun
      -- other writers of a slot of o: earlier ones are listed, later ones are not
      have early : ∀ j t, j < i → (l[j]?).bind (·.dst) = some t → t ∈ slotsOf l o → Lf listed j = true := by
        intro j t hj hd ht
        obtain ⟨oj, hoj, hp⟩ := det_pair hone hd ht (by omega)
        rw [if_pos hj] at hp
        obtain ⟨e, he, hb, hon⟩ := pre_spec hp
        have := hall e he hb
        rw [hon] at this
        have hjs : j < listed.size := by omega
        unfold Lf
        rw [Array.getD_eq_getD_getElem?, Array.getElem?_eq_getElem hjs] at this ⊢
        simpa using this
      have late : ∀ j t, i < j → (l[j]?).bind (·.dst) = some t → t ∈ slotsOf l o → j < l.length → Lf listed j = false := by
        intro j t hj hd ht hjl
        obtain ⟨oj, hoj, hp⟩ := det_pair hone hd ht (by omega)
        rw [if_neg (by omega)] at hp
        obtain ⟨e, he, hb, hon⟩ := pre_spec hp
        cases hb' : Lf listed j with
        | false => rfl
        | true =>
          have := hpc j oj hoj hb' e he hb
          rw [hon] at this
          unfold Lf at hLi
          have his : i < listed.size := by omega
          rw [Array.getD_eq_getD_getElem?, Array.getElem?_eq_getElem his] at this hLi
          simp only [Option.getD_some] at this hLi
          rw [this] at hLi; cases hLi
      have same : ∀ t, t ∈ slotsOf l o → lk (Mk l V e0 (Lf listed) l.length) t = lk (Mk l V e0 (fun _ => true) i) t := by
        intro t ht
        rw [lk_Mk_stop (i := i) l.length (by omega) (fun j h1 h2 hd => by
          by_cases hji : j = i
          · subst hji; exact hLi
          · exact late j t (by omega) hd ht h2)]
        exact lk_Mk_agree _ (fun j hj hd => early j t hj hd ht)
      have hops : ∀ x ∈ o.op.operands, ∀ v, evO (Mk l V e0 (fun _ => true) i) x = some v → Rel (Im w h) w v (a.eval x) := by
        intro x hx v hv
        cases x with
        | tmp t =>
          have ht : t ∈ slotsOf l o := by
            unfold slotsOf tmpsOf
            simp only [List.mem_append, List.mem_filterMap]
            exact .inl (.inl ⟨.tmp t, by simpa using hx, rfl⟩)
          exact hc.env t v (by rw [same t ht]; exact hv)
        | const u => exact EnvOk.ev (e := []) (fun t v hv => by simp [lk] at hv) hv
        | func f => exact EnvOk.ev (e := []) (fun t v hv => by simp [lk] at hv) hv
        | global g => exact EnvOk.ev (e := []) (fun t v hv => by simp [lk] at hv) hv
      have hwant : ∀ b, wantE l (Mk l V e0 (fun _ => true) i) o = some b → Region.wanted o (yielded l.toArray a.tmps) = b := fun b hb =>
        want_of (a := a) (h := h) (w := w) (fun j want d hg hd v hv => by
          have ht : d ∈ slotsOf l o := by
            unfold slotsOf guardSlot
            rw [hg]
            simp only [List.mem_append, hd, Option.toList_some, List.mem_singleton]
            exact .inl (.inr trivial)
          exact hc.env d v (by rw [same d ht]; exact hv)) hb
      obtain ⟨hd, hst⟩ := hstep i hil
      rw [hoi] at hd hst
      -- behind the operation
      have his : i < listed.size := by omega
      have next : ∀ u w', Chg h h w w' → Rel (Im w' h) w' (V i) u → wpAny C.P .any l.toArray Q fuel (listed.setIfInBounds i true) (a.put o.dst u) w' := by
        intro u w' hx hr
        have Lset : ∀ j, j ≠ i → Lf (listed.setIfInBounds i true) j = Lf listed j := fun j hj => by
          unfold Lf; exact getD_set_ne true (Ne.symm hj)
        have Lset' : Lf (listed.setIfInBounds i true) i = true := by
          unfold Lf; rw [Array.getD_eq_getD_getElem?]; simp [his]
        refine ih _ _ _ (by simpa using hs) ?_ ?_ ?_
        · have hfalse : listed.toList[i]'(by simpa using his) = false := by
            unfold Lf at hLi
            rw [Array.getD_eq_getD_getElem?, Array.getElem?_eq_getElem his] at hLi
            simpa using hLi
          have hmem : 0 < listed.toList.count false := List.count_pos_iff.2 (by rw [← hfalse]; exact List.getElem_mem _)
          rw [Array.toList_setIfInBounds, List.count_set (h := by simpa using his)]
          have e1 : ((true : Bool) == false) = false := rfl
          simp only [hfalse, e1, BEq.rfl, if_true, Bool.false_eq_true, if_false]
          omega
        · intro j oj hoj hLj e he hb
          by_cases hji : j = i
          · subst hji
            rw [ho] at hoj
            simp only [Option.some.injEq] at hoj
            subst hoj
            exact getD_set_true (hall e he hb)
          · rw [Lset j hji] at hLj
            exact getD_set_true (hpc j oj hoj hLj e he hb)
        · have hc' := hc.put hx hd hr
          refine hc'.sub fun t v hv => ?_
          rw [← hv]
          by_cases hdt : o.dst = some t
          · have ht : t ∈ slotsOf l o := by unfold slotsOf; simp [hdt]
            rw [hdt, lk_putE_same]
            rw [lk_Mk_stop (i := i + 1) l.length (by omega) (fun j h1 h2 hdj => by rw [Lset j (by omega)]; exact late j t (by omega) hdj ht h2)]
            simp only [Mk, Lset', if_true, ho, Option.bind_some, hdt, lk_putE_same]
          · rw [lk_putE_ne _ _ hdt]
            exact lk_Mk_agree _ (fun j hj hdj => by
              by_cases hji : j = i
              · subst hji; rw [ho] at hdj; exact absurd hdj hdt
              · exact (Lset j hji).symm)
      unfold wpOp
      simp only [ho']
      rcases hst with ⟨hw1, hq⟩ | ⟨hw1, hv⟩
      · rw [if_pos (hwant _ hw1)]
        exact .inl ((hq a w ⟨hops, hc.heap⟩).wp fun u w' hR => next u w' hR.1 hR.2)
      · rw [if_neg (by rw [hwant _ hw1]; simp)]
        exact next undef w (Chg.refl hc.heap) (by rw [hv]; exact .raw _)

theorem draw_sound {id : Nat} {e' : Env} (hdet : detOk l = true) (H : Lex C.P n l h l e0 e') (hQ : ∀ a w, Conc C n e' h a w → Q .normal a w) {a : Act} {w : World} (hc : Conc C n e0 h a w) :
    (Code.region id l.toArray true).wp C.P Q a w := by
  obtain ⟨V, h1, h2⟩ := H.trace
  refine wp_region_any C.mix ?_
  have hrep : ∀ j, j < l.length → Lf (Array.replicate l.toArray.size false) j = false := fun j hj => by
    unfold Lf; rw [Array.getD_eq_getD_getElem?]; simp [hj]
  refine draw_main (C := C) (V := V) (e0 := e0) hdet h2 (fun a w hh => hQ a w (by rw [← h1]; exact hh)) _ _ _ _ (by simp) (by simp) ?_ ?_
  · intro i o ho hL
    have hil : i < l.length := (List.getElem?_eq_some_iff.1 ho).1
    rw [hrep i hil] at hL; cases hL
  · refine hc.drew.sub fun t v hv => ?_
    rw [← hv]
    have := lk_Mk_stop (l := l) (V := V) (e0 := e0) (L := Lf (Array.replicate l.toArray.size false)) (t := t) (i := 0) l.length (by omega) (fun j _ hj _ => hrep j hj)
    rw [this]; rfl

end
end Go.AI
