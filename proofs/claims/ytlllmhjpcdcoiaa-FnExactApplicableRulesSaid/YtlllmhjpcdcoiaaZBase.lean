/-
  What a call of a function computes, said of plain trees of data in the place of cells of memory: the words, and the rules by which a body is walked.
  No condition: the rules hold for whatever program.
-/
import Derived.WalkKit
import Derived.WalkSpells
import Derived.WalkLawsBesides
import Derived.KernelRfl
namespace Go.AI
open Go.RowKit

/-- A plain datum. `int` is an int64 (or an int) in range; `raw` is a value as it stands; `str` a string; `any` a value of which p is known; `u8` a byte; `os`, `op` a slice and a pointer into memory of the call's own; `sl` a slice that nobody writes; `ip` a pointer to cells that nobody writes. -/
inductive A where
  | raw (v : Value)
  | int (n : Int)
  | str (s : List UInt8)
  | any (p : Value → Prop)
  | u8 (c : UInt8)
  | os (b : Option Nat) (n cap : Nat)
  | op (b : Option Nat) (off : Nat)
  | sl (xs : List (List A))
  | ip (cs : List A)
  | agg (cs : List A)
  | fn (f : FuncId) (caps : List A)
  | tup (vs : List A)

def InR (n : Int) : Prop := -9223372036854775808 ≤ n ∧ n ≤ 9223372036854775807
def maxLn : Nat := 9223372036854775807

inductive Rel (S : Nat → Prop) (w : World) : A → Value → Prop
  | raw (v : Value) : Rel S w (.raw v) v
  | int (n : Int) (h : InR n) : Rel S w (.int n) (.int .i64 n)
  | str (s : List UInt8) (h : s.length ≤ maxLn) : Rel S w (.str s) (.string ⟨s.toArray⟩)
  | any (p : Value → Prop) (v : Value) (h : p v) : Rel S w (.any p) v
  | u8 (c : UInt8) : Rel S w (.u8 c) (.int .u8 c.toNat)
  | os (b n cap : Nat) (h : n ≤ maxLn) : Rel S w (.os (some b) n cap) (.slice (some ⟨b, 0, none⟩) n cap)
  | osn (a : Option Addr) : Rel S w (.os none 0 0) (.slice a 0 0)
  | op (b : Option Nat) (off : Nat) : Rel S w (.op b off) (.pointer (b.map fun b => ⟨b, off, none⟩))
  | nil (a : Option Addr) (cap : Nat) : Rel S w (.sl []) (.slice a 0 cap)
  | sl (xs : List (List A)) (b off cap sz : Nat) (V : Nat → Nat → Value) (hS : S b) (hlen : xs.length ≤ maxLn) (hcap : xs.length ≤ cap)
      (hsz : ∀ i (hi : i < xs.length), xs[i].length = sz)
      (hc : ∀ i j, i < xs.length → j < sz → w.cell? ⟨b, off + (i * sz + j), none⟩ = some (V i j))
      (hr : ∀ i j (hi : i < xs.length) (hj : j < xs[i].length), Rel S w (xs[i][j]) (V i j)) : Rel S w (.sl xs) (.slice (some ⟨b, off, none⟩) xs.length cap)
  | ip (cs : List A) (b off : Nat) (V : Nat → Value) (hS : S b)
      (hc : ∀ j, j < cs.length → w.cell? ⟨b, off + j, none⟩ = some (V j))
      (hr : ∀ j (hj : j < cs.length), Rel S w cs[j] (V j)) : Rel S w (.ip cs) (.pointer (some ⟨b, off, none⟩))
  | agg (cs : List A) (vs : List Value) (hl : vs.length = cs.length)
      (hr : ∀ j (hj : j < cs.length) (hj' : j < vs.length), Rel S w cs[j] vs[j]) : Rel S w (.agg cs) (.agg vs.toArray)
  | fn (f : FuncId) (cs : List A) (vs : List Value) (hl : vs.length = cs.length)
      (hr : ∀ j (hj : j < cs.length) (hj' : j < vs.length), Rel S w cs[j] vs[j]) : Rel S w (.fn f cs) (.func (.func f) #[] vs.toArray)
  | tup (cs : List A) (vs : List Value) (hl : vs.length = cs.length)
      (hr : ∀ j (hj : j < cs.length) (hj' : j < vs.length), Rel S w cs[j] vs[j]) : Rel S w (.tup cs) (.tuple vs.toArray)

theorem Rel.stab {S S' : Nat → Prop} {w w' : World} (h : ∀ b, S b → S' b ∧ w'.heap[b]? = w.heap[b]?) {a : A} {v : Value} (r : Rel S w a v) : Rel S' w' a v := by
  induction r with
  | raw v => exact .raw v
  | int n h => exact .int n h
  | str s h => exact .str s h
  | any p v h => exact .any p v h
  | u8 c => exact .u8 c
  | os b n c h => exact .os b n c h
  | osn a => exact .osn a
  | op b o => exact .op b o
  | nil a c => exact .nil a c
  | sl xs b off cap sz V hS hlen hcap hsz hc hr ih =>
    refine .sl xs b off cap sz V (h b hS).1 hlen hcap hsz (fun i j hi hj => ?_) ih
    rw [World.cell?_of_block (w := w) (h b hS).2]; exact hc i j hi hj
  | ip cs b off V hS hc hr ih =>
    refine .ip cs b off V (h b hS).1 (fun j hj => ?_) ih
    rw [World.cell?_of_block (w := w) (h b hS).2]; exact hc j hj
  | agg cs vs hl hr ih => exact .agg cs vs hl ih
  | fn f cs vs hl hr ih => exact .fn f cs vs hl ih
  | tup cs vs hl hr ih => exact .tup cs vs hl ih

/-- Lists of data, and of values. -/
def RelL (S : Nat → Prop) (w : World) (as : List A) (vs : List Value) : Prop := vs.length = as.length ∧ ∀ j (hj : j < as.length) (hj' : j < vs.length), Rel S w as[j] vs[j]

theorem RelL.stab {S S' : Nat → Prop} {w w' : World} (h : ∀ b, S b → S' b ∧ w'.heap[b]? = w.heap[b]?) {as : List A} {vs : List Value} (r : RelL S w as vs) : RelL S' w' as vs :=
  ⟨r.1, fun j hj hj' => (r.2 j hj hj').stab h⟩

theorem RelL.nil {S : Nat → Prop} {w : World} : RelL S w [] [] := ⟨rfl, fun _ hj => absurd hj (Nat.not_lt_zero _)⟩
theorem RelL.cons {S : Nat → Prop} {w : World} {a : A} {v : Value} {as : List A} {vs : List Value} (h : Rel S w a v) (t : RelL S w as vs) : RelL S w (a :: as) (v :: vs) := by
  refine ⟨by simp [t.1], fun j hj hj' => ?_⟩
  cases j with
  | zero => exact h
  | succ j => exact t.2 j (by simpa using hj) (by simpa using hj')
theorem RelL.append {S : Nat → Prop} {w : World} {as bs : List A} {vs us : List Value} (h : RelL S w as vs) (t : RelL S w bs us) : RelL S w (as ++ bs) (vs ++ us) := by
  induction as generalizing vs with
  | nil =>
    have : vs = [] := List.eq_nil_of_length_eq_zero h.1
    subst this; exact t
  | cons a as ih =>
    cases vs with
    | nil => have := h.1; simp at this
    | cons v vs =>
      refine RelL.cons (h.2 0 (by simp) (by simp)) (ih ⟨by have := h.1; simpa using this, fun j hj hj' => ?_⟩)
      have := h.2 (j + 1) (by simpa using hj) (by simpa using hj')
      simpa using this
theorem RelL.uncons {S : Nat → Prop} {w : World} {a : A} {as : List A} {vs : List Value} (h : RelL S w (a :: as) vs) : ∃ v us, vs = v :: us ∧ Rel S w a v ∧ RelL S w as us := by
  cases vs with
  | nil => have := h.1; simp at this
  | cons v us =>
    refine ⟨v, us, rfl, h.2 0 (by simp) (by simp), by have := h.1; simpa using this, fun j hj hj' => ?_⟩
    have := h.2 (j + 1) (by simpa using hj) (by simpa using hj')
    simpa using this

/-! ### Memory of the call's own -/
/-- A block that is being written: its first cells, and how many cells it has at least. `none`: no block (an own slice that is nil). -/
structure Blk where
  b : Option Nat
  ty : TypeId
  room : Nat
  cs : List A

abbrev Heap := List Blk
def keys (h : Heap) : List Nat := h.filterMap (·.b)
/-- A block that stands and that nobody writes. -/
def Im (w : World) (h : Heap) (b : Nat) : Prop := b < w.heap.size ∧ b ∉ keys h

def RoomOk (_ : Nat → Prop) (_ : World) (r : Nat) : Prop := r = 0
theorem RoomOk.stab {S S' : Nat → Prop} {w w' : World} {r : Nat} (_ : ∀ b, S b → S' b ∧ w'.heap[b]? = w.heap[b]?) (H : RoomOk S w r) : RoomOk S' w' r := H
theorem RoomOk.zero {S : Nat → Prop} {w : World} {r : Nat} (h : r = 0) : RoomOk S w r := h
def Tabs (_ : Nat → Prop) (_ : World) : Prop := True
theorem Tabs.stab {S S' : Nat → Prop} {w w' : World} (_ : ∀ b, S b → S' b ∧ w'.heap[b]? = w.heap[b]?) (_ : Tabs S w) : Tabs S' w' := trivial
def BlkOk (S : Nat → Prop) (w : World) (k : Blk) : Prop :=
  match k.b with
  | none => k.cs = [] ∧ RoomOk S w k.room
  | some b => ∃ vs rest : List Value, w.heap[b]? = some (.cells (vs ++ rest).toArray k.ty (0, 0)) ∧ RelL S w k.cs vs ∧ k.room = (vs ++ rest).length

structure HeapOk (h : Heap) (w : World) : Prop where
  nodup : (keys h).Nodup
  blk : ∀ k ∈ h, BlkOk (Im w h) w k
  tab : Tabs (Im w h) w

theorem mem_keys {h : Heap} {k : Blk} (hk : k ∈ h) {b : Nat} (hb : k.b = some b) : b ∈ keys h := List.mem_filterMap.2 ⟨k, hk, hb⟩

theorem HeapOk.at {h : Heap} {w : World} (H : HeapOk h w) {b ty room : Nat} {cs : List A} (hk : (⟨some b, ty, room, cs⟩ : Blk) ∈ h) :
    ∃ vs rest : List Value, w.heap[b]? = some (.cells (vs ++ rest).toArray ty (0, 0)) ∧ RelL (Im w h) w cs vs ∧ room = (vs ++ rest).length := H.blk _ hk

theorem HeapOk.lt {h : Heap} {w : World} (H : HeapOk h w) {b : Nat} (hb : b ∈ keys h) : b < w.heap.size := by
  obtain ⟨k, hk, hkb⟩ := List.mem_filterMap.1 hb
  have := H.blk k hk
  unfold BlkOk at this
  rw [hkb] at this
  obtain ⟨vs, rest, e, _⟩ := this
  exact (Array.getElem?_eq_some_iff.1 e).1

theorem BlkOk.stab {S S' : Nat → Prop} {w w' : World} {k : Blk} (h : ∀ b, S b → S' b ∧ w'.heap[b]? = w.heap[b]?) (hb : ∀ b, k.b = some b → w'.heap[b]? = w.heap[b]?) (H : BlkOk S w k) : BlkOk S' w' k := by
  unfold BlkOk at *
  split at H
  · exact ⟨H.1, H.2.stab h⟩
  · rename_i b hk
    obtain ⟨vs, rest, e, r, hr⟩ := H
    exact ⟨vs, rest, by rw [hb b hk]; exact e, r.stab h, hr⟩

/-- What stood when the world was w stands, but for the blocks K. -/
structure Ext (K : List Nat) (w w' : World) : Prop where
  os : w'.os = w.os
  tape : w'.tape = w.tape
  output : w'.output = w.output
  size : w.heap.size ≤ w'.heap.size
  block : ∀ k, k < w.heap.size → k ∉ K → w'.heap[k]? = w.heap[k]?

theorem Ext.refl (K : List Nat) (w : World) : Ext K w w := ⟨rfl, rfl, rfl, Nat.le_refl _, fun _ _ _ => rfl⟩
theorem Ext.trans {K : List Nat} {a b c : World} (h : Ext K a b) (k : Ext K b c) : Ext K a c :=
  ⟨k.os.trans h.os, k.tape.trans h.tape, k.output.trans h.output, Nat.le_trans h.size k.size, fun i hi hK => (k.block i (Nat.lt_of_lt_of_le hi h.size) hK).trans (h.block i hi hK)⟩
theorem Ext.mono {K K' : List Nat} {a b : World} (h : Ext K a b) (hK : ∀ x ∈ K, x ∈ K') : Ext K' a b :=
  ⟨h.os, h.tape, h.output, h.size, fun i hi hn => h.block i hi fun hx => hn (hK i hx)⟩
theorem Ext.below {w w' : World} (h : Ext [] w w') : Below w.heap.size w w' := ⟨h.os, h.tape, h.output, h.size, fun k hk => h.block k hk (by simp)⟩
theorem Ext.alloc (w : World) (o : Obj) : Ext [] w (w.alloc o) := ⟨rfl, rfl, rfl, by simp, fun k hk _ => Below.heap_alloc _ _ _ hk⟩
theorem Ext.drew (w : World) : Ext [] w w.drew := ⟨rfl, rfl, rfl, Nat.le_refl _, fun _ _ _ => rfl⟩

theorem Im.ext {w w' : World} {h : Heap} (e : Ext [] w w') {b : Nat} (hb : Im w h b) : Im w' h b ∧ w'.heap[b]? = w.heap[b]? :=
  ⟨⟨Nat.lt_of_lt_of_le hb.1 e.size, hb.2⟩, e.block b hb.1 (by simp)⟩

theorem Rel.ext {w w' : World} {h : Heap} (e : Ext [] w w') {a : A} {v : Value} (r : Rel (Im w h) w a v) : Rel (Im w' h) w' a v := r.stab fun _ hb => Im.ext e hb
theorem RelL.ext {w w' : World} {h : Heap} (e : Ext [] w w') {a : List A} {v : List Value} (r : RelL (Im w h) w a v) : RelL (Im w' h) w' a v := r.stab fun _ hb => Im.ext e hb
theorem HeapOk.ext {h : Heap} {w w' : World} (H : HeapOk h w) (e : Ext [] w w') : HeapOk h w' :=
  ⟨H.nodup, fun k hk => (H.blk k hk).stab (fun _ hb => Im.ext e hb) fun b hb => e.block b (H.lt (mem_keys hk hb)) (by simp), H.tab.stab fun _ hb => Im.ext e hb⟩

/-- What an operation or a call may do to the world: new blocks, and writes to the call's own. -/
structure Chg (h h' : Heap) (w w' : World) : Prop where
  os : w'.os = w.os
  tape : w'.tape = w.tape
  output : w'.output = w.output
  size : w.heap.size ≤ w'.heap.size
  block : ∀ k, k < w.heap.size → k ∉ keys h → w'.heap[k]? = w.heap[k]?
  new : ∀ b ∈ keys h', b ∈ keys h ∨ w.heap.size ≤ b
  heap : HeapOk h' w'

theorem Chg.refl {h : Heap} {w : World} (H : HeapOk h w) : Chg h h w w := ⟨rfl, rfl, rfl, Nat.le_refl _, fun _ _ _ => rfl, fun _ hb => .inl hb, H⟩
theorem Chg.ofExt {h : Heap} {w w' : World} (H : HeapOk h w) (e : Ext [] w w') : Chg h h w w' := ⟨e.os, e.tape, e.output, e.size, fun k hk _ => e.block k hk (by simp), fun _ hb => .inl hb, H.ext e⟩
theorem Chg.im {h h' : Heap} {w w' : World} (H : Chg h h' w w') {b : Nat} (hb : Im w h b) : Im w' h' b ∧ w'.heap[b]? = w.heap[b]? :=
  ⟨⟨Nat.lt_of_lt_of_le hb.1 H.size, fun hk => (H.new b hk).elim hb.2 (fun q => absurd hb.1 (by omega))⟩, H.block b hb.1 hb.2⟩
theorem Chg.trans {h h' h'' : Heap} {a b c : World} (x : Chg h h' a b) (y : Chg h' h'' b c) : Chg h h'' a c :=
  ⟨y.os.trans x.os, y.tape.trans x.tape, y.output.trans x.output, Nat.le_trans x.size y.size, fun k hk hn => by
    rw [← x.block k hk hn]
    exact y.block k (Nat.lt_of_lt_of_le hk x.size) fun hk' => (x.new k hk').elim hn (fun q => absurd hk (by omega)), fun k hk => by
    rcases y.new k hk with q | q
    · exact x.new k q
    · exact .inr (Nat.le_trans x.size q), y.heap⟩
theorem Rel.chg {w w' : World} {h h' : Heap} (c : Chg h h' w w') {a : A} {v : Value} (r : Rel (Im w h) w a v) : Rel (Im w' h') w' a v := r.stab fun _ hb => c.im hb
theorem RelL.chg {w w' : World} {h h' : Heap} (c : Chg h h' w w') {a : List A} {v : List Value} (r : RelL (Im w h) w a v) : RelL (Im w' h') w' a v := r.stab fun _ hb => c.im hb

/-! ### Frames -/
abbrev Env := List (Nat × A)
def lk : Env → Nat → Option A
  | [], _ => none
  | (k, v) :: r, t => bif Nat.beq k t then some v else lk r t

theorem lk_cons_eq (k : Nat) (v : A) (r : Env) : lk ((k, v) :: r) k = some v := by simp [lk]
theorem lk_cons_ne {k t : Nat} (v : A) (r : Env) (h : k ≠ t) : lk ((k, v) :: r) t = lk r t := by
  have : Nat.beq k t = false := by
    cases hb : Nat.beq k t with
    | true => exact absurd (Nat.eq_of_beq_eq_true hb) h
    | false => rfl
  simp [lk, this]

/-- A constant as a datum. -/
def ofV : Value → A
  | .int .i64 n => bif (decide (-9223372036854775808 ≤ n) && decide (n ≤ 9223372036854775807)) then .int n else .raw (.int .i64 n)
  | .string b => bif Nat.ble b.data.toList.length maxLn then .str b.data.toList else .raw (.string b)
  | .int .u8 n => bif (decide (0 ≤ n) && decide (n < 256)) then .u8 (UInt8.ofNat n.toNat) else .raw (.int .u8 n)
  | .slice none 0 0 => .os none 0 0
  | .pointer none => .op none 0
  | v => .raw v

def evO (e : Env) : Operand → Option A
  | .tmp t => lk e t
  | .const v => some (ofV v)
  | .func f => some (.fn f [])
  | .global g => some (.raw (.pointer (some ⟨g, 0, none⟩)))

theorem ofV_rel (S : Nat → Prop) (w : World) (v : Value) : Rel S w (ofV v) v := by
  unfold ofV
  split
  · rename_i n
    cases h : (decide (-9223372036854775808 ≤ n) && decide (n ≤ 9223372036854775807)) with
    | true =>
      simp only [Bool.and_eq_true, decide_eq_true_eq] at h
      exact .int n ⟨h.1, h.2⟩
    | false => exact .raw _
  · rename_i b
    cases h : Nat.ble b.data.toList.length maxLn with
    | true => exact .str _ (Nat.le_of_ble_eq_true h)
    | false => exact .raw _
  · rename_i n
    cases h : (decide (0 ≤ n) && decide (n < 256)) with
    | true =>
      simp only [Bool.and_eq_true, decide_eq_true_eq] at h
      have : n = (((UInt8.ofNat n.toNat).toNat : Nat) : Int) := by
        rw [UInt8.toNat_ofNat_of_lt' (by simp; omega)]; omega
      have r : Rel S w (.u8 (UInt8.ofNat n.toNat)) (.int .u8 (((UInt8.ofNat n.toNat).toNat : Nat) : Int)) := .u8 _
      rw [← this] at r; exact r
    | false => exact .raw _
  · exact .osn none
  · exact .op none 0
  · exact .raw _

def EnvOk (e : Env) (h : Heap) (a : Act) (w : World) : Prop := ∀ t v, lk e t = some v → Rel (Im w h) w v (a.eval (.tmp t))

theorem EnvOk.ev {e : Env} {h : Heap} {a : Act} {w : World} (H : EnvOk e h a w) {x : Operand} {v : A} (hx : evO e x = some v) : Rel (Im w h) w v (a.eval x) := by
  cases x with
  | tmp t => exact H t v hx
  | const u => simp only [evO, Option.some.injEq] at hx; subst hx; exact ofV_rel _ _ _
  | func f => simp only [evO, Option.some.injEq] at hx; subst hx; exact .fn f [] [] rfl (fun j hj => absurd hj (Nat.not_lt_zero _))
  | global g => simp only [evO, Option.some.injEq] at hx; subst hx; exact .raw _

end Go.AI
