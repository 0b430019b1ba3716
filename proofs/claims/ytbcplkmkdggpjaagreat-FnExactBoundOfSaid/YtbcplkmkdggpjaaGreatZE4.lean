/-
  What came in, read as plain data. No condition.
-/
import Derived.Test.YtbcplkmkdggpjaaGreatZRun
import Derived.ProofKit
import Derived.Deep.Slices
import Derived.Test.YtbcplkmkdggpjaaGreatZEnd
namespace Go.AI
open Go.RowKit

section
variable {H : Type} {enc : TypeId × Value → H} {P : Program} {W : World}

/-- Cells of type t that are read as data are data by f. -/
def Rd (enc : TypeId × Value → H) (P : Program) (W : World) (t : TypeId) {α : Type} (f : α → List A) : Prop :=
  ∀ fuel cs x, DataW.trod enc P W 0 (fun _ => true) true fuel t cs = some x → ∃ a : α, RelL (Im W []) W (f a) cs

theorem im_nil {b : Nat} (h : b < W.heap.size) : Im W [] b := ⟨h, by simp [keys]⟩

def encI (n : Int) : List A := [.int n]
def encB (b : Bool) : List A := [.raw (.bool b)]
def encS {α : Type} (f : α → List A) (l : List α) : List A := [.sl (l.map f)]

theorem rd_int {t : TypeId} (ht : P.underlying t = some (.int .i64)) : Rd enc P W t encI := fun fuel cs x h => by
  obtain ⟨n, rfl, _, hw⟩ := DataW.trod_int ht h
  refine ⟨n, RelL.cons (.int n ?_) RelL.nil⟩
  have := hw
  simp [Lit.wf, IntKind.min, IntKind.max, IntKind.signed, IntKind.bits] at this
  unfold InR; omega
theorem rd_bool {t : TypeId} (ht : P.underlying t = some .bool) : Rd enc P W t encB := fun fuel cs x h => by
  obtain ⟨b, rfl, _⟩ := DataW.trod_bool ht h
  exact ⟨b, RelL.cons (.raw _) RelL.nil⟩
theorem mapM_some_get {α β : Type} {f : α → Option β} : ∀ {l : List α} {r : List β}, l.mapM f = some r → r.length = l.length ∧ ∀ i (hi : i < l.length) (hi' : i < r.length), f l[i] = some r[i]
  | [], r, h => by simp at h; subst h; exact ⟨rfl, fun i hi => absurd hi (Nat.not_lt_zero _)⟩
  | a :: l, r, h => by
    rw [List.mapM_cons] at h
    cases ha : f a with
    | none => rw [ha] at h; simp at h
    | some b =>
      cases hl : l.mapM f with
      | none => rw [ha, hl] at h; simp at h
      | some bs =>
        rw [ha, hl] at h
        simp at h
        subst h
        obtain ⟨h1, h2⟩ := mapM_some_get hl
        refine ⟨by simp [h1], fun i hi hi' => ?_⟩
        cases i with
        | zero => simpa using ha
        | succ i => simpa using h2 i (by simpa using hi) (by simpa using hi')

theorem cells_get {base : Nat} {a : Addr} {n : Nat} {cs : List Value} (h : W.cells? base a n = some cs) : cs.length = n ∧ ∀ j (hj : j < n) (hj' : j < cs.length), W.cell? (a.add j) = some cs[j] := by
  unfold World.cells? at h
  split at h
  · obtain ⟨h1, h2⟩ := mapM_some_get h
    simp at h1
    exact ⟨h1, fun j hj hj' => by have := h2 j (by simpa using hj) hj'; simpa using this⟩
  · cases h

theorem cell_spot {a : Addr} {v : Value} (h : W.cell? a = some v) : a.spot = none := by
  unfold World.cell? at h
  split at h
  · split at h
    · cases h
    · rename_i hs; simpa using hs
  · cases h

theorem rd_slice {t e z : Nat} {α : Type} [Inhabited α] {f : α → List A} (ht : P.underlying t = some (.slice e)) (hz : P.cellsOf e = z) (hz0 : 0 < z) (hf : ∀ a, (f a).length = z) (he : Rd enc P W e f) : Rd enc P W t (encS f) := fun fuel cs x h => by
  rcases Deep.open_slice ht h with ⟨rfl, _⟩ | ⟨a, len, cap, m, n, D, Pl, rfl, _, hl, hm, hmm, _, hx⟩
  · exact ⟨[], RelL.cons (.nil _ _) RelL.nil⟩
  · have hlm : len ≤ m := by rw [hmm]; simp; exact hl
    obtain ⟨Y, hY⟩ := Deep.choose_lt (α := α) (n := len) (p := fun i y => ∃ cs', W.cells? 0 (a.add (i * z)) z = some cs' ∧ RelL (Im W []) W (f y) cs') (fun i hi => by
      obtain ⟨cs', h1, h2⟩ := hx i (by omega)
      obtain ⟨y, hy⟩ := he _ _ _ h2
      rw [hz] at h1
      exact ⟨y, cs', h1, hy⟩)
    by_cases h0 : len = 0
    · subst h0
      exact ⟨[], RelL.cons (.nil _ _) RelL.nil⟩
    · refine ⟨(List.range len).map Y, RelL.cons ?_ RelL.nil⟩
      obtain ⟨cs0, h1, h2⟩ := hY 0 (by omega)
      obtain ⟨h3, h4⟩ := cells_get h1
      have c0 := h4 0 hz0 (by omega)
      have hsp : a.spot = none := by
        have := cell_spot c0
        simpa [Addr.add] using this
      obtain ⟨b, off, sp⟩ := a
      simp only at hsp
      subst hsp
      have hb : b < W.heap.size := by
        have := block_lt_of_cell c0
        rw [addr_add, addr_add] at this; exact this
      obtain ⟨V, hV⟩ := Deep.choose_lt (α := List Value) (n := len) (p := fun i cs' => W.cells? 0 ((⟨b, off, none⟩ : Addr).add (i * z)) z = some cs' ∧ RelL (Im W []) W (f (Y i)) cs') (fun i hi => hY i hi)
      have key : Rel (Im W []) W (.sl (((List.range len).map Y).map f)) (.slice (some ⟨b, off, none⟩) (((List.range len).map Y).map f).length cap) := by
        refine .sl _ b off cap z (fun i j => (V i).getD j undef) (im_nil hb) ?_ ?_ ?_ ?_ ?_
        · simp; unfold maxLn; unfold maxLen at hm; omega
        · simpa using hl
        · intro i hi; simpa using hf _
        · intro i j hi hj
          simp at hi
          obtain ⟨q1, q2⟩ := hV i hi
          obtain ⟨q3, q4⟩ := cells_get q1
          have := q4 j hj (by omega)
          rw [addr_add, addr_add] at this
          rw [← Nat.add_assoc, this]
          simp [show j < (V i).length by omega]
        · intro i j hi hj
          simp at hi hj
          obtain ⟨q1, q2⟩ := hV i hi
          have hjv : j < (V i).length := by rw [q2.1]; exact hj
          have := q2.2 j hj hjv
          simpa [hjv] using this
      simpa using key

/-! Structs, field by field. -/
/-- The fields fs lie one behind the other from cell o on, up to cell m, and are data by f. -/
def RdFs (enc : TypeId × Value → H) (P : Program) (W : World) (fs : List Field) (o m : Nat) {α : Type} (f : α → List A) : Prop :=
  ∀ n (cs : List Value), m ≤ cs.length → (∀ (i : Nat) (g : Field), fs[i]? = some g → ∃ y, DataW.trod enc P W 0 (fun _ => true) true n g.type ((cs.drop g.offset).take (P.cellsOf g.type)) = some y) →
    ∃ a : α, RelL (Im W []) W (f a) ((cs.drop o).take (m - o))

theorem rdFs_nil {o : Nat} : RdFs enc P W [] o o (fun _ : Unit => []) := fun n cs _ _ => ⟨(), by simpa using RelL.nil⟩

theorem rdFs_cons {g : Field} {fs : List Field} {o z m : Nat} {α β : Type} {f : α → List A} {k : β → List A} (ho : g.offset = o) (hz : P.cellsOf g.type = z) (hm : o + z ≤ m) (h1 : Rd enc P W g.type f) (h2 : RdFs enc P W fs (o + z) m k) :
    RdFs enc P W (g :: fs) o m (fun p : α × β => f p.1 ++ k p.2) := fun n cs hcs hall => by
  obtain ⟨y, hy⟩ := hall 0 g rfl
  rw [ho, hz] at hy
  obtain ⟨a, ra⟩ := h1 _ _ _ hy
  obtain ⟨b, rb⟩ := h2 n cs hcs (fun i g' hg => hall (i + 1) g' (by simpa using hg))
  refine ⟨(a, b), ?_⟩
  have : (cs.drop o).take (m - o) = (cs.drop o).take z ++ (cs.drop (o + z)).take (m - (o + z)) := by
    have e : m - o = z + (m - (o + z)) := by omega
    rw [e, List.take_add, List.drop_drop]
  rw [this]
  exact ra.append rb

theorem rd_struct {t m : Nat} {fs : Array Field} {α β : Type} {f : α → List A} {k : β → List A} (ht : P.underlying t = some (.struct fs)) (hm : P.cellsOf t = m) (hf : RdFs enc P W fs.toList 0 m k) (g : β → α) (hg : ∀ b, f (g b) = k b) : Rd enc P W t f := fun fuel cs x h => by
  obtain ⟨xs, n, _, _, hl, hlen, hall⟩ := DataW.trod_struct ht h
  rw [hm] at hl
  obtain ⟨b, rb⟩ := hf n cs (by omega) (fun i q hq => by
    have hq' : fs[i]? = some q := by simpa using hq
    have hi : i < xs.length := by rw [hlen]; exact (Array.getElem?_eq_some_iff.1 hq').1
    exact ⟨xs[i], by rw [hall i q hq']; exact List.getElem?_eq_getElem hi⟩)
  refine ⟨g b, ?_⟩
  rw [hg]
  simpa [← hl] using rb

/-- An argument of a struct type. -/
theorem open_st {r : Reach} {b0 : Nat} {t : TypeId} {fs : Array Field} {α : Type} {f : α → List A} {v : Value} {d : DataW H} {p : List MemPlace} (ht : P.underlying t = some (.struct fs)) (hr : Rd enc P W t f)
    (hv : Value.okWide P W r b0 t v) (h : DataW.Trod enc P W 0 (fun _ => true) true t v d p) : ∃ a : α, Rel (Im W []) W (.agg (f a)) v := by
  obtain ⟨cs, rfl, _⟩ := WideShapes.okWide_struct ht hv
  obtain ⟨fuel, hf⟩ := h
  obtain ⟨a, ra⟩ := hr _ _ _ hf
  exact ⟨a, .agg _ _ ra.1 ra.2⟩

/-- An argument of any other type. -/
theorem open_sc {t : TypeId} {α : Type} {f : α → A} {v : Value} {d : DataW H} {p : List MemPlace} (hr : Rd enc P W t (fun a => [f a])) (h1 : v.cells = #[v]) (h : DataW.Trod enc P W 0 (fun _ => true) true t v d p) : ∃ a : α, Rel (Im W []) W (f a) v := by
  obtain ⟨fuel, hf⟩ := h
  obtain ⟨a, ra⟩ := hr _ _ _ hf
  rw [h1] at ra
  obtain ⟨u, us, e1, r1, _⟩ := ra.uncons
  simp only [List.cons.injEq] at e1
  rw [e1.1]
  exact ⟨a, r1⟩

end
end Go.AI

/-
  Plain facts on lists of numbers: sums, counts. No condition.
-/
namespace Go.AI

/-- The sum of what f makes of the elements. -/
def sumF {α : Type} (f : α → Int) : List α → Int
  | [] => 0
  | x :: l => f x + sumF f l
theorem sumF_app {α : Type} (f : α → Int) (x : α) : ∀ l : List α, sumF f (l ++ [x]) = sumF f l + f x
  | [] => by simp [sumF]
  | y :: l => by
    have := sumF_app f x l
    simp only [List.cons_append, sumF, this]; omega
theorem sumF_succ {α : Type} (f : α → Int) {l : List α} {k : Nat} (h : k < l.length) : sumF f (l.take (k + 1)) = sumF f (l.take k) + f l[k] := by
  rw [List.take_succ_eq_append_getElem h, sumF_app]
theorem sumF_bnd {α : Type} (f : α → Int) {lo hi : Int} : ∀ (l : List α), (∀ x ∈ l, lo ≤ f x ∧ f x ≤ hi) → lo * l.length ≤ sumF f l ∧ sumF f l ≤ hi * l.length
  | [], _ => by simp [sumF]
  | x :: l, h => by
    have h1 := h x (by simp)
    have h2 := sumF_bnd f l (fun y hy => h y (by simp [hy]))
    have e : ∀ a : Int, a * ((x :: l).length : Int) = a * l.length + a := fun a => by
      rw [List.length_cons, Int.natCast_succ, Int.mul_add, Int.mul_one]
    rw [e, e, sumF]; omega
theorem sumF_take {α : Type} (f : α → Int) {lo hi : Int} (l : List α) (h : ∀ x ∈ l, lo ≤ f x ∧ f x ≤ hi) (k : Nat) (hk : k ≤ l.length) : lo * k ≤ sumF f (l.take k) ∧ sumF f (l.take k) ≤ hi * k := by
  have := sumF_bnd f (l.take k) (fun x hx => h x (List.mem_of_mem_take hx))
  rw [List.length_take, Nat.min_eq_left hk] at this; exact this
/-- The sum of numbers; how often a number is there. -/
def tot (l : List Int) : Int := sumF (fun x => x) l
def one (x y : Int) : Int := if y = x then 1 else 0
theorem one_bnd (x y : Int) : 0 ≤ one x y ∧ one x y ≤ 1 := by unfold one; split <;> omega
theorem one_t {x y : Int} (h : y = x) : one x y = 1 := by unfold one; rw [if_pos h]
theorem one_f {x y : Int} (h : ¬y = x) : one x y = 0 := by unfold one; rw [if_neg h]
/-- The place of the first element of which r is true; -1 if there is none. -/
noncomputable def fIdx {α : Type} (r : α → Prop) (l : List α) : Int := if l.findIdx (fun x => dec (r x)) < l.length then (l.findIdx (fun x => dec (r x)) : Int) else -1
theorem fIdx_at {α : Type} {r : α → Prop} {l : List α} {k : Nat} (h : k < l.length) (hr : r l[k]) (hn : ∀ i (hi : i < l.length), i < k → ¬ r l[i]) : fIdx r l = k := by
  have e : l.findIdx (fun x => dec (r x)) = k := by
    rw [List.findIdx_eq h]
    exact ⟨dec_t hr, fun j hj => dec_f (hn j (by omega) hj)⟩
  unfold fIdx; rw [e, if_pos h]
theorem fIdx_none {α : Type} {r : α → Prop} {l : List α} (hn : ∀ i (hi : i < l.length), ¬ r l[i]) : fIdx r l = -1 := by
  have e : l.findIdx (fun x => dec (r x)) = l.length := by
    rw [List.findIdx_eq_length]
    intro x hx
    obtain ⟨i, hi, rfl⟩ := List.getElem_of_mem hx
    exact dec_f (hn i hi)
  unfold fIdx; rw [e, if_neg (Nat.lt_irrefl _)]
theorem fIdx_ex {α : Type} (r : α → Prop) (l : List α) : 0 ≤ fIdx r l ↔ ∃ x ∈ l, r x := by
  constructor
  · intro h
    unfold fIdx at h
    split at h
    · rename_i hl
      have := List.findIdx_getElem (xs := l) (p := fun x => dec (r x)) (w := hl)
      exact ⟨_, List.getElem_mem hl, by
        by_cases hr : r l[l.findIdx (fun x => dec (r x))]
        · exact hr
        · rw [dec_f hr] at this; cases this⟩
    · omega
  · rintro ⟨x, hx, hr⟩
    have : l.findIdx (fun x => dec (r x)) < l.length := List.findIdx_lt_length_of_exists ⟨x, hx, dec_t hr⟩
    unfold fIdx; rw [if_pos this]; omega

/-- Bags: from one to eight numbers from 0 to 1000. -/
def Bag (b : List Int) : Prop := (∀ x ∈ b, 0 ≤ x ∧ x ≤ 1000) ∧ 1 ≤ b.length ∧ b.length ≤ 8
theorem Bag.take {b : List Int} (h : Bag b) (k : Nat) (hk : k ≤ b.length) : 0 ≤ sumF (fun x => x) (b.take k) ∧ sumF (fun x => x) (b.take k) ≤ 1000 * k := by
  have := sumF_take (fun x => x) b h.1 k hk
  simpa using this
open Classical in
/-- The code of a condition, and a number under it. -/
noncomputable def cdP (p : Prop) : Int := if p then 0 else 1
open Classical in
noncomputable def numP (p : Prop) (n : Int) : Int := if p then n else 0
theorem num_t {p : Prop} (h : p) (n : Int) : numP p n = n := by unfold numP; rw [if_pos h]
theorem num_f {p : Prop} (h : ¬p) (n : Int) : numP p n = 0 := by unfold numP; rw [if_neg h]

open Classical in
/-- The code of two conditions, one behind the other. -/
noncomputable def cd2 (p q : Prop) : Int := if p then (if q then 0 else 2) else 1
theorem cd2_f {p q : Prop} (h : ¬p) : cd2 p q = 1 := by unfold cd2; rw [if_neg h]
theorem cd2_t {p q : Prop} (h : p) (h2 : ¬q) : cd2 p q = 2 := by unfold cd2; rw [if_pos h, if_neg h2]
theorem cd2_z {p q : Prop} : cd2 p q = 0 ↔ p ∧ q := by
  unfold cd2
  constructor
  · intro h
    split at h
    · rename_i hp
      split at h
      · exact ⟨hp, by assumption⟩
      · cases h
    · cases h
  · intro ⟨h1, h2⟩; rw [if_pos h1, if_pos h2]
theorem cd2_o {p q : Prop} (h : p) (h2 : q) : cd2 p q = 0 := cd2_z.2 ⟨h, h2⟩

open Classical in
noncomputable def cd3 (p q r : Prop) : Int := if p then (if q then (if r then 0 else 4) else 2) else 1
theorem dec_congr {p q : Prop} (h : p ↔ q) : dec p = dec q := by rw [propext h]
/-- Lists whose sums stay within range. -/
def Small (b : List Int) : Prop := (∀ x ∈ b, -1000000000 ≤ x ∧ x ≤ 1000000000) ∧ b.length ≤ 1000000
theorem Bag.small {b : List Int} (h : Bag b) : Small b := ⟨fun x hx => by have := h.1 x hx; omega, by have := h.2; omega⟩
theorem Small.take {b : List Int} (h : Small b) (k : Nat) (hk : k ≤ b.length) : -1000000000 * k ≤ sumF (fun x => x) (b.take k) ∧ sumF (fun x => x) (b.take k) ≤ 1000000000 * k :=
  sumF_take (fun x => x) b h.1 k hk
end Go.AI

/-
  More rules of the walk: elements of lists of the call's own, the tail of a list. No condition.
-/
namespace Go.AI
open Go.RowKit

section
variable {C : Cx} {n : Nat} {Q : Exit → Env → Heap → Prop} {e : Env} {h h' : Heap} {d : Bool} {l os : List Oper} {o : Oper} {f : Fl} {fs : List Fl} {B : List (Nat × Blk)}
theorem drop_flat {α : Type} {g : α → List A} {z : Nat} (hz : ∀ y, (g y).length = z) : ∀ (L : List α) (m : Nat) (hm : m < L.length), (L.map g).flatten.drop (m * z) = g L[m] ++ ((L.drop (m + 1)).map g).flatten
  | [], m, hm => absurd hm (Nat.not_lt_zero _)
  | x :: L, 0, hm => by simp
  | x :: L, m + 1, hm => by
    have ih := drop_flat hz L m (by simpa using hm)
    simp only [List.map_cons, List.flatten_cons, List.drop_succ_cons, List.getElem_cons_succ]
    have e1 : (m + 1) * z = (g x).length + m * z := by rw [hz, Nat.succ_mul]; omega
    rw [e1, List.drop_length_add_append]; exact ih

/-- '.. = s[m]', s a list of the call's own. -/
theorem j_mloadE (i m : Nat) {α : Type} {g : α → List A} {L : List α} {z : Nat} {T b p T' room dd : Nat} {x : Operand} {v : A} (hw : wantE l e o = some true) (ho : o.op = .load T x) (hx : evO e x = some (.op (some b) p)) (hi : h[i]? = some ⟨some b, T', room, (L.map g).flatten⟩)
    (hz : ∀ y, (g y).length = z) (hp : p = m * z) (hm : m < L.length) (hv : ∀ rest, loadA C.ty T (g L[m] ++ rest) = some v) (hd : o.dst = some dd) (hn : Nat.blt dd n = true) (hj : J d C n l os Q ((dd, v) :: e) h) : J d C n l (o :: os) Q e h :=
  j_mload i hw ho hx hi (by rw [hp, drop_flat hz L m hm]; exact hv _) hd hn hj
theorem j_mloadEO (i m : Nat) {α : Type} {g : α → List A} {L : List α} {z : Nat} {T b p T' room dd : Nat} {x : Operand} {v : A} (ht : f.tight = true) (hw : wantE l e o = some true) (ho : o.op = .load T x) (hx : evO e x = some (.op (some b) p)) (hi : h[i]? = some ⟨some b, T', room, (L.map g).flatten⟩)
    (hz : ∀ y, (g y).length = z) (hp : p = m * z) (hm : m < L.length) (hv : ∀ rest, loadA C.ty T (g L[m] ++ rest) = some v) (hd : o.dst = some dd) (hn : Nat.blt dd n = true) (hj : JO fs B C n l os Q ((dd, v) :: e) h) : JO (f :: fs) B C n l (o :: os) Q e h :=
  j_mloadO i ht hw ho hx hi (by rw [hp, drop_flat hz L m hm]; exact hv _) hd hn hj
theorem buildA_quiet {T sz bytes ln E z : Nat} {zk : List ZK} {parts : Array (Nat × Operand)} {cs : List A} (ho : o.op = .build T parts) (hT : C.ty T = some ⟨sz, .arr ln E z⟩) (hz : C.zt T = some (zk, bytes))
    (hf : fillA e (fun i => some (i * z, z)) parts.toList (zk.map ZK.a) = some cs) : Quiet C.P o e h (.agg cs) := by
  apply Quiet.of_same
  intro a w hs
  have hops := hs.ops
  rw [ho] at hops
  have hti := C.ok _ _ hT
  simp only [TIok, Bool.and_eq_true] at hti
  obtain ⟨hu, hze⟩ := und_arr hti.2
  have hse := run_sizeOf hze w
  obtain ⟨z0, hz1, hz2⟩ := C.zok _ _ _ hz
  have hzr := run_zero hz1 w
  have hzrel : RelL (Im w h) w (zk.map ZK.a) (zk.map ZK.val) := ⟨by simp, fun j hj hj' => by simpa using ZK.rel _ _ _⟩
  obtain ⟨vs', q1, q2⟩ := fill_run (S := Im w h) (w := w) (a := a) (e := e) (place := fun i => some (i * z, z)) (place' := fun i => some (i * z, z)) (fun _ _ h => h) parts.toList _ cs (zk.map ZK.val) (fun p hp v hv => hops p.2 (by simp [Op.operands]; exact ⟨p.1, by simpa using hp⟩) v hv) hf hzrel
  refine ⟨.agg vs'.toArray, ?_, .agg cs vs' q2.1 q2.2⟩
  have hm : (parts.map fun p => (p.1, a.eval p.2)).toList = parts.toList.map fun p => (p.1, a.eval p.2) := by simp
  simp only [execOp, ho, Instr.build, Sem.run_bind, hzr, Result.andThen_ok, run_underlying hu, hse, hz2]
  rw [hm, q1]
  rfl
theorem j_buildA {T sz bytes ln E z dd : Nat} {zk : List ZK} {parts : Array (Nat × Operand)} {cs : List A} (hw : wantE l e o = some true) (ho : o.op = .build T parts) (hT : C.ty T = some ⟨sz, .arr ln E z⟩) (hz : C.zt T = some (zk, bytes))
    (hf : fillA e (fun i => some (i * z, z)) parts.toList (zk.map ZK.a) = some cs) (hd : o.dst = some dd) (hn : Nat.blt dd n = true) (hj : J d C n l os Q ((dd, .agg cs) :: e) h) : J d C n l (o :: os) Q e h := j_quiet hw (fun _ => buildA_quiet ho hT hz hf) hd hn hj
/-- 's[m:]'. -/
theorem j_tail (m : Nat) {α : Type} {g : α → List A} {ys : List α} {T E z sz dd : Nat} {x : Operand} {lo : Option Operand} (hw : wantE l e o = some true) (ho : o.op = .slice T x lo none none) (hT : C.ty T = some ⟨sz, .slice E z⟩) (hx : evO e x = some (.sl (ys.map g))) (hlo : bndO e 0 lo = some (.int (m : Int)))
    (hb : m ≤ ys.length) (hz : ∀ y, (g y).length = z) (hd : o.dst = some dd) (hn : Nat.blt dd n = true) (hj : J d C n l os Q ((dd, .sl ((ys.drop m).map g)) :: e) h) : J d C n l (o :: os) Q e h :=
  j_slice hw ho hT hx hlo (b := ((ys.map g).length : Int)) rfl (by rw [List.length_map]; omega) hz hd hn (by
    have e1 : ((((ys.map g).length : Nat) : Int)).toNat = ys.length := by rw [List.length_map]; omega
    have e2 : ((m : Int)).toNat = m := by omega
    rw [e1, e2, List.take_length]; exact hj)
end
end Go.AI

/-
  More rules of the walk: is a list nil? No condition.
-/
namespace Go.AI
open Go.RowKit

section
variable {C : Cx} {n : Nat} {Q : Exit → Env → Heap → Prop} {e : Env} {h h' : Heap} {d : Bool} {l os : List Oper} {o : Oper} {f : Fl} {fs : List Fl} {B : List (Nat × Blk)}
end
end Go.AI

/-
  More rules of the walk: unsigned numbers as they stand. No condition.
-/
namespace Go.AI
open Go.RowKit

section
variable {C : Cx} {n : Nat} {Q : Exit → Env → Heap → Prop} {e : Env} {h h' : Heap} {d : Bool} {l os : List Oper} {o : Oper} {f : Fl} {fs : List Fl} {B : List (Nat × Blk)}
theorem rge_quiet {t t2 : Nat} {x y : Operand} {m k : Int} (ho : o.op = .binOp .geq t x y t2) (hx : evO e x = some (.raw (.int .u64 m))) (hy : evO e y = some (.raw (.int .u64 k))) : Quiet C.P o e h (.raw (.bool (dec (k ≤ m)))) := by
  apply Quiet.of_same
  intro a w hs
  have hops := hs.ops
  rw [ho] at hops
  have e1 := (hops x (by simp [Op.operands]) _ hx).raw_inv
  have e2 := (hops y (by simp [Op.operands]) _ hy).raw_inv
  exact ⟨.bool (dec (k ≤ m)), by simp [execOp, ho, e1, e2, eqGuard, binOp, Op.intCmp, dec_eq], .raw _⟩
theorem convR_quiet {s d' sz sz2 : Nat} {kk : IntKind} {x : Operand} {m : Int} (ho : o.op = .convert s d' x) (hs : C.ty s = some ⟨sz, .ik kk⟩) (hd : C.ty d' = some ⟨sz2, .ik .u8⟩) (hx : evO e x = some (.raw (.int .u64 m))) (hm : 0 ≤ m ∧ m < 256) : Quiet C.P o e h (.u8 (UInt8.ofNat m.toNat)) := by
  apply Quiet.of_same
  intro a w hst
  have hops := hst.ops
  rw [ho] at hops
  have h1 := C.ok _ _ hs; have h2 := C.ok _ _ hd
  simp only [TIok, Bool.and_eq_true] at h1 h2
  have e1 := (hops x (by simp [Op.operands]) _ hx).raw_inv
  have e3 : IntKind.u8.wrap m = (((UInt8.ofNat m.toNat).toNat : Nat) : Int) := by
    rw [UInt8.toNat_ofNat_of_lt' (by simp; omega)]
    simp [IntKind.wrap, IntKind.bits, IntKind.signed]; omega
  exact ⟨.int .u8 (((UInt8.ofNat m.toNat).toNat : Nat) : Int), by simp [execOp, ho, e1, convert, underlying, und_ik h1.2, und_ik h2.2, Conv.intToInt, e3], .u8 _⟩
theorem siu_quiet {T sz : Nat} {i : Operand} {s : ByteArray} {c : UInt8} (ho : o.op = .index T (.const (.string s)) i) (hT : C.ty T = some ⟨sz, .str⟩) (hi : evO e i = some (.u8 c)) (hc : c.toNat < s.size) : Quiet C.P o e h (.u8 s[c.toNat]) := by
  apply Quiet.of_same
  intro a w hs
  have hops := hs.ops
  rw [ho] at hops
  have hti := C.ok _ _ hT
  simp only [TIok, Bool.and_eq_true] at hti
  have hu := und_str hti.2
  have e2 := (hops i (by simp [Op.operands]) _ hi).u8_inv
  have hy : a.eval (.const (.string s)) = .string s := rfl
  have hg : s[c.toNat]? = some s[c.toNat] := getElem?_pos s c.toNat hc
  refine ⟨.int .u8 s[c.toNat].toNat, ?_, .u8 _⟩
  simp [execOp, ho, hy, Instr.index, asIntOf, run_underlying hu, e2, hg]
theorem j_rge {t t2 dd : Nat} {x y : Operand} {m k : Int} (hw : wantE l e o = some true) (ho : o.op = .binOp .geq t x y t2) (hx : evO e x = some (.raw (.int .u64 m))) (hy : evO e y = some (.raw (.int .u64 k))) (hd : o.dst = some dd) (hn : Nat.blt dd n = true)
    (hj : J d C n l os Q ((dd, .raw (.bool (dec (k ≤ m)))) :: e) h) : J d C n l (o :: os) Q e h := j_quiet hw (fun _ => rge_quiet ho hx hy) hd hn hj
theorem j_convR {s t sz sz2 dd : Nat} {kk : IntKind} {x : Operand} {m : Int} (hw : wantE l e o = some true) (ho : o.op = .convert s t x) (hs : C.ty s = some ⟨sz, .ik kk⟩) (ht : C.ty t = some ⟨sz2, .ik .u8⟩) (hx : evO e x = some (.raw (.int .u64 m))) (hm : 0 ≤ m ∧ m < 256) (hd : o.dst = some dd) (hn : Nat.blt dd n = true)
    (hj : J d C n l os Q ((dd, .u8 (UInt8.ofNat m.toNat)) :: e) h) : J d C n l (o :: os) Q e h := j_quiet hw (fun _ => convR_quiet ho hs ht hx hm) hd hn hj
theorem j_siu {T sz dd : Nat} {i : Operand} {s : ByteArray} {c : UInt8} (hw : wantE l e o = some true) (ho : o.op = .index T (.const (.string s)) i) (hT : C.ty T = some ⟨sz, .str⟩) (hi : evO e i = some (.u8 c)) (hc : c.toNat < s.size) (hd : o.dst = some dd) (hn : Nat.blt dd n = true)
    (hj : ∀ c' : UInt8, c'.toNat ≤ 255 → J d C n l os Q ((dd, .u8 c') :: e) h) : J d C n l (o :: os) Q e h := j_quiet hw (fun _ => siu_quiet ho hT hi hc) hd hn (hj _ (by have := UInt8.toNat_lt s[c.toNat]; omega))
end
end Go.AI
