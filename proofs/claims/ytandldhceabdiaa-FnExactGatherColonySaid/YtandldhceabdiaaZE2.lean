/-
  What came in, read as plain data. No condition.
-/
import Derived.Test.YtandldhceabdiaaZRun
import Derived.ProofKit
import Derived.Deep.Slices
import Derived.Test.YtandldhceabdiaaZEnd
namespace Go.AI
open Go.RowKit

section
variable {H : Type} {enc : TypeId × Value → H} {P : Program} {W : World}

/-- Cells of type t that are read as data are data by f. -/
def Rd (enc : TypeId × Value → H) (P : Program) (W : World) (t : TypeId) {α : Type} (f : α → List A) : Prop :=
  ∀ fuel cs x, DataW.trod enc P W 0 (fun _ => true) true fuel t cs = some x → ∃ a : α, RelL (Im W []) W (f a) cs

theorem im_nil {b : Nat} (h : b < W.heap.size) : Im W [] b := ⟨h, by simp [keys]⟩

def encI (n : Int) : List A := [.int n]
def encB (b : Bool) : List A := [.raw (.bool b)]
def encS {α : Type} (f : α → List A) (l : List α) : List A := [.sl (l.map f)]

theorem rd_int {t : TypeId} (ht : P.underlying t = some (.int .i64)) : Rd enc P W t encI := fun fuel cs x h => by
  obtain ⟨n, rfl, _, hw⟩ := DataW.trod_int ht h
  refine ⟨n, RelL.cons (.int n ?_) RelL.nil⟩
  have := hw
  simp [Lit.wf, IntKind.min, IntKind.max, IntKind.signed, IntKind.bits] at this
  unfold InR; omega
theorem mapM_some_get {α β : Type} {f : α → Option β} : ∀ {l : List α} {r : List β}, l.mapM f = some r → r.length = l.length ∧ ∀ i (hi : i < l.length) (hi' : i < r.length), f l[i] = some r[i]
  | [], r, h => by simp at h; subst h; exact ⟨rfl, fun i hi => absurd hi (Nat.not_lt_zero _)⟩
  | a :: l, r, h => by
    rw [List.mapM_cons] at h
    cases ha : f a with
    | none => rw [ha] at h; simp at h
    | some b =>
      cases hl : l.mapM f with
      | none => rw [ha, hl] at h; simp at h
      | some bs =>
        rw [ha, hl] at h
        simp at h
        subst h
        obtain ⟨h1, h2⟩ := mapM_some_get hl
        refine ⟨by simp [h1], fun i hi hi' => ?_⟩
        cases i with
        | zero => simpa using ha
        | succ i => simpa using h2 i (by simpa using hi) (by simpa using hi')

theorem cells_get {base : Nat} {a : Addr} {n : Nat} {cs : List Value} (h : W.cells? base a n = some cs) : cs.length = n ∧ ∀ j (hj : j < n) (hj' : j < cs.length), W.cell? (a.add j) = some cs[j] := by
  unfold World.cells? at h
  split at h
  · obtain ⟨h1, h2⟩ := mapM_some_get h
    simp at h1
    exact ⟨h1, fun j hj hj' => by have := h2 j (by simpa using hj) hj'; simpa using this⟩
  · cases h

theorem cell_spot {a : Addr} {v : Value} (h : W.cell? a = some v) : a.spot = none := by
  unfold World.cell? at h
  split at h
  · split at h
    · cases h
    · rename_i hs; simpa using hs
  · cases h

theorem rd_slice {t e z : Nat} {α : Type} [Inhabited α] {f : α → List A} (ht : P.underlying t = some (.slice e)) (hz : P.cellsOf e = z) (hz0 : 0 < z) (hf : ∀ a, (f a).length = z) (he : Rd enc P W e f) : Rd enc P W t (encS f) := fun fuel cs x h => by
  rcases Deep.open_slice ht h with ⟨rfl, _⟩ | ⟨a, len, cap, m, n, D, Pl, rfl, _, hl, hm, hmm, _, hx⟩
  · exact ⟨[], RelL.cons (.nil _ _) RelL.nil⟩
  · have hlm : len ≤ m := by rw [hmm]; simp; exact hl
    obtain ⟨Y, hY⟩ := Deep.choose_lt (α := α) (n := len) (p := fun i y => ∃ cs', W.cells? 0 (a.add (i * z)) z = some cs' ∧ RelL (Im W []) W (f y) cs') (fun i hi => by
      obtain ⟨cs', h1, h2⟩ := hx i (by omega)
      obtain ⟨y, hy⟩ := he _ _ _ h2
      rw [hz] at h1
      exact ⟨y, cs', h1, hy⟩)
    by_cases h0 : len = 0
    · subst h0
      exact ⟨[], RelL.cons (.nil _ _) RelL.nil⟩
    · refine ⟨(List.range len).map Y, RelL.cons ?_ RelL.nil⟩
      obtain ⟨cs0, h1, h2⟩ := hY 0 (by omega)
      obtain ⟨h3, h4⟩ := cells_get h1
      have c0 := h4 0 hz0 (by omega)
      have hsp : a.spot = none := by
        have := cell_spot c0
        simpa [Addr.add] using this
      obtain ⟨b, off, sp⟩ := a
      simp only at hsp
      subst hsp
      have hb : b < W.heap.size := by
        have := block_lt_of_cell c0
        rw [addr_add, addr_add] at this; exact this
      obtain ⟨V, hV⟩ := Deep.choose_lt (α := List Value) (n := len) (p := fun i cs' => W.cells? 0 ((⟨b, off, none⟩ : Addr).add (i * z)) z = some cs' ∧ RelL (Im W []) W (f (Y i)) cs') (fun i hi => hY i hi)
      have key : Rel (Im W []) W (.sl (((List.range len).map Y).map f)) (.slice (some ⟨b, off, none⟩) (((List.range len).map Y).map f).length cap) := by
        refine .sl _ b off cap z (fun i j => (V i).getD j undef) (im_nil hb) ?_ ?_ ?_ ?_ ?_
        · simp; unfold maxLn; unfold maxLen at hm; omega
        · simpa using hl
        · intro i hi; simpa using hf _
        · intro i j hi hj
          simp at hi
          obtain ⟨q1, q2⟩ := hV i hi
          obtain ⟨q3, q4⟩ := cells_get q1
          have := q4 j hj (by omega)
          rw [addr_add, addr_add] at this
          rw [← Nat.add_assoc, this]
          simp [show j < (V i).length by omega]
        · intro i j hi hj
          simp at hi hj
          obtain ⟨q1, q2⟩ := hV i hi
          have hjv : j < (V i).length := by rw [q2.1]; exact hj
          have := q2.2 j hj hjv
          simpa [hjv] using this
      simpa using key

/-! Structs, field by field. -/
/-- The fields fs lie one behind the other from cell o on, up to cell m, and are data by f. -/
def RdFs (enc : TypeId × Value → H) (P : Program) (W : World) (fs : List Field) (o m : Nat) {α : Type} (f : α → List A) : Prop :=
  ∀ n (cs : List Value), m ≤ cs.length → (∀ (i : Nat) (g : Field), fs[i]? = some g → ∃ y, DataW.trod enc P W 0 (fun _ => true) true n g.type ((cs.drop g.offset).take (P.cellsOf g.type)) = some y) →
    ∃ a : α, RelL (Im W []) W (f a) ((cs.drop o).take (m - o))

theorem rdFs_nil {o : Nat} : RdFs enc P W [] o o (fun _ : Unit => []) := fun n cs _ _ => ⟨(), by simpa using RelL.nil⟩

theorem rdFs_cons {g : Field} {fs : List Field} {o z m : Nat} {α β : Type} {f : α → List A} {k : β → List A} (ho : g.offset = o) (hz : P.cellsOf g.type = z) (hm : o + z ≤ m) (h1 : Rd enc P W g.type f) (h2 : RdFs enc P W fs (o + z) m k) :
    RdFs enc P W (g :: fs) o m (fun p : α × β => f p.1 ++ k p.2) := fun n cs hcs hall => by
  obtain ⟨y, hy⟩ := hall 0 g rfl
  rw [ho, hz] at hy
  obtain ⟨a, ra⟩ := h1 _ _ _ hy
  obtain ⟨b, rb⟩ := h2 n cs hcs (fun i g' hg => hall (i + 1) g' (by simpa using hg))
  refine ⟨(a, b), ?_⟩
  have : (cs.drop o).take (m - o) = (cs.drop o).take z ++ (cs.drop (o + z)).take (m - (o + z)) := by
    have e : m - o = z + (m - (o + z)) := by omega
    rw [e, List.take_add, List.drop_drop]
  rw [this]
  exact ra.append rb

theorem rd_struct {t m : Nat} {fs : Array Field} {α β : Type} {f : α → List A} {k : β → List A} (ht : P.underlying t = some (.struct fs)) (hm : P.cellsOf t = m) (hf : RdFs enc P W fs.toList 0 m k) (g : β → α) (hg : ∀ b, f (g b) = k b) : Rd enc P W t f := fun fuel cs x h => by
  obtain ⟨xs, n, _, _, hl, hlen, hall⟩ := DataW.trod_struct ht h
  rw [hm] at hl
  obtain ⟨b, rb⟩ := hf n cs (by omega) (fun i q hq => by
    have hq' : fs[i]? = some q := by simpa using hq
    have hi : i < xs.length := by rw [hlen]; exact (Array.getElem?_eq_some_iff.1 hq').1
    exact ⟨xs[i], by rw [hall i q hq']; exact List.getElem?_eq_getElem hi⟩)
  refine ⟨g b, ?_⟩
  rw [hg]
  simpa [← hl] using rb

/-- An argument of a struct type. -/
theorem open_st {r : Reach} {b0 : Nat} {t : TypeId} {fs : Array Field} {α : Type} {f : α → List A} {v : Value} {d : DataW H} {p : List MemPlace} (ht : P.underlying t = some (.struct fs)) (hr : Rd enc P W t f)
    (hv : Value.okWide P W r b0 t v) (h : DataW.Trod enc P W 0 (fun _ => true) true t v d p) : ∃ a : α, Rel (Im W []) W (.agg (f a)) v := by
  obtain ⟨cs, rfl, _⟩ := WideShapes.okWide_struct ht hv
  obtain ⟨fuel, hf⟩ := h
  obtain ⟨a, ra⟩ := hr _ _ _ hf
  exact ⟨a, .agg _ _ ra.1 ra.2⟩

/-- An argument of any other type. -/
theorem open_sc {t : TypeId} {α : Type} {f : α → A} {v : Value} {d : DataW H} {p : List MemPlace} (hr : Rd enc P W t (fun a => [f a])) (h1 : v.cells = #[v]) (h : DataW.Trod enc P W 0 (fun _ => true) true t v d p) : ∃ a : α, Rel (Im W []) W (f a) v := by
  obtain ⟨fuel, hf⟩ := h
  obtain ⟨a, ra⟩ := hr _ _ _ hf
  rw [h1] at ra
  obtain ⟨u, us, e1, r1, _⟩ := ra.uncons
  simp only [List.cons.injEq] at e1
  rw [e1.1]
  exact ⟨a, r1⟩

end
end Go.AI

/-
  Plain facts on lists of numbers: sums, counts. No condition.
-/
namespace Go.AI

/-- The sum of what f makes of the elements. -/
def sumF {α : Type} (f : α → Int) : List α → Int
  | [] => 0
  | x :: l => f x + sumF f l
theorem sumF_app {α : Type} (f : α → Int) (x : α) : ∀ l : List α, sumF f (l ++ [x]) = sumF f l + f x
  | [] => by simp [sumF]
  | y :: l => by
    have := sumF_app f x l
    simp only [List.cons_append, sumF, this]; omega
theorem sumF_succ {α : Type} (f : α → Int) {l : List α} {k : Nat} (h : k < l.length) : sumF f (l.take (k + 1)) = sumF f (l.take k) + f l[k] := by
  rw [List.take_succ_eq_append_getElem h, sumF_app]
theorem sumF_bnd {α : Type} (f : α → Int) {lo hi : Int} : ∀ (l : List α), (∀ x ∈ l, lo ≤ f x ∧ f x ≤ hi) → lo * l.length ≤ sumF f l ∧ sumF f l ≤ hi * l.length
  | [], _ => by simp [sumF]
  | x :: l, h => by
    have h1 := h x (by simp)
    have h2 := sumF_bnd f l (fun y hy => h y (by simp [hy]))
    have e : ∀ a : Int, a * ((x :: l).length : Int) = a * l.length + a := fun a => by
      rw [List.length_cons, Int.natCast_succ, Int.mul_add, Int.mul_one]
    rw [e, e, sumF]; omega
theorem sumF_take {α : Type} (f : α → Int) {lo hi : Int} (l : List α) (h : ∀ x ∈ l, lo ≤ f x ∧ f x ≤ hi) (k : Nat) (hk : k ≤ l.length) : lo * k ≤ sumF f (l.take k) ∧ sumF f (l.take k) ≤ hi * k := by
  have := sumF_bnd f (l.take k) (fun x hx => h x (List.mem_of_mem_take hx))
  rw [List.length_take, Nat.min_eq_left hk] at this; exact this
/-- The sum of numbers; how often a number is there. -/
def tot (l : List Int) : Int := sumF (fun x => x) l
def one (x y : Int) : Int := if y = x then 1 else 0
def occ (x : Int) (l : List Int) : Int := sumF (one x) l
theorem one_bnd (x y : Int) : 0 ≤ one x y ∧ one x y ≤ 1 := by unfold one; split <;> omega
theorem occ_take (x : Int) (l : List Int) (k : Nat) (hk : k ≤ l.length) : 0 ≤ sumF (one x) (l.take k) ∧ sumF (one x) (l.take k) ≤ k := by
  have := sumF_take (one x) l (fun y _ => one_bnd x y) k hk
  simpa using this

/-- The place of the first element of which r is true; -1 if there is none. -/
noncomputable def fIdx {α : Type} (r : α → Prop) (l : List α) : Int := if l.findIdx (fun x => dec (r x)) < l.length then (l.findIdx (fun x => dec (r x)) : Int) else -1
theorem fIdx_at {α : Type} {r : α → Prop} {l : List α} {k : Nat} (h : k < l.length) (hr : r l[k]) (hn : ∀ i (hi : i < l.length), i < k → ¬ r l[i]) : fIdx r l = k := by
  have e : l.findIdx (fun x => dec (r x)) = k := by
    rw [List.findIdx_eq h]
    exact ⟨dec_t hr, fun j hj => dec_f (hn j (by omega) hj)⟩
  unfold fIdx; rw [e, if_pos h]
theorem fIdx_none {α : Type} {r : α → Prop} {l : List α} (hn : ∀ i (hi : i < l.length), ¬ r l[i]) : fIdx r l = -1 := by
  have e : l.findIdx (fun x => dec (r x)) = l.length := by
    rw [List.findIdx_eq_length]
    intro x hx
    obtain ⟨i, hi, rfl⟩ := List.getElem_of_mem hx
    exact dec_f (hn i hi)
  unfold fIdx; rw [e, if_neg (Nat.lt_irrefl _)]
theorem fIdx_ex {α : Type} (r : α → Prop) (l : List α) : 0 ≤ fIdx r l ↔ ∃ x ∈ l, r x := by
  constructor
  · intro h
    unfold fIdx at h
    split at h
    · rename_i hl
      have := List.findIdx_getElem (xs := l) (p := fun x => dec (r x)) (w := hl)
      exact ⟨_, List.getElem_mem hl, by
        by_cases hr : r l[l.findIdx (fun x => dec (r x))]
        · exact hr
        · rw [dec_f hr] at this; cases this⟩
    · omega
  · rintro ⟨x, hx, hr⟩
    have : l.findIdx (fun x => dec (r x)) < l.length := List.findIdx_lt_length_of_exists ⟨x, hx, dec_t hr⟩
    unfold fIdx; rw [if_pos this]; omega

/-- Bags: from one to eight numbers from 0 to 1000. -/
def Bag (b : List Int) : Prop := (∀ x ∈ b, 0 ≤ x ∧ x ≤ 1000) ∧ 1 ≤ b.length ∧ b.length ≤ 8
theorem Bag.take {b : List Int} (h : Bag b) (k : Nat) (hk : k ≤ b.length) : 0 ≤ sumF (fun x => x) (b.take k) ∧ sumF (fun x => x) (b.take k) ≤ 1000 * k := by
  have := sumF_take (fun x => x) b h.1 k hk
  simpa using this
open Classical in
/-- The code of a condition, and a number under it. -/
noncomputable def cdP (p : Prop) : Int := if p then 0 else 1
open Classical in
noncomputable def numP (p : Prop) (n : Int) : Int := if p then n else 0
open Classical in
/-- The code of two conditions, one behind the other. -/
noncomputable def cd2 (p q : Prop) : Int := if p then (if q then 0 else 2) else 1
open Classical in
noncomputable def cd3 (p q r : Prop) : Int := if p then (if q then (if r then 0 else 4) else 2) else 1
/-- Lists whose sums stay within range. -/
def Small (b : List Int) : Prop := (∀ x ∈ b, -1000000000 ≤ x ∧ x ≤ 1000000000) ∧ b.length ≤ 1000000
theorem Bag.small {b : List Int} (h : Bag b) : Small b := ⟨fun x hx => by have := h.1 x hx; omega, by have := h.2; omega⟩
theorem Small.take {b : List Int} (h : Small b) (k : Nat) (hk : k ≤ b.length) : -1000000000 * k ≤ sumF (fun x => x) (b.take k) ∧ sumF (fun x => x) (b.take k) ≤ 1000000000 * k :=
  sumF_take (fun x => x) b h.1 k hk
end Go.AI

/-
  Sorting by merging: plain facts on lists. No condition.
-/
namespace Go.AI

/-- An order in which any two elements can be compared. -/
structure TotO {α : Type} (le : α → α → Prop) : Prop where
  tot : ∀ a b, le a b ∨ le b a
  tr : ∀ a b c, le a b → le b c → le a c
theorem TotO.rfl' {α : Type} {le : α → α → Prop} (h : TotO le) (a : α) : le a a := (h.tot a a).elim id id
section
variable {α : Type} {le : α → α → Prop}
theorem asc_at {l : List α} (h : l.Pairwise le) {i j : Nat} (hi : i < l.length) (hj : j < l.length) (q : i < j) : le l[i] l[j] := List.pairwise_iff_getElem.1 h i j hi hj q
theorem asc_le (ho : TotO le) {l : List α} (h : l.Pairwise le) {i j : Nat} (hi : i < l.length) (hj : j < l.length) (q : i ≤ j) : le l[i] l[j] := by
  rcases Nat.lt_or_eq_of_le q with r | r
  · exact asc_at h hi hj r
  · subst r; exact ho.rfl' _
theorem mem_take_at {l : List α} {s : Nat} {x : α} (h : x ∈ l.take s) : ∃ i, ∃ hi : i < l.length, i < s ∧ l[i] = x := by
  obtain ⟨i, hi, e⟩ := List.getElem_of_mem h
  rw [List.length_take] at hi
  rw [List.getElem_take] at e
  exact ⟨i, by omega, by omega, e⟩
theorem mem_drop_at {l : List α} {s : Nat} {x : α} (h : x ∈ l.drop s) : ∃ i, ∃ hi : i < l.length, s ≤ i ∧ l[i] = x := by
  obtain ⟨i, hi, e⟩ := List.getElem_of_mem h
  rw [List.length_drop] at hi
  rw [List.getElem_drop] at e
  exact ⟨s + i, by omega, by omega, e⟩
/-- Two ascending lists, each parted so that what is below goes before what is above. -/
theorem cross (ho : TotO le) {A B : List α} (hA : A.Pairwise le) (hB : B.Pairwise le) {s e : Nat} (hs : s ≤ A.length) (he : e ≤ B.length)
    (h1 : ∀ (p : 0 < s) (q : e < B.length), le (A[s - 1]'(by omega)) B[e]) (h2 : ∀ (p : 0 < e) (q : s < A.length), le (B[e - 1]'(by omega)) A[s]) :
    ∀ x ∈ A.take s ++ B.take e, ∀ y ∈ A.drop s ++ B.drop e, le x y := by
  intro x hx y hy
  rcases List.mem_append.1 hx with hx | hx
  · obtain ⟨i, hi, q1, rfl⟩ := mem_take_at hx
    rcases List.mem_append.1 hy with hy | hy
    · obtain ⟨j, hj, q2, rfl⟩ := mem_drop_at hy
      exact asc_at hA hi hj (by omega)
    · obtain ⟨j, hj, q2, rfl⟩ := mem_drop_at hy
      exact ho.tr _ _ _ (asc_le ho hA hi (by omega) (by omega)) (ho.tr _ _ _ (h1 (by omega) (by omega)) (asc_le ho hB (by omega) hj q2))
  · obtain ⟨i, hi, q1, rfl⟩ := mem_take_at hx
    rcases List.mem_append.1 hy with hy | hy
    · obtain ⟨j, hj, q2, rfl⟩ := mem_drop_at hy
      exact ho.tr _ _ _ (asc_le ho hB hi (by omega) (by omega)) (ho.tr _ _ _ (h2 (by omega) (by omega)) (asc_le ho hA (by omega) hj q2))
    · obtain ⟨j, hj, q2, rfl⟩ := mem_drop_at hy
      exact asc_at hB hi hj (by omega)
theorem merge_of {A B M N : List α} {s e : Nat} (hx : ∀ x ∈ A.take s ++ B.take e, ∀ y ∈ A.drop s ++ B.drop e, le x y)
    (hM : M.Perm (A.take s ++ B.take e)) (hN : N.Perm (A.drop s ++ B.drop e)) (sM : M.Pairwise le) (sN : N.Pairwise le) : (M ++ N).Perm (A ++ B) ∧ (M ++ N).Pairwise le := by
  refine ⟨?_, List.pairwise_append.2 ⟨sM, sN, fun x h1 y h2 => hx x (hM.mem_iff.1 h1) y (hN.mem_iff.1 h2)⟩⟩
  have h1 : (M ++ N).Perm ((A.take s ++ B.take e) ++ (A.drop s ++ B.drop e)) := hM.append hN
  refine h1.trans ?_
  have h2 : ((A.take s ++ B.take e) ++ (A.drop s ++ B.drop e)).Perm ((A.take s ++ A.drop s) ++ (B.take e ++ B.drop e)) := by
    rw [List.append_assoc, List.append_assoc]
    refine List.Perm.append_left _ ?_
    rw [← List.append_assoc, ← List.append_assoc]
    exact List.Perm.append_right _ List.perm_append_comm
  rw [List.take_append_drop, List.take_append_drop] at h2
  exact h2
/-- An element put into an ascending list. -/
def insAt (t : Nat) (x : α) (l : List α) : List α := l.take t ++ x :: l.drop t
theorem insAt_len (t : Nat) (x : α) (l : List α) : (insAt t x l).length = l.length + 1 := by
  unfold insAt
  rw [List.length_append, List.length_cons, List.length_take, List.length_drop]; omega
theorem insAt_perm (t : Nat) (x : α) (l : List α) : (insAt t x l).Perm (x :: l) := by
  unfold insAt
  have := List.perm_middle (a := x) (l₁ := l.take t) (l₂ := l.drop t)
  rw [List.take_append_drop] at this
  exact this
theorem insAt_asc (ho : TotO le) {t : Nat} {x : α} {l : List α} (h : l.Pairwise le) (ht : t ≤ l.length) (h1 : ∀ p : 0 < t, le (l[t - 1]'(by omega)) x) (h2 : ∀ q : t < l.length, le x l[t]) : (insAt t x l).Pairwise le := by
  unfold insAt
  have hs : (l.take t ++ l.drop t).Pairwise le := by rw [List.take_append_drop]; exact h
  obtain ⟨s1, s2, s3⟩ := List.pairwise_append.1 hs
  have b1 : ∀ y ∈ l.take t, le y x := fun y hy => by
    obtain ⟨i, hi, q, rfl⟩ := mem_take_at hy
    exact ho.tr _ _ _ (asc_le ho h hi (by omega) (by omega)) (h1 (by omega))
  have b2 : ∀ y ∈ l.drop t, le x y := fun y hy => by
    obtain ⟨i, hi, q, rfl⟩ := mem_drop_at hy
    exact ho.tr _ _ _ (h2 (by omega)) (asc_le ho h (by omega) hi q)
  refine List.pairwise_append.2 ⟨s1, List.pairwise_cons.2 ⟨b2, s2⟩, fun y hy z hz => ?_⟩
  rcases List.mem_cons.1 hz with rfl | hz
  · exact b1 y hy
  · exact s3 y hy z hz
theorem insAt_zero (x : α) (l : List α) : insAt 0 x l = x :: l := rfl
theorem insAt_all (x : α) (l : List α) : insAt l.length x l = l ++ [x] := by unfold insAt; rw [List.take_length, List.drop_length]
theorem insAt_up {t : Nat} (x : α) {l : List α} (ht : t < l.length) : insAt t x l = l.take t ++ x :: l[t] :: l.drop (t + 1) := by
  unfold insAt; rw [List.drop_eq_getElem_cons ht]
theorem insAt_dn {t : Nat} (x : α) {l : List α} (ht : t < l.length) : insAt (t + 1) x l = l.take t ++ l[t] :: x :: l.drop (t + 1) := by
  unfold insAt; rw [List.take_succ_eq_append_getElem ht, List.append_assoc]; rfl
/-- Neighbours change places. -/
theorem swap_nb (U V : List α) (x y : α) : ((U ++ x :: y :: V).set U.length y).set (U.length + 1) x = U ++ y :: x :: V := by
  rw [List.set_append_right _ _ (Nat.le_refl _), Nat.sub_self, List.set_cons_zero, List.set_append_right _ _ (by omega), show U.length + 1 - U.length = 1 from by omega]
  rfl
theorem swap_nb' (U V : List α) (x y : α) : ((U ++ x :: y :: V).set (U.length + 1) x).set U.length y = U ++ y :: x :: V := by
  rw [List.set_append_right _ _ (by omega), show U.length + 1 - U.length = 1 from by omega, List.set_append_right _ _ (Nat.le_refl _), Nat.sub_self]
  rfl
/-- Two far elements change places. -/
theorem swap_far (U M V : List α) (x y : α) : ((U ++ x :: (M ++ y :: V)).set U.length y).set (U.length + 1 + M.length) x = U ++ y :: (M ++ x :: V) := by
  rw [List.set_append_right _ _ (Nat.le_refl _), Nat.sub_self, List.set_cons_zero, List.set_append_right _ _ (by omega), show U.length + 1 + M.length - U.length = M.length + 1 from by omega, List.set_cons_succ, List.set_append_right _ _ (Nat.le_refl _), Nat.sub_self, List.set_cons_zero]
/-- Two stretches, of which the first k elements have changed places. -/
def swK (U X M Y V : List α) (k : Nat) : List α := U ++ (Y.take k ++ X.drop k) ++ M ++ (X.take k ++ Y.drop k) ++ V
theorem swK_zero (U X M Y V : List α) : swK U X M Y V 0 = U ++ X ++ M ++ Y ++ V := by unfold swK; simp
theorem swK_all {U X M Y V : List α} {n : Nat} (hx : X.length = n) (hy : Y.length = n) : swK U X M Y V n = U ++ Y ++ M ++ X ++ V := by
  unfold swK
  rw [List.take_of_length_le (Nat.le_of_eq hy), List.drop_eq_nil_of_le (Nat.le_of_eq hx), List.take_of_length_le (Nat.le_of_eq hx), List.drop_eq_nil_of_le (Nat.le_of_eq hy), List.append_nil, List.append_nil]
theorem swK_len {U X M Y V : List α} {n : Nat} (hx : X.length = n) (hy : Y.length = n) {k : Nat} (hk : k ≤ n) : (swK U X M Y V k).length = U.length + n + M.length + n + V.length := by
  unfold swK
  simp only [List.length_append, List.length_take, List.length_drop]
  omega
theorem swK_form {U X M Y V : List α} {n : Nat} (hx : X.length = n) (hy : Y.length = n) {k : Nat} (hk : k < n) :
    swK U X M Y V k = (U ++ Y.take k) ++ (X[k]'(by omega)) :: ((X.drop (k + 1) ++ M ++ X.take k) ++ (Y[k]'(by omega)) :: (Y.drop (k + 1) ++ V)) := by
  unfold swK
  rw [List.drop_eq_getElem_cons (show k < X.length by omega), List.drop_eq_getElem_cons (show k < Y.length by omega)]
  simp only [List.append_assoc, List.cons_append]
theorem swK_next {U X M Y V : List α} {n : Nat} (hx : X.length = n) (hy : Y.length = n) {k : Nat} (hk : k < n) :
    ((swK U X M Y V k).set (U.length + k) (Y[k]'(by omega))).set (U.length + n + M.length + k) (X[k]'(by omega)) = swK U X M Y V (k + 1) := by
  rw [swK_form hx hy hk]
  have e1 : (U ++ Y.take k).length = U.length + k := by rw [List.length_append, List.length_take]; omega
  have e2 : (U ++ Y.take k).length + 1 + (X.drop (k + 1) ++ M ++ X.take k).length = U.length + n + M.length + k := by
    simp only [List.length_append, List.length_drop, List.length_take]; omega
  rw [← e1, ← e2, swap_far]
  unfold swK
  rw [List.take_succ_eq_append_getElem (show k < Y.length by omega), List.take_succ_eq_append_getElem (show k < X.length by omega)]
  simp only [List.append_assoc, List.cons_append, List.nil_append]
theorem swK_x {U X M Y V : List α} {n : Nat} (hx : X.length = n) (hy : Y.length = n) {k : Nat} (hk : k < n) (h : U.length + k < (swK U X M Y V k).length) : (swK U X M Y V k)[U.length + k] = X[k]'(by omega) := by
  have e : (swK U X M Y V k)[U.length + k]? = some (X[k]'(by omega)) := by
    have e1 : (U ++ Y.take k).length = U.length + k := by rw [List.length_append, List.length_take]; omega
    rw [swK_form hx hy hk, ← e1, List.getElem?_append_right (Nat.le_refl _), Nat.sub_self]; rfl
  rw [List.getElem?_eq_getElem h] at e
  exact Option.some.inj e
theorem swK_y {U X M Y V : List α} {n : Nat} (hx : X.length = n) (hy : Y.length = n) {k : Nat} (hk : k < n) (h : U.length + n + M.length + k < (swK U X M Y V k).length) : (swK U X M Y V k)[U.length + n + M.length + k] = Y[k]'(by omega) := by
  have e : (swK U X M Y V k)[U.length + n + M.length + k]? = some (Y[k]'(by omega)) := by
    have e2 : (U ++ Y.take k).length + 1 + (X.drop (k + 1) ++ M ++ X.take k).length = U.length + n + M.length + k := by
      simp only [List.length_append, List.length_drop, List.length_take]; omega
    rw [swK_form hx hy hk, ← e2, List.getElem?_append_right (by omega), show (U ++ Y.take k).length + 1 + (X.drop (k + 1) ++ M ++ X.take k).length - (U ++ Y.take k).length = (X.drop (k + 1) ++ M ++ X.take k).length + 1 from by omega, List.getElem?_cons_succ, List.getElem?_append_right (Nat.le_refl _), Nat.sub_self]; rfl
  rw [List.getElem?_eq_getElem h] at e
  exact Option.some.inj e
/-- Stretches of so many elements, each ascending, from the place a on. -/
def Blocks (le : α → α → Prop) (bs : Nat) (l : List α) : Prop := ∀ q, ((l.drop (q * bs)).take bs).Pairwise le
theorem Blocks.one {bs : Nat} {l : List α} (h : Blocks le bs l) (hl : l.length ≤ bs) : l.Pairwise le := by
  have := h 0
  rw [Nat.zero_mul, List.drop_zero, List.take_of_length_le hl] at this
  exact this
end
end Go.AI

/-
  More rules of the walk: elements of lists of the call's own, the tail of a list. No condition.
-/
namespace Go.AI
open Go.RowKit

section
variable {C : Cx} {n : Nat} {Q : Exit → Env → Heap → Prop} {e : Env} {h h' : Heap} {d : Bool} {l os : List Oper} {o : Oper} {f : Fl} {fs : List Fl} {B : List (Nat × Blk)}
theorem drop_flat {α : Type} {g : α → List A} {z : Nat} (hz : ∀ y, (g y).length = z) : ∀ (L : List α) (m : Nat) (hm : m < L.length), (L.map g).flatten.drop (m * z) = g L[m] ++ ((L.drop (m + 1)).map g).flatten
  | [], m, hm => absurd hm (Nat.not_lt_zero _)
  | x :: L, 0, hm => by simp
  | x :: L, m + 1, hm => by
    have ih := drop_flat hz L m (by simpa using hm)
    simp only [List.map_cons, List.flatten_cons, List.drop_succ_cons, List.getElem_cons_succ]
    have e1 : (m + 1) * z = (g x).length + m * z := by rw [hz, Nat.succ_mul]; omega
    rw [e1, List.drop_length_add_append]; exact ih

/-- '.. = s[m]', s a list of the call's own. -/
theorem j_mloadE (i m : Nat) {α : Type} {g : α → List A} {L : List α} {z : Nat} {T b p T' room dd : Nat} {x : Operand} {v : A} (hw : wantE l e o = some true) (ho : o.op = .load T x) (hx : evO e x = some (.op (some b) p)) (hi : h[i]? = some ⟨some b, T', room, (L.map g).flatten⟩)
    (hz : ∀ y, (g y).length = z) (hp : p = m * z) (hm : m < L.length) (hv : ∀ rest, loadA C.ty T (g L[m] ++ rest) = some v) (hd : o.dst = some dd) (hn : Nat.blt dd n = true) (hj : J d C n l os Q ((dd, v) :: e) h) : J d C n l (o :: os) Q e h :=
  j_mload i hw ho hx hi (by rw [hp, drop_flat hz L m hm]; exact hv _) hd hn hj
theorem j_mloadEO (i m : Nat) {α : Type} {g : α → List A} {L : List α} {z : Nat} {T b p T' room dd : Nat} {x : Operand} {v : A} (ht : f.tight = true) (hw : wantE l e o = some true) (ho : o.op = .load T x) (hx : evO e x = some (.op (some b) p)) (hi : h[i]? = some ⟨some b, T', room, (L.map g).flatten⟩)
    (hz : ∀ y, (g y).length = z) (hp : p = m * z) (hm : m < L.length) (hv : ∀ rest, loadA C.ty T (g L[m] ++ rest) = some v) (hd : o.dst = some dd) (hn : Nat.blt dd n = true) (hj : JO fs B C n l os Q ((dd, v) :: e) h) : JO (f :: fs) B C n l (o :: os) Q e h :=
  j_mloadO i ht hw ho hx hi (by rw [hp, drop_flat hz L m hm]; exact hv _) hd hn hj
end
end Go.AI
