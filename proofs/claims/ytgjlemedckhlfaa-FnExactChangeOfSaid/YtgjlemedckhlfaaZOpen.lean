/-
  What came in, read as plain data. No condition.
-/
import Derived.Test.YtgjlemedckhlfaaZRun
import Derived.ProofKit
import Derived.Deep.Slices
namespace Go.AI
open Go.RowKit

section
variable {H : Type} {enc : TypeId × Value → H} {P : Program} {W : World}

/-- Cells of type t that are read as data are data by f. -/
def Rd (enc : TypeId × Value → H) (P : Program) (W : World) (t : TypeId) {α : Type} (f : α → List A) : Prop :=
  ∀ fuel cs x, DataW.trod enc P W 0 (fun _ => true) true fuel t cs = some x → ∃ a : α, RelL (Im W []) W (f a) cs

theorem im_nil {b : Nat} (h : b < W.heap.size) : Im W [] b := ⟨h, by simp [keys]⟩

def encI (n : Int) : List A := [.int n]
def encB (b : Bool) : List A := [.raw (.bool b)]
def encS {α : Type} (f : α → List A) (l : List α) : List A := [.sl (l.map f)]

theorem rd_int {t : TypeId} (ht : P.underlying t = some (.int .i64)) : Rd enc P W t encI := fun fuel cs x h => by
  obtain ⟨n, rfl, _, hw⟩ := DataW.trod_int ht h
  refine ⟨n, RelL.cons (.int n ?_) RelL.nil⟩
  have := hw
  simp [Lit.wf, IntKind.min, IntKind.max, IntKind.signed, IntKind.bits] at this
  unfold InR; omega
theorem rd_bool {t : TypeId} (ht : P.underlying t = some .bool) : Rd enc P W t encB := fun fuel cs x h => by
  obtain ⟨b, rfl, _⟩ := DataW.trod_bool ht h
  exact ⟨b, RelL.cons (.raw _) RelL.nil⟩
theorem mapM_some_get {α β : Type} {f : α → Option β} : ∀ {l : List α} {r : List β}, l.mapM f = some r → r.length = l.length ∧ ∀ i (hi : i < l.length) (hi' : i < r.length), f l[i] = some r[i]
  | [], r, h => by simp at h; subst h; exact ⟨rfl, fun i hi => absurd hi (Nat.not_lt_zero _)⟩
  | a :: l, r, h => by
    rw [List.mapM_cons] at h
    cases ha : f a with
    | none => rw [ha] at h; simp at h
    | some b =>
      cases hl : l.mapM f with
      | none => rw [ha, hl] at h; simp at h
      | some bs =>
        rw [ha, hl] at h
        simp at h
        subst h
        obtain ⟨h1, h2⟩ := mapM_some_get hl
        refine ⟨by simp [h1], fun i hi hi' => ?_⟩
        cases i with
        | zero => simpa using ha
        | succ i => simpa using h2 i (by simpa using hi) (by simpa using hi')

theorem cells_get {base : Nat} {a : Addr} {n : Nat} {cs : List Value} (h : W.cells? base a n = some cs) : cs.length = n ∧ ∀ j (hj : j < n) (hj' : j < cs.length), W.cell? (a.add j) = some cs[j] := by
  unfold World.cells? at h
  split at h
  · obtain ⟨h1, h2⟩ := mapM_some_get h
    simp at h1
    exact ⟨h1, fun j hj hj' => by have := h2 j (by simpa using hj) hj'; simpa using this⟩
  · cases h

theorem cell_spot {a : Addr} {v : Value} (h : W.cell? a = some v) : a.spot = none := by
  unfold World.cell? at h
  split at h
  · split at h
    · cases h
    · rename_i hs; simpa using hs
  · cases h

theorem rd_slice {t e z : Nat} {α : Type} [Inhabited α] {f : α → List A} (ht : P.underlying t = some (.slice e)) (hz : P.cellsOf e = z) (hz0 : 0 < z) (hf : ∀ a, (f a).length = z) (he : Rd enc P W e f) : Rd enc P W t (encS f) := fun fuel cs x h => by
  rcases Deep.open_slice ht h with ⟨rfl, _⟩ | ⟨a, len, cap, m, n, D, Pl, rfl, _, hl, hm, hmm, _, hx⟩
  · exact ⟨[], RelL.cons (.nil _ _) RelL.nil⟩
  · have hlm : len ≤ m := by rw [hmm]; simp; exact hl
    obtain ⟨Y, hY⟩ := Deep.choose_lt (α := α) (n := len) (p := fun i y => ∃ cs', W.cells? 0 (a.add (i * z)) z = some cs' ∧ RelL (Im W []) W (f y) cs') (fun i hi => by
      obtain ⟨cs', h1, h2⟩ := hx i (by omega)
      obtain ⟨y, hy⟩ := he _ _ _ h2
      rw [hz] at h1
      exact ⟨y, cs', h1, hy⟩)
    by_cases h0 : len = 0
    · subst h0
      exact ⟨[], RelL.cons (.nil _ _) RelL.nil⟩
    · refine ⟨(List.range len).map Y, RelL.cons ?_ RelL.nil⟩
      obtain ⟨cs0, h1, h2⟩ := hY 0 (by omega)
      obtain ⟨h3, h4⟩ := cells_get h1
      have c0 := h4 0 hz0 (by omega)
      have hsp : a.spot = none := by
        have := cell_spot c0
        simpa [Addr.add] using this
      obtain ⟨b, off, sp⟩ := a
      simp only at hsp
      subst hsp
      have hb : b < W.heap.size := by
        have := block_lt_of_cell c0
        rw [addr_add, addr_add] at this; exact this
      obtain ⟨V, hV⟩ := Deep.choose_lt (α := List Value) (n := len) (p := fun i cs' => W.cells? 0 ((⟨b, off, none⟩ : Addr).add (i * z)) z = some cs' ∧ RelL (Im W []) W (f (Y i)) cs') (fun i hi => hY i hi)
      have key : Rel (Im W []) W (.sl (((List.range len).map Y).map f)) (.slice (some ⟨b, off, none⟩) (((List.range len).map Y).map f).length cap) := by
        refine .sl _ b off cap z (fun i j => (V i).getD j undef) (im_nil hb) ?_ ?_ ?_ ?_ ?_
        · simp; unfold maxLn; unfold maxLen at hm; omega
        · simpa using hl
        · intro i hi; simpa using hf _
        · intro i j hi hj
          simp at hi
          obtain ⟨q1, q2⟩ := hV i hi
          obtain ⟨q3, q4⟩ := cells_get q1
          have := q4 j hj (by omega)
          rw [addr_add, addr_add] at this
          rw [← Nat.add_assoc, this]
          simp [show j < (V i).length by omega]
        · intro i j hi hj
          simp at hi hj
          obtain ⟨q1, q2⟩ := hV i hi
          have hjv : j < (V i).length := by rw [q2.1]; exact hj
          have := q2.2 j hj hjv
          simpa [hjv] using this
      simpa using key

/-! Structs, field by field. -/
/-- The fields fs lie one behind the other from cell o on, up to cell m, and are data by f. -/
def RdFs (enc : TypeId × Value → H) (P : Program) (W : World) (fs : List Field) (o m : Nat) {α : Type} (f : α → List A) : Prop :=
  ∀ n (cs : List Value), m ≤ cs.length → (∀ (i : Nat) (g : Field), fs[i]? = some g → ∃ y, DataW.trod enc P W 0 (fun _ => true) true n g.type ((cs.drop g.offset).take (P.cellsOf g.type)) = some y) →
    ∃ a : α, RelL (Im W []) W (f a) ((cs.drop o).take (m - o))

theorem rdFs_nil {o : Nat} : RdFs enc P W [] o o (fun _ : Unit => []) := fun n cs _ _ => ⟨(), by simpa using RelL.nil⟩

theorem rdFs_cons {g : Field} {fs : List Field} {o z m : Nat} {α β : Type} {f : α → List A} {k : β → List A} (ho : g.offset = o) (hz : P.cellsOf g.type = z) (hm : o + z ≤ m) (h1 : Rd enc P W g.type f) (h2 : RdFs enc P W fs (o + z) m k) :
    RdFs enc P W (g :: fs) o m (fun p : α × β => f p.1 ++ k p.2) := fun n cs hcs hall => by
  obtain ⟨y, hy⟩ := hall 0 g rfl
  rw [ho, hz] at hy
  obtain ⟨a, ra⟩ := h1 _ _ _ hy
  obtain ⟨b, rb⟩ := h2 n cs hcs (fun i g' hg => hall (i + 1) g' (by simpa using hg))
  refine ⟨(a, b), ?_⟩
  have : (cs.drop o).take (m - o) = (cs.drop o).take z ++ (cs.drop (o + z)).take (m - (o + z)) := by
    have e : m - o = z + (m - (o + z)) := by omega
    rw [e, List.take_add, List.drop_drop]
  rw [this]
  exact ra.append rb

theorem rd_struct {t m : Nat} {fs : Array Field} {α β : Type} {f : α → List A} {k : β → List A} (ht : P.underlying t = some (.struct fs)) (hm : P.cellsOf t = m) (hf : RdFs enc P W fs.toList 0 m k) (g : β → α) (hg : ∀ b, f (g b) = k b) : Rd enc P W t f := fun fuel cs x h => by
  obtain ⟨xs, n, _, _, hl, hlen, hall⟩ := DataW.trod_struct ht h
  rw [hm] at hl
  obtain ⟨b, rb⟩ := hf n cs (by omega) (fun i q hq => by
    have hq' : fs[i]? = some q := by simpa using hq
    have hi : i < xs.length := by rw [hlen]; exact (Array.getElem?_eq_some_iff.1 hq').1
    exact ⟨xs[i], by rw [hall i q hq']; exact List.getElem?_eq_getElem hi⟩)
  refine ⟨g b, ?_⟩
  rw [hg]
  simpa [← hl] using rb

/-- An argument of a struct type. -/
theorem open_st {r : Reach} {b0 : Nat} {t : TypeId} {fs : Array Field} {α : Type} {f : α → List A} {v : Value} {d : DataW H} {p : List MemPlace} (ht : P.underlying t = some (.struct fs)) (hr : Rd enc P W t f)
    (hv : Value.okWide P W r b0 t v) (h : DataW.Trod enc P W 0 (fun _ => true) true t v d p) : ∃ a : α, Rel (Im W []) W (.agg (f a)) v := by
  obtain ⟨cs, rfl, _⟩ := WideShapes.okWide_struct ht hv
  obtain ⟨fuel, hf⟩ := h
  obtain ⟨a, ra⟩ := hr _ _ _ hf
  exact ⟨a, .agg _ _ ra.1 ra.2⟩

/-- An argument of any other type. -/
theorem open_sc {t : TypeId} {α : Type} {f : α → A} {v : Value} {d : DataW H} {p : List MemPlace} (hr : Rd enc P W t (fun a => [f a])) (h1 : v.cells = #[v]) (h : DataW.Trod enc P W 0 (fun _ => true) true t v d p) : ∃ a : α, Rel (Im W []) W (f a) v := by
  obtain ⟨fuel, hf⟩ := h
  obtain ⟨a, ra⟩ := hr _ _ _ hf
  rw [h1] at ra
  obtain ⟨u, us, e1, r1, _⟩ := ra.uncons
  simp only [List.cons.injEq] at e1
  rw [e1.1]
  exact ⟨a, r1⟩

end
end Go.AI
