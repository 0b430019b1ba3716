/-
  What came in, read as plain data. No condition.
-/
import Derived.Test.YtkfmjjoalkoncaaGreatZRun
import Derived.ProofKit
import Derived.Deep.Slices
import Derived.Test.YtkfmjjoalkoncaaGreatZJO
import Derived.Test.YtkfmjjoalkoncaaGreatZEnd
import Derived.KernelRfl
namespace Go.AI
open Go.RowKit

section
variable {H : Type} {enc : TypeId × Value → H} {P : Program} {W : World}

/-- Cells of type t that are read as data are data by f. -/
def Rd (enc : TypeId × Value → H) (P : Program) (W : World) (t : TypeId) {α : Type} (f : α → List A) : Prop :=
  ∀ fuel cs x, DataW.trod enc P W 0 (fun _ => true) true fuel t cs = some x → ∃ a : α, RelL (Im W []) W (f a) cs

theorem im_nil {b : Nat} (h : b < W.heap.size) : Im W [] b := ⟨h, by simp [keys]⟩

def encI (n : Int) : List A := [.int n]
def encB (b : Bool) : List A := [.raw (.bool b)]
def encS {α : Type} (f : α → List A) (l : List α) : List A := [.sl (l.map f)]

theorem mapM_some_get {α β : Type} {f : α → Option β} : ∀ {l : List α} {r : List β}, l.mapM f = some r → r.length = l.length ∧ ∀ i (hi : i < l.length) (hi' : i < r.length), f l[i] = some r[i]
  | [], r, h => by simp at h; subst h; exact ⟨rfl, fun i hi => absurd hi (Nat.not_lt_zero _)⟩
  | a :: l, r, h => by
    rw [List.mapM_cons] at h
    cases ha : f a with
    | none => rw [ha] at h; simp at h
    | some b =>
      cases hl : l.mapM f with
      | none => rw [ha, hl] at h; simp at h
      | some bs =>
        rw [ha, hl] at h
        simp at h
        subst h
        obtain ⟨h1, h2⟩ := mapM_some_get hl
        refine ⟨by simp [h1], fun i hi hi' => ?_⟩
        cases i with
        | zero => simpa using ha
        | succ i => simpa using h2 i (by simpa using hi) (by simpa using hi')

theorem cells_get {base : Nat} {a : Addr} {n : Nat} {cs : List Value} (h : W.cells? base a n = some cs) : cs.length = n ∧ ∀ j (hj : j < n) (hj' : j < cs.length), W.cell? (a.add j) = some cs[j] := by
  unfold World.cells? at h
  split at h
  · obtain ⟨h1, h2⟩ := mapM_some_get h
    simp at h1
    exact ⟨h1, fun j hj hj' => by have := h2 j (by simpa using hj) hj'; simpa using this⟩
  · cases h

theorem cell_spot {a : Addr} {v : Value} (h : W.cell? a = some v) : a.spot = none := by
  unfold World.cell? at h
  split at h
  · split at h
    · cases h
    · rename_i hs; simpa using hs
  · cases h

theorem rd_slice {t e z : Nat} {α : Type} [Inhabited α] {f : α → List A} (ht : P.underlying t = some (.slice e)) (hz : P.cellsOf e = z) (hz0 : 0 < z) (hf : ∀ a, (f a).length = z) (he : Rd enc P W e f) : Rd enc P W t (encS f) := fun fuel cs x h => by
  rcases Deep.open_slice ht h with ⟨rfl, _⟩ | ⟨a, len, cap, m, n, D, Pl, rfl, _, hl, hm, hmm, _, hx⟩
  · exact ⟨[], RelL.cons (.nil _ _) RelL.nil⟩
  · have hlm : len ≤ m := by rw [hmm]; simp; exact hl
    obtain ⟨Y, hY⟩ := Deep.choose_lt (α := α) (n := len) (p := fun i y => ∃ cs', W.cells? 0 (a.add (i * z)) z = some cs' ∧ RelL (Im W []) W (f y) cs') (fun i hi => by
      obtain ⟨cs', h1, h2⟩ := hx i (by omega)
      obtain ⟨y, hy⟩ := he _ _ _ h2
      rw [hz] at h1
      exact ⟨y, cs', h1, hy⟩)
    by_cases h0 : len = 0
    · subst h0
      exact ⟨[], RelL.cons (.nil _ _) RelL.nil⟩
    · refine ⟨(List.range len).map Y, RelL.cons ?_ RelL.nil⟩
      obtain ⟨cs0, h1, h2⟩ := hY 0 (by omega)
      obtain ⟨h3, h4⟩ := cells_get h1
      have c0 := h4 0 hz0 (by omega)
      have hsp : a.spot = none := by
        have := cell_spot c0
        simpa [Addr.add] using this
      obtain ⟨b, off, sp⟩ := a
      simp only at hsp
      subst hsp
      have hb : b < W.heap.size := by
        have := block_lt_of_cell c0
        rw [addr_add, addr_add] at this; exact this
      obtain ⟨V, hV⟩ := Deep.choose_lt (α := List Value) (n := len) (p := fun i cs' => W.cells? 0 ((⟨b, off, none⟩ : Addr).add (i * z)) z = some cs' ∧ RelL (Im W []) W (f (Y i)) cs') (fun i hi => hY i hi)
      have key : Rel (Im W []) W (.sl (((List.range len).map Y).map f)) (.slice (some ⟨b, off, none⟩) (((List.range len).map Y).map f).length cap) := by
        refine .sl _ b off cap z (fun i j => (V i).getD j undef) (im_nil hb) ?_ ?_ ?_ ?_ ?_
        · simp; unfold maxLn; unfold maxLen at hm; omega
        · simpa using hl
        · intro i hi; simpa using hf _
        · intro i j hi hj
          simp at hi
          obtain ⟨q1, q2⟩ := hV i hi
          obtain ⟨q3, q4⟩ := cells_get q1
          have := q4 j hj (by omega)
          rw [addr_add, addr_add] at this
          rw [← Nat.add_assoc, this]
          simp [show j < (V i).length by omega]
        · intro i j hi hj
          simp at hi hj
          obtain ⟨q1, q2⟩ := hV i hi
          have hjv : j < (V i).length := by rw [q2.1]; exact hj
          have := q2.2 j hj hjv
          simpa [hjv] using this
      simpa using key

/-! Structs, field by field. -/
/-- An argument of any other type. -/
theorem open_sc {t : TypeId} {α : Type} {f : α → A} {v : Value} {d : DataW H} {p : List MemPlace} (hr : Rd enc P W t (fun a => [f a])) (h1 : v.cells = #[v]) (h : DataW.Trod enc P W 0 (fun _ => true) true t v d p) : ∃ a : α, Rel (Im W []) W (f a) v := by
  obtain ⟨fuel, hf⟩ := h
  obtain ⟨a, ra⟩ := hr _ _ _ hf
  rw [h1] at ra
  obtain ⟨u, us, e1, r1, _⟩ := ra.uncons
  simp only [List.cons.injEq] at e1
  rw [e1.1]
  exact ⟨a, r1⟩

end
end Go.AI

/-
  Plain facts on copies in memory of the call's own. No condition.
-/
namespace Go.AI
open Go.RowKit
theorem OwnSl.clo {α : Type} {E : α → List A → Heap → Prop} {T z : Nat} {xs : List α} {a : A} {h : Heap} (hE : ∀ x cs h, E x cs h → CloL cs ∧ CloH h) (o : OwnSl E T z xs a h) : Clo a ∧ CloH h := by
  obtain ⟨b, css, hs, l1, l2, hall, rfl, rfl⟩ := o
  refine ⟨Clo.os _ _ _, CloH.cons (CloL.flat fun cs hc => ?_) (CloH.flat fun x hx => ?_)⟩
  · obtain ⟨c, hc1, rfl⟩ := List.mem_map.1 hc
    obtain ⟨i, hi, rfl⟩ := List.mem_iff_getElem.1 hc1
    exact (hE _ _ _ (hall i (by omega) hi (by omega))).1
  · obtain ⟨i, hi, rfl⟩ := List.mem_iff_getElem.1 hx
    exact (hE _ _ _ (hall i (by omega) (by omega) hi)).2
/-- .. read only from here on. -/
def FrzF (h1 : Heap) (a a' : A) : Prop := ∀ (F : Heap) (w : World) (v : Value), HeapOk (h1 ++ F) w → Rel (Im w (h1 ++ F)) w a v → Rel (Im w F) w a' v
theorem FrzF.tup2 {h1 : Heap} {a a' c : A} (H : FrzF h1 a a') (hc : Clo c) : FrzF h1 (.tup [a, c]) (.tup [a', c]) := fun F w v ho r => by
  obtain ⟨vs, rfl, rl⟩ := r.tup_inv
  obtain ⟨v1, us, rfl, h1, h2⟩ := rl.uncons
  have := RelL.cons (H F w v1 ho h1) ((CloL.cons hc CloL.nil).rel h2)
  exact .tup _ _ this.1 this.2
theorem FrzF.flat {α : Type} {g : α → List A} {ys : List α} {z n : Nat} {b : Option Nat} {T room cap : Nat} {cs : List A} (hn : n = ys.length) (hcs : cs = (ys.map g).flatten) (hz : ∀ y, (g y).length = z) (hroom : room = cap * z) (hz0 : Nat.blt 0 z = true) : FrzF [⟨b, T, room, cs⟩] (.os b n cap) (.sl (ys.map g)) := fun F w v ho r => by
  have q := Frz.flat (g := g) (z := z) (T := T) hn hcs hz hroom hz0 ([⟨b, T, room, cs⟩] ++ F) w v (fun k hk => List.mem_append_left _ hk) ho r
  subst hn
  cases b with
  | none =>
    obtain ⟨h1, h2, p, h3⟩ := r.osn_inv
    have : ys = [] := List.eq_nil_of_length_eq_zero h1
    subst this
    rw [h3]; exact .nil _ _
  | some b =>
    obtain ⟨e1, hlen⟩ := r.os_inv
    rw [e1]
    have hmem : (⟨some b, T, room, cs⟩ : Blk) ∈ [⟨some b, T, room, cs⟩] ++ F := by simp
    obtain ⟨vs, rest, hb, hr, hrm⟩ := ho.at hmem
    rw [hcs] at hr
    have hlt := ho.lt (mem_keys hmem rfl)
    have hvl : vs.length = ys.length * z := by rw [hr.1, flat_len hz]
    have hzp : 0 < z := Nat.le_of_ble_eq_true hz0
    have hsub : F.Sublist ([⟨some b, T, room, cs⟩] ++ F) := List.sublist_append_right _ _
    have hnm : b ∉ keys F := by
      have := ho.nodup
      have e2 : keys ([⟨some b, T, room, cs⟩] ++ F) = b :: keys F := by simp [keys]
      rw [e2] at this
      exact (List.nodup_cons.1 this).1
    have hcap : ys.length ≤ cap := by
      have : ys.length * z ≤ cap * z := by rw [← hroom, hrm, ← hvl]; simp
      exact Nat.le_of_mul_le_mul_right this hzp
    have bound : ∀ i j, i < ys.length → j < z → i * z + j < ys.length * z := fun i j h1 h2 => by
      have : (i + 1) * z ≤ ys.length * z := Nat.mul_le_mul_right z h1
      rw [Nat.succ_mul] at this; omega
    have key : Rel (Im w F) w (.sl (ys.map g)) (.slice (some ⟨b, 0, none⟩) (ys.map g).length cap) := by
      refine .sl _ b 0 cap z (fun i j => vs.getD (i * z + j) undef) ⟨hlt, hnm⟩ (by simpa using hlen) (by simpa using hcap) (fun i hi => by simpa using hz _) (fun i j hi hj => ?_) (fun i j hi hj => ?_)
      · simp at hi
        have hv : i * z + j < vs.length := by rw [hvl]; exact bound i j hi hj
        rw [Nat.zero_add, cell_of_vs hb _ hv]; simp [hv]
      · simp at hi hj
        have hj' : j < z := by rw [← hz ys[i]]; exact hj
        have hv : i * z + j < vs.length := by rw [hvl]; exact bound i j hi hj'
        obtain ⟨u, hu1, hu2⟩ := hr.get (flat_get ys i j hi hj hz)
        have : vs.getD (i * z + j) undef = u := by simp [hu1]
        rw [this]
        simpa using hu2.heap hsub
    simpa using key
theorem Does.frozen {P : Program} {f : FuncId} {as : List A} {R : A → Heap → Prop} {v' : A} (hd : Does P f as [] R) (hR : ∀ v h1, R v h1 → FrzF h1 v v') : Gives P f as v' :=
  ⟨hd.1, fun h w vs hr hh => (hd.2 h w vs hr hh).mono fun e w' ⟨u, v, h1, e1, e2, e3, e4⟩ => ⟨u, e1, e3.drop (List.Perm.refl _) (List.sublist_append_right h1 h), hR v h1 e2 h w' u e3.heap e4⟩⟩
section
variable {C : Cx} {n : Nat} {Q : Exit → Env → Heap → Prop} {e : Env} {h : Heap} {d : Bool} {l os : List Oper} {o : Oper}
end
end Go.AI

/-
  Results in memory of the call's own, with room or without a block: what is told of them. No condition.
-/
namespace Go.AI
open Go.RowKit
/-- A list whose elements' cells and memory are told by E, in memory of the call's own, with room behind it. -/
def OwnC {α : Type} (E : α → List A → Heap → Prop) (T z : Nat) (xs : List α) (a : A) (h : Heap) : Prop :=
  ∃ (b : Option Nat) (cap : Nat) (css : List (Cells z)) (hs : List Heap), css.length = xs.length ∧ hs.length = xs.length ∧ (∀ i (hi : i < xs.length) (h1 : i < css.length) (h2 : i < hs.length), E xs[i] css[i].1 hs[i]) ∧
    a = .os b xs.length cap ∧ h = ⟨b, T, cap * z, (css.map Subtype.val).flatten⟩ :: hs.flatten
theorem OwnC.frz {α : Type} {E : α → List A → Heap → Prop} {enc : α → List A} {T z : Nat} {xs : List α} {a : A} {h : Heap} (hz : ∀ x, (enc x).length = z) (hz0 : Nat.blt 0 z = true) (hE : ∀ x cs h, E x cs h → FrzL h cs (enc x)) (o : OwnC E T z xs a h) : Frz h a (.sl (xs.map enc)) := by
  obtain ⟨b, cap, css, hs, l1, l2, hall, rfl, rfl⟩ := o
  intro F w v hm ho r
  cases b with
  | none =>
    obtain ⟨h1, h2, p, h3⟩ := r.osn_inv
    have : xs = [] := List.eq_nil_of_length_eq_zero h1
    subst this
    rw [h3]; exact .nil _ _
  | some b =>
  obtain ⟨e1, hlen⟩ := r.os_inv
  rw [e1]
  have hmem := hm (⟨some b, T, cap * z, (css.map Subtype.val).flatten⟩ : Blk) (List.mem_cons_self ..)
  obtain ⟨vs, rest, hb, hr, hrm⟩ := ho.at hmem
  have hlt := ho.lt (mem_keys hmem rfl)
  have hc2 : ∀ y : Cells z, (Subtype.val y).length = z := fun y => y.2
  have hvl : vs.length = xs.length * z := by rw [hr.1, flat_len hc2, l1]
  have hzp : 0 < z := Nat.le_of_ble_eq_true hz0
  have hcap : xs.length ≤ cap := by
    have : xs.length * z ≤ cap * z := by rw [hrm, ← hvl]; simp
    exact Nat.le_of_mul_le_mul_right this hzp
  have bound : ∀ i j, i < xs.length → j < z → i * z + j < xs.length * z := fun i j h1 h2 => by
    have : (i + 1) * z ≤ xs.length * z := Nat.mul_le_mul_right z h1
    rw [Nat.succ_mul] at this; omega
  have key : Rel (Im w []) w (.sl (xs.map enc)) (.slice (some ⟨b, 0, none⟩) (xs.map enc).length cap) := by
    refine .sl _ b 0 cap z (fun i j => vs.getD (i * z + j) undef) ⟨hlt, by simp [keys]⟩ (by simpa using hlen) (by simpa using hcap) (fun i hi => by simpa using hz _) (fun i j hi hj => ?_) (fun i j hi hj => ?_)
    · simp at hi
      have hv : i * z + j < vs.length := by rw [hvl]; exact bound i j hi hj
      rw [Nat.zero_add, cell_of_vs hb _ hv]; simp [hv]
    · simp only [List.length_map] at hi
      have hj' : j < z := by
        have := hz xs[i]
        simp only [List.getElem_map] at hj; omega
      have hi1 : i < css.length := by omega
      have hi2 : i < hs.length := by omega
      have seg : RelL (Im w F) w css[i].1 ((List.range z).map fun j => vs.getD (i * z + j) undef) := by
        refine ⟨by simp [css[i].2], fun q hq hq' => ?_⟩
        have hqz : q < z := by have := css[i].2; omega
        obtain ⟨u, hu1, hu2⟩ := hr.get (flat_get (f := Subtype.val) css i q hi1 hq hc2)
        have e3 : vs.getD (i * z + q) undef = u := by simp [hu1]
        simp only [List.getElem_map, List.getElem_range, e3]
        exact hu2
      have := (hE _ _ _ (hall i hi hi1 hi2)) F w _ (fun k hk => hm k (List.mem_cons_of_mem _ (List.mem_flatten.2 ⟨_, List.getElem_mem hi2, hk⟩))) ho seg
      have h3 := this.2 j (by rw [hz]; exact hj') (by simpa using hj')
      simpa using h3
  simpa using key
theorem OwnC.clo {α : Type} {E : α → List A → Heap → Prop} {T z : Nat} {xs : List α} {a : A} {h : Heap} (hE : ∀ x cs h, E x cs h → CloL cs ∧ CloH h) (o : OwnC E T z xs a h) : Clo a ∧ CloH h := by
  obtain ⟨b, cap, css, hs, l1, l2, hall, rfl, rfl⟩ := o
  refine ⟨Clo.os _ _ _, CloH.cons (CloL.flat fun cs hc => ?_) (CloH.flat fun x hx => ?_)⟩
  · obtain ⟨c, hc1, rfl⟩ := List.mem_map.1 hc
    obtain ⟨i, hi, rfl⟩ := List.mem_iff_getElem.1 hc1
    exact (hE _ _ _ (hall i (by omega) hi (by omega))).1
  · obtain ⟨i, hi, rfl⟩ := List.mem_iff_getElem.1 hx
    exact (hE _ _ _ (hall i (by omega) (by omega) hi)).2
theorem Clo.nil : Clo (.sl []) := fun S S' w w' v r => by
  cases r with
  | nil a c => exact .nil a c
  | sl xs b off cap sz V hS hlen hcap hsz hc hr => exact .nil _ _
/-- A flat list in memory of the call's own. -/
def OwnF {α : Type} (g : α → List A) (T z : Nat) (l : List α) (a : A) (h : Heap) : Prop := (∃ b cap, a = .os b l.length cap ∧ h = [⟨b, T, cap * z, (l.map g).flatten⟩]) ∨ (l = [] ∧ a = .sl [] ∧ h = [])
theorem OwnF.frz {α : Type} {g : α → List A} {T z : Nat} {l : List α} {a : A} {h : Heap} (hz : ∀ x, (g x).length = z) (hz0 : Nat.blt 0 z = true) (o : OwnF g T z l a h) : Frz h a (.sl (l.map g)) := by
  rcases o with ⟨b, cap, rfl, rfl⟩ | ⟨rfl, rfl, rfl⟩
  · exact Frz.flat rfl rfl hz rfl hz0
  · exact Frz.same _ _
theorem OwnF.clo {α : Type} {g : α → List A} {T z : Nat} {l : List α} {a : A} {h : Heap} (hc : ∀ x, CloL (g x)) (o : OwnF g T z l a h) : Clo a ∧ CloH h := by
  rcases o with ⟨b, cap, rfl, rfl⟩ | ⟨rfl, rfl, rfl⟩
  · refine ⟨Clo.os _ _ _, CloH.cons (CloL.flat fun cs hcs => ?_) CloH.nil⟩
    obtain ⟨x, _, rfl⟩ := List.mem_map.1 hcs
    exact hc x
  · exact ⟨Clo.nil, CloH.nil⟩
/-- A list of lists of the call's own. -/
def OwnLL {β : Type} (O : β → A → Heap → Prop) (T : Nat) (L : List β) (a : A) (h : Heap) : Prop :=
  (∃ (b : Option Nat) (cap : Nat) (vs : List A) (hs : List Heap), vs.length = L.length ∧ hs.length = L.length ∧ (∀ i (h0 : i < L.length) (h1 : i < vs.length) (h2 : i < hs.length), O L[i] vs[i] hs[i]) ∧
    a = .os b L.length cap ∧ h = ⟨b, T, cap * 1, (vs.map fun a => [a]).flatten⟩ :: hs.flatten) ∨ (L = [] ∧ a = .sl [] ∧ h = [])
theorem ownLL_c {β : Type} {O : β → A → Heap → Prop} {T : Nat} {L : List β} {a : A} {h : Heap} (o : ∃ (b : Option Nat) (cap : Nat) (vs : List A) (hs : List Heap), vs.length = L.length ∧ hs.length = L.length ∧ (∀ i (h0 : i < L.length) (h1 : i < vs.length) (h2 : i < hs.length), O L[i] vs[i] hs[i]) ∧
    a = .os b L.length cap ∧ h = ⟨b, T, cap * 1, (vs.map fun a => [a]).flatten⟩ :: hs.flatten) : OwnC (fun x cs h => ∃ a, cs = [a] ∧ O x a h) T 1 L a h := by
  obtain ⟨b, cap, vs, hs, l1, l2, hall, rfl, rfl⟩ := o
  refine ⟨b, cap, vs.map fun a => ⟨[a], rfl⟩, hs, by simpa using l1, l2, fun i hi h1 h2 => ⟨vs[i]'(by omega), by simp, hall i hi (by omega) h2⟩, rfl, ?_⟩
  congr 2
  rw [List.map_map]
  rfl
theorem OwnLL.frz {β : Type} {O : β → A → Heap → Prop} {enc : β → List (List A)} {T : Nat} {L : List β} {a : A} {h : Heap} (hO : ∀ x a h, O x a h → Frz h a (.sl (enc x))) (o : OwnLL O T L a h) {e : β → List A} (he : ∀ x, e x = [.sl (enc x)]) : Frz h a (.sl (L.map e)) := by
  rcases o with o | ⟨rfl, rfl, rfl⟩
  · exact (ownLL_c o).frz (fun x => by rw [he]; rfl) rfl (fun x cs h ⟨a, e1, q⟩ => by rw [he, e1]; exact FrzL.cons (hO x a h q) (FrzL.nil _))
  · exact Frz.same _ _
theorem OwnLL.clo {β : Type} {O : β → A → Heap → Prop} {T : Nat} {L : List β} {a : A} {h : Heap} (hO : ∀ x a h, O x a h → Clo a ∧ CloH h) (o : OwnLL O T L a h) : Clo a ∧ CloH h := by
  rcases o with o | ⟨rfl, rfl, rfl⟩
  · exact (ownLL_c o).clo (fun x cs h ⟨a, e1, q⟩ => by rw [e1]; exact ⟨CloL.cons (hO x a h q).1 CloL.nil, (hO x a h q).2⟩)
  · exact ⟨Clo.nil, CloH.nil⟩
end Go.AI

/-
  Results in memory of the call's own, read as data that nobody writes any more. No condition.
-/
namespace Go.AI
open Go.RowKit
def FrzLF (h1 : Heap) (cs cs' : List A) : Prop := ∀ (F : Heap) (w : World) (vs : List Value), HeapOk (h1 ++ F) w → RelL (Im w (h1 ++ F)) w cs vs → RelL (Im w F) w cs' vs
theorem RelL.heapS {w : World} {h h0 : Heap} {cs : List A} {vs : List Value} (r : RelL (Im w h) w cs vs) (hs : h0.Sublist h) : RelL (Im w h0) w cs vs := ⟨r.1, fun j hj hj' => (r.2 j hj hj').heap hs⟩
theorem RelL.permS {w : World} {h h0 : Heap} {cs : List A} {vs : List Value} (r : RelL (Im w h) w cs vs) (hp : h.Perm h0) : RelL (Im w h0) w cs vs := r.stab fun _ hb => ⟨im_perm hp hb, rfl⟩
theorem FrzLF.nil {h : Heap} : FrzLF h [] [] := fun _ _ _ _ r => ⟨r.1, fun j hj => absurd hj (Nat.not_lt_zero _)⟩
theorem FrzF.same (h : Heap) (a : A) : FrzF h a a := fun F _ _ _ r => r.heap (List.sublist_append_right h F)
theorem FrzLF.cons {h1 h2 : Heap} {a a' : A} {cs cs' : List A} (H : FrzF h1 a a') (T : FrzLF h2 cs cs') : FrzLF (h1 ++ h2) (a :: cs) (a' :: cs') := fun F w vs ho r => by
  obtain ⟨v, us, rfl, r1, r2⟩ := r.uncons
  have p1 : (h1 ++ h2 ++ F).Perm (h1 ++ (h2 ++ F)) := by rw [List.append_assoc]
  have p2 : (h1 ++ h2 ++ F).Perm (h2 ++ (h1 ++ F)) := by classical exact List.perm_iff_count.2 fun _ => by simp only [List.count_append]; omega
  have q1 := H (h2 ++ F) w v (ho.perm p1) (by rw [← List.append_assoc]; exact r1)
  have q2 := T (h1 ++ F) w us (ho.perm p2) (r2.permS p2)
  exact RelL.cons (q1.heap (List.sublist_append_right _ _)) (q2.heapS (List.sublist_append_right _ _))
theorem FrzF.agg {h : Heap} {cs cs' : List A} (H : FrzLF h cs cs') : FrzF h (.agg cs) (.agg cs') := fun F w v ho r => by
  obtain ⟨vs, rfl, rl⟩ := r.agg_inv
  have q := H F w vs ho rl
  exact .agg _ _ q.1 q.2
theorem OwnC.frzF {α : Type} {E : α → List A → Heap → Prop} {enc : α → List A} {T z : Nat} {xs : List α} {a : A} {h : Heap} (hz : ∀ x, (enc x).length = z) (hz0 : Nat.blt 0 z = true) (hE : ∀ x cs h, E x cs h → FrzLF h cs (enc x)) (o : OwnC E T z xs a h) : FrzF h a (.sl (xs.map enc)) := by
  obtain ⟨b, cap, css, hs, l1, l2, hall, rfl, rfl⟩ := o
  intro F w v ho r
  cases b with
  | none =>
    obtain ⟨h1, h2, p, h3⟩ := r.osn_inv
    have : xs = [] := List.eq_nil_of_length_eq_zero h1
    subst this
    rw [h3]; exact .nil _ _
  | some b =>
  obtain ⟨e1, hlen⟩ := r.os_inv
  rw [e1]
  have hmem : (⟨some b, T, cap * z, (css.map Subtype.val).flatten⟩ : Blk) ∈ (⟨some b, T, cap * z, (css.map Subtype.val).flatten⟩ : Blk) :: hs.flatten ++ F := by simp
  obtain ⟨vs, rest, hb, hr, hrm⟩ := ho.at hmem
  have hlt := ho.lt (mem_keys hmem rfl)
  have hnm : b ∉ keys F := by
    have := ho.nodup
    have e2 : keys ((⟨some b, T, cap * z, (css.map Subtype.val).flatten⟩ : Blk) :: hs.flatten ++ F) = b :: (keys hs.flatten ++ keys F) := by simp [keys]
    rw [e2] at this
    exact fun q => (List.nodup_cons.1 this).1 (List.mem_append_right _ q)
  have hc2 : ∀ y : Cells z, (Subtype.val y).length = z := fun y => y.2
  have hvl : vs.length = xs.length * z := by rw [hr.1, flat_len hc2, l1]
  have hzp : 0 < z := Nat.le_of_ble_eq_true hz0
  have hcap : xs.length ≤ cap := by
    have : xs.length * z ≤ cap * z := by rw [hrm, ← hvl]; simp
    exact Nat.le_of_mul_le_mul_right this hzp
  have bound : ∀ i j, i < xs.length → j < z → i * z + j < xs.length * z := fun i j h1 h2 => by
    have : (i + 1) * z ≤ xs.length * z := Nat.mul_le_mul_right z h1
    rw [Nat.succ_mul] at this; omega
  have key : Rel (Im w F) w (.sl (xs.map enc)) (.slice (some ⟨b, 0, none⟩) (xs.map enc).length cap) := by
    refine .sl _ b 0 cap z (fun i j => vs.getD (i * z + j) undef) ⟨hlt, hnm⟩ (by simpa using hlen) (by simpa using hcap) (fun i hi => by simpa using hz _) (fun i j hi hj => ?_) (fun i j hi hj => ?_)
    · simp at hi
      have hv : i * z + j < vs.length := by rw [hvl]; exact bound i j hi hj
      rw [Nat.zero_add, cell_of_vs hb _ hv]; simp [hv]
    · simp only [List.length_map] at hi
      have hj' : j < z := by
        have := hz xs[i]
        simp only [List.getElem_map] at hj; omega
      have hi1 : i < css.length := by omega
      have hi2 : i < hs.length := by omega
      have seg : RelL (Im w ((⟨some b, T, cap * z, (css.map Subtype.val).flatten⟩ : Blk) :: hs.flatten ++ F)) w css[i].1 ((List.range z).map fun j => vs.getD (i * z + j) undef) := by
        refine ⟨by simp [css[i].2], fun q hq hq' => ?_⟩
        have hqz : q < z := by have := css[i].2; omega
        obtain ⟨u, hu1, hu2⟩ := hr.get (flat_get (f := Subtype.val) css i q hi1 hq hc2)
        have e3 : vs.getD (i * z + q) undef = u := by simp [hu1]
        simp only [List.getElem_map, List.getElem_range, e3]
        exact hu2
      have pf : hs.flatten.Perm (hs[i] ++ (hs.eraseIdx i).flatten) := by
        have := (perm_at (List.getElem?_eq_getElem hi2)).flatten
        simpa using this
      have pp : ((⟨some b, T, cap * z, (css.map Subtype.val).flatten⟩ : Blk) :: hs.flatten ++ F).Perm (hs[i] ++ ((⟨some b, T, cap * z, (css.map Subtype.val).flatten⟩ : Blk) :: ((hs.eraseIdx i).flatten ++ F))) := by
        classical
        refine List.perm_iff_count.2 fun x => ?_
        have q := List.perm_iff_count.1 pf x
        simp only [List.count_append, List.count_cons, List.cons_append] at q ⊢
        omega
      have := (hE _ _ _ (hall i hi hi1 hi2)) ((⟨some b, T, cap * z, (css.map Subtype.val).flatten⟩ : Blk) :: ((hs.eraseIdx i).flatten ++ F)) w _ (ho.perm pp) (seg.permS pp)
      have h3 := (this.heapS (h0 := F) (List.Sublist.cons _ (List.sublist_append_right _ _))).2 j (by rw [hz]; exact hj') (by simpa using hj')
      simpa using h3
  simpa using key
theorem OwnF.frzF {α : Type} {g : α → List A} {T z : Nat} {l : List α} {a : A} {h : Heap} (hz : ∀ y, (g y).length = z) (hz0 : Nat.blt 0 z = true) (o : OwnF g T z l a h) : FrzF h a (.sl (l.map g)) := by
  rcases o with ⟨b, cap, rfl, rfl⟩ | ⟨rfl, rfl, rfl⟩
  · exact FrzF.flat rfl rfl hz rfl hz0
  · exact FrzF.same _ _
theorem OwnLL.frzF {β : Type} {O : β → A → Heap → Prop} {enc : β → List (List A)} {T : Nat} {L : List β} {a : A} {h : Heap} (hO : ∀ x a h, O x a h → FrzF h a (.sl (enc x))) (o : OwnLL O T L a h) {e : β → List A} (he : ∀ x, e x = [.sl (enc x)]) : FrzF h a (.sl (L.map e)) := by
  rcases o with o | ⟨rfl, rfl, rfl⟩
  · exact (ownLL_c o).frzF (fun x => by rw [he]; rfl) rfl (fun x cs h ⟨a, e1, q⟩ => by
      rw [he, e1]
      have := FrzLF.cons (hO x a h q) (FrzLF.nil (h := []))
      rw [List.append_nil] at this; exact this)
  · exact FrzF.same _ _
end Go.AI

/-
  A cell of a variable of the call's own: the memory that it tells of is written no more. No condition.
-/
namespace Go.AI
open Go.RowKit
section
variable {e : Env} {h : Heap}
theorem view_cellF {b : Option Nat} {T room k : Nat} {cs : List A} {a a' : A} {h1 F : Heap} (hp : h.Perm (⟨b, T, room, cs⟩ :: (h1 ++ F))) (hk : cs[k]? = some a) (hf : FrzF h1 a a') : View e h e (⟨b, T, room, cs.set k a'⟩ :: F) := fun C n act w hc => by
  have hc1 := view_perm hp C n act w hc
  have hsub : (⟨b, T, room, cs⟩ :: F : Heap).Sublist (⟨b, T, room, cs⟩ :: (h1 ++ F)) := (List.sublist_append_right h1 F).cons_cons _
  have H := hc1.heap
  have H2 := H.sub hsub
  have hs2 := view_sub (e := e) hsub C n act w hc1
  refine ⟨hs2.defers, hs2.size, fun t v hv => hs2.env t v hv, ⟨H2.nodup, ?_, H2.tab.stab fun _ hb => ⟨hb, rfl⟩⟩, hs2.ext, hs2.own⟩
  intro q hq
  rcases List.mem_cons.1 hq with rfl | hq
  · have hb := H.blk _ (List.mem_cons_self)
    cases b with
    | none =>
      have := hb.1
      simp only at this
      rw [this] at hk; simp at hk
    | some b0 =>
      obtain ⟨vs, rest, e1, r, er⟩ := hb
      refine ⟨vs, rest, e1, ⟨by rw [List.length_set]; exact r.1, fun j hj hj' => ?_⟩, er⟩
      have hjc : j < cs.length := by rw [List.length_set] at hj; exact hj
      have rr := r.2 j hjc hj'
      by_cases hjk : k = j
      · subst hjk
        rw [List.getElem_set_self]
        rw [List.getElem?_eq_getElem hjc] at hk
        rw [Option.some.inj hk] at rr
        have hp2 : (⟨some b0, T, room, cs⟩ :: (h1 ++ F) : Heap).Perm (h1 ++ (⟨some b0, T, room, cs⟩ :: F)) := List.perm_middle.symm
        exact (hf (⟨some b0, T, room, cs⟩ :: F) w _ (H.perm hp2) (rr.stab fun _ hb => ⟨im_perm hp2 hb, rfl⟩)).stab fun _ hb => ⟨hb, rfl⟩
      · rw [List.getElem_set_ne hjk]
        exact rr.heap hsub
  · exact H2.blk q (List.mem_cons_of_mem _ hq)
theorem rev3 {α : Type} {a b c : α} {l : List α} : (a :: b :: c :: l).Perm (c :: b :: a :: l) := (List.Perm.swap b a _).trans ((List.Perm.cons b (List.Perm.swap c a _)).trans (List.Perm.swap c b _))
end
section
variable {C : Cx} {n : Nat} {Q : Exit → Env → Heap → Prop} {e : Env} {h : Heap}

/-- A slice of the call's own that holds something has a block. -/
theorem j_some {l os : List Oper} (i : Nat) {b : Option Nat} {T room : Nat} {cs : List A} (hi : h[i]? = some ⟨b, T, room, cs⟩) (hne : cs ≠ []) (hr : ∀ b', b = some b' → J false C n l os Q e h) : J false C n l os Q e h := by
  unfold J at *
  intro a w hc
  cases b with
  | some b' => exact hr b' rfl a w hc
  | none =>
    have := hc.heap.blk _ (List.mem_of_getElem? hi)
    exact absurd this.1 hne
end
theorem Frz.ptr {hT : Heap} {b T room : Nat} {cs cs' : List A} (hm0 : (⟨some b, T, room, cs⟩ : Blk) ∈ hT) (hl : FrzL hT cs cs') : Frz hT (.op (some b) 0) (.ip cs') := fun F w v hm ho r => by
  have e := r.op_inv
  simp only [Option.map_some] at e
  rw [e]
  obtain ⟨vs, rest, hb, hr, hrm⟩ := ho.at (hm _ hm0)
  have hlt := ho.lt (mem_keys (hm _ hm0) rfl)
  have q := hl F w vs hm ho hr
  refine .ip cs' b 0 (fun j => vs.getD j undef) ⟨hlt, by simp [keys]⟩ (fun j hj => ?_) (fun j hj => ?_)
  · have hv : j < vs.length := by rw [q.1]; exact hj
    rw [Nat.zero_add, cell_of_vs hb _ hv]; simp [hv]
  · have hv : j < vs.length := by rw [q.1]; exact hj
    have := q.2 j hj hv
    simpa [hv] using this
end Go.AI

/-
  'append([]E{}, t...)' that is written no more: data. No condition.
-/
namespace Go.AI
open Go.RowKit
section
variable {C : Cx} {n : Nat} {Q : Exit → Env → Heap → Prop} {e : Env} {h : Heap} {l os : List Oper} {o : Oper} {f : Fl} {fs : List Fl} {B : List (Nat × Blk)}
end
end Go.AI

/-
  Joins behind an 'if'; an operation that floats behind others; 'make' that is written no more. No condition.
-/
namespace Go.AI
open Go.RowKit
section
variable {C : Cx} {n : Nat} {Q : Exit → Env → Heap → Prop} {e e' : Env} {h h' : Heap} {l os : List Oper} {o : Oper} {f : Fl} {fs : List Fl} {B : List (Nat × Blk)}
/-- What two ways come to: I what the slots hold in state s, H the memory of the call's own, G what is known of s. -/
def joinQ {σ : Type} (I : σ → Env) (H : σ → Heap) (G : σ → Prop) (Q : Exit → Env → Heap → Prop) : Exit → Env → Heap → Prop
  | .normal, e, h => ∃ s e', G s ∧ View e h e' (H s) ∧ EnvLe e' (I s)
  | x, e, h => Q x e h
theorem run_join {σ : Type} (I : σ → Env) (H : σ → Heap) (G : σ → Prop) {x y : Code} (h1 : Run C n x (joinQ I H G Q) e h) (h2 : ∀ s, G s → Run C n y Q (I s) (H s)) : Run C n x (seqQ C n y Q) e h := by
  unfold Run at *
  refine fun a w hc => wp_mono (h1 a w hc) fun ex a w hq => ?_
  obtain ⟨e', h', hc', hq'⟩ := hq
  cases ex with
  | normal =>
    obtain ⟨s, e2, g, v, le⟩ := hq'
    refine ⟨I s, H s, (v _ _ _ _ hc').sub le.sub, ?_⟩
    unfold seqQ Run
    exact h2 s g
  | _ =>
    refine ⟨e', h', hc', ?_⟩
    unfold seqQ
    exact hq'
theorem joinQ_done {σ : Type} {I : σ → Env} {H : σ → Heap} {G : σ → Prop} (s : σ) (hG : G s) (hh : h = H s) (hI : EnvLe e (I s)) : joinQ I H G Q .normal e h := ⟨s, e, hG, hh ▸ View.refl e h, hI⟩
theorem joinQ_view {σ : Type} {I : σ → Env} {H : σ → Heap} {G : σ → Prop} (v : View e h e' h') (hq : joinQ I H G Q .normal e' h') : joinQ I H G Q .normal e h := by
  obtain ⟨s, e2, g, u, le⟩ := hq
  exact ⟨s, e2, g, v.trans u, le⟩
theorem makeI_quiet {T E sz bytes m : Nat} {x y : Operand} (ho : o.op = .makeSlice T x y) (hT : C.ty T = some ⟨sz, .slice E 1⟩) (hx : evO e x = some (.int (m : Int))) (hy : evO e y = some (.int (m : Int)))
    (hz : C.zt E = some ([ZK.int], bytes)) (hm : bytes * m ≤ 281474976710656) : Quiet C.P o e h (.sl ((List.replicate m (0 : Int)).map encI)) := fun a w hs => by
  have := make_at (h := h) ho hT hx hy hz rfl rfl hm a w hs
  unfold Yields at this ⊢
  generalize (execOp a.eval o).run C.P w = r at this ⊢
  have conv : ∀ u w', (∃ v h1, (∃ b, v = A.os (some b) m m ∧ h1 = ⟨some b, E, m * 1, (List.replicate m ([ZK.int].map ZK.a)).flatten⟩ :: h) ∧ Chg h h1 w w' ∧ Rel (Im w' h1) w' v u) → Chg h h w w' ∧ Rel (Im w' h) w' (.sl ((List.replicate m (0 : Int)).map encI)) u := fun u w' ⟨v, h1, ⟨b, q1, q2⟩, q3, q4⟩ => by
    subst q1 q2
    exact ⟨q3.drop (List.Perm.refl _) (List.sublist_cons_self _ h), FrzF.flat (g := encI) (ys := List.replicate m (0 : Int)) (z := 1) (b := some b) (T := E) (cap := m) List.length_replicate.symm (by rw [List.map_replicate]; rfl) (fun _ => rfl) rfl rfl h w' u q3.heap q4⟩
  cases r with
  | ok nx w' =>
    cases nx <;> first | exact conv _ _ this | (exact this.elim) | (exact this.mono fun e w'' ⟨u, he, hR⟩ => ⟨u, he, conv _ _ hR⟩)
  | halt x w' => exact this.elim
theorem j_makeQ {T E sz bytes dd : Nat} (m : Nat) {x y : Operand} (hw : wantE l e o = some true) (ho : o.op = .makeSlice T x y) (hT : C.ty T = some ⟨sz, .slice E 1⟩) (hx : evO e x = some (.int (m : Int))) (hy : evO e y = some (.int (m : Int)))
    (hz : C.zt E = some ([ZK.int], bytes)) (hm : bytes * m ≤ 281474976710656) (hd : o.dst = some dd) (hn : Nat.blt dd n = true)
    (hj : J false C n l os Q ((dd, .sl ((List.replicate m (0 : Int)).map encI)) :: e) h) : J false C n l (o :: os) Q e h :=
  j_quiet hw (fun _ => makeI_quiet ho hT hx hy hz hm) hd hn hj
theorem j_makeQO {T E sz bytes dd : Nat} (m : Nat) {x y : Operand} (hw : wantE l e o = some true) (ho : o.op = .makeSlice T x y) (hT : C.ty T = some ⟨sz, .slice E 1⟩) (hx : evO e x = some (.int (m : Int))) (hy : evO e y = some (.int (m : Int)))
    (hz : C.zt E = some ([ZK.int], bytes)) (hm : bytes * m ≤ 281474976710656) (hd : o.dst = some dd) (hn : Nat.blt dd n = true)
    (hj : JO fs B C n l os Q ((dd, .sl ((List.replicate m (0 : Int)).map encI)) :: e) h) : JO (f :: fs) B C n l (o :: os) Q e h :=
  j_quietO hw (fun _ => makeI_quiet ho hT hx hy hz hm) hd hn hj
/-- The same two where loads are remembered. -/
theorem j_twoB {R R2 : A → Heap → Prop} {g : Fl} {o2 : Oper} {dd dd2 : Nat} (hf : f.m = true) (hp : Nat.blt 0 f.p = true) (hg : g.w = true) (hw : wantE l e o = some true) (hm : MStep C.P o e h R) (hd : o.dst = some dd) (hn : Nat.blt dd n = true)
    (hw2 : wantE l e o2 = some true) (hm2 : MStep C.P o2 e h R2) (hd2 : o2.dst = some dd2) (hn2 : Nat.blt dd2 n = true) (hB : ∀ v h', R v h' → ∀ k ∈ B, k.2 ∈ h') (hB2 : ∀ v h', R2 v h' → ∀ k ∈ B, k.2 ∈ h')
    (hj : ∀ v h', R v h' → JO (g :: fs) B C n l (o2 :: os) Q ((dd, v) :: e) h') (hj2 : ∀ v h', R2 v h' → JO ({ f with p := f.p - 1 } :: fs) B C n l (o :: os) Q ((dd2, v) :: e) h') : JO (f :: g :: fs) B C n l (o :: o2 :: os) Q e h := by
  unfold JO at *
  exact fun ha => .wr2 hf (Nat.ne_of_gt (Nat.le_of_ble_eq_true hp)) hg ha.1 hw (by rw [hd]; exact hn) hm (fun v h' hR k hk => .inl (hB v h' hR k hk)) (fun v h' hR => by rw [hd]; exact hj v h' hR ha.2)
    ha.2.1 hw2 (by rw [hd2]; exact hn2) hm2 (fun v h' hR k hk => .inl (hB2 v h' hR k hk)) (fun v h' hR => by rw [hd2]; exact hj2 v h' hR ⟨ha.1, ha.2.2⟩)
theorem j_floatB {R : A → Heap → Prop} {g : Fl} {o2 : Oper} {v2 : A} {dd dd2 : Nat} (hf : f.m = true) (hp : Nat.blt 0 f.p = true) (hgm : g.m = false) (hgt : g.tight = false) (hw : wantE l e o = some true) (hm : MStep C.P o e h R) (hd : o.dst = some dd) (hn : Nat.blt dd n = true)
    (hw2 : wantE l e o2 = some true) (hq2 : ∀ h', Quiet C.P o2 e h' v2) (hd2 : o2.dst = some dd2) (hn2 : Nat.blt dd2 n = true) (hB : ∀ v h', R v h' → ∀ k ∈ B, k.2 ∈ h')
    (hj : ∀ v h', R v h' → JO (g :: fs) B C n l (o2 :: os) Q ((dd, v) :: e) h') (hj2 : JO ({ f with p := f.p - 1 } :: fs) B C n l (o :: os) Q ((dd2, v2) :: e) h) (hna : (o2.after.toList.all fun e => !Region.binds .any e || !(e.on == f.i)) = true := by rfl) : JO (f :: g :: fs) B C n l (o :: o2 :: os) Q e h := by
  unfold JO at *
  exact fun ha => .wrq hf (Nat.ne_of_gt (Nat.le_of_ble_eq_true hp)) hgm hgt hna ha.1 hw (by rw [hd]; exact hn) hm (fun v h' hR k hk => .inl (hB v h' hR k hk)) (fun v h' hR => by rw [hd]; exact hj v h' hR ha.2)
    ha.2.1 hw2 (by rw [hd2]; exact hn2) hq2 (by rw [hd2]; exact hj2 ⟨ha.1, ha.2.2⟩)
theorem alloc_at {T bytes : Nat} {zk : List ZK} (ho : o.op = .alloc T) (hz : C.zt T = some (zk, bytes)) : MStep C.P o e h (fun v h' => ∃ b, v = .op (some b) 0 ∧ h' = ⟨some b, T, zk.length, zk.map ZK.a⟩ :: h) := by
  obtain ⟨z, hz1, hz2⟩ := C.zok _ _ _ hz
  exact alloc_step ho hz1 hz2
end
attribute [irreducible] joinQ
end Go.AI

/-
  Results in memory of the call's own, of which something is known, read as data that nobody writes any more. No condition.
-/
namespace Go.AI
open Go.RowKit
theorem Does.frozenE {P : Program} {f : FuncId} {as : List A} {R : A → Heap → Prop} (hd : Does P f as [] R) {Q : A → Prop} (hR : ∀ v h1, R v h1 → ∃ v', Q v' ∧ FrzF h1 v v') : Does P f as [] (fun v h' => Q v ∧ h' = []) :=
  ⟨hd.1, fun h w vs hr hh => (hd.2 h w vs hr hh).mono fun e w' ⟨u, v, h1, e1, e2, e3, e4⟩ => by
    obtain ⟨v', q1, q2⟩ := hR v h1 e2
    exact ⟨u, v', [], e1, ⟨q1, rfl⟩, e3.drop (List.Perm.refl _) (List.sublist_append_right h1 h), q2 h w' u e3.heap e4⟩⟩
theorem FrzF.tup {h : Heap} {cs cs' : List A} (H : FrzLF h cs cs') : FrzF h (.tup cs) (.tup cs') := fun F w v ho r => by
  obtain ⟨vs, rfl, rl⟩ := r.tup_inv
  have q := H F w vs ho rl
  exact .tup _ _ q.1 q.2

section
variable {C : Cx} {n : Nat} {Q : Exit → Env → Heap → Prop} {e : Env} {h : Heap} {l os : List Oper} {o : Oper} {f : Fl} {fs : List Fl} {B : List (Nat × Blk)}
theorem MStep.frz {P : Program} {R : A → Heap → Prop} {v' : A} (hm : MStep P o e h fun v h' => ∃ h1, R v h1 ∧ h' = h1 ++ h) (hF : ∀ v h1, R v h1 → FrzF h1 v v') : MStep P o e h fun v h' => v = v' ∧ h' = h := fun a w hs => by
  have := hm a w hs
  unfold Yields at this ⊢
  generalize (execOp a.eval o).run P w = r at this ⊢
  have conv : ∀ u w', (∃ v h2, (∃ h1, R v h1 ∧ h2 = h1 ++ h) ∧ Chg h h2 w w' ∧ Rel (Im w' h2) w' v u) → ∃ v h1, (v = v' ∧ h1 = h) ∧ Chg h h1 w w' ∧ Rel (Im w' h1) w' v u := fun u w' ⟨v, h2, ⟨h1, q1, q2⟩, q3, q4⟩ => by
    subst q2
    exact ⟨v', h, ⟨rfl, rfl⟩, q3.drop (List.Perm.refl _) (List.sublist_append_right h1 h), hF v h1 q1 h w' u q3.heap q4⟩
  cases r with
  | ok nx w' =>
    cases nx <;> first | exact conv _ _ this | (exact this.elim) | (exact this.mono fun e w'' ⟨u, he, hR⟩ => ⟨u, he, conv _ _ hR⟩)
  | halt x w' => exact this.elim
theorem jctfO (hT : Heap) {g : FuncId} {as all : List A} {R : A → Heap → Prop} {v' : A} {dd : Nat} (hf : Does C.P g all [] R) (hm : f.w = true) (hB : ∀ k ∈ B, k.2 ∈ h) (hp : ∀ k ∈ hT, k ∈ h) (hz : FrzL hT as all) (hR : ∀ v h1, R v h1 → Clo v ∧ CloH h1) (hF : ∀ v h1, R v h1 → FrzF h1 v v') (hd : o.dst = some dd) (hn : Nat.blt dd n = true)
    (hj : JO fs B C n l os Q ((dd, v') :: e) h) : JCO g as f fs B C n l o os Q e h := by
  unfold JCO CallAt
  rintro ⟨x, args, ts, caps, as0, hw, ho, hx, ha, rfl⟩
  exact j_mutO hm hw ((call_thaw ho hx ha hf hp hz hR).frz hF) (fun v h' ⟨_, q2⟩ => by rw [q2]; exact hB) (by rw [hd]; exact hn) fun v h' ⟨q1, q2⟩ => by rw [hd, q1, q2]; exact hj
end
end Go.AI

/-
  slices.AppendSeq over the iterator that slices.Values hands back: a new list with the same numbers. No condition.
-/
namespace Go.Proofs.YtkfmjjoalkoncaaGreat
end Go.Proofs.YtkfmjjoalkoncaaGreat
