/-
  Memory of the call's own: appends, what is written no more, calls that write, the ends of a call. No condition.
-/
import Derived.Test.YtdlhajkidekjaaaDoorZMut
namespace Go.AI
open Go.RowKit

section
variable {C : Cx} {n : Nat} {Q : Exit → Env → Heap → Prop} {e : Env} {h h' : Heap} {l os : List Oper} {o : Oper} {f : Fl} {fs : List Fl} {B : List Blk}

/-! #### The same blocks in another order -/
/-! #### What was written is written no more -/
theorem erase_not_mem {i b T room : Nat} {cs : List A} (hi : h[i]? = some ⟨some b, T, room, cs⟩) (hn : (keys h).Nodup) : b ∉ keys (h.eraseIdx i) := by
  intro hm
  obtain ⟨k, hk1, hk2⟩ := List.mem_filterMap.1 hm
  obtain ⟨j, hji, hj⟩ := List.mem_eraseIdx_iff_getElem?.1 hk1
  exact keys_ne hn hi hj (Ne.symm hji) rfl hk2

theorem view_sub {h0 : Heap} (hs : h0.Sublist h) : View e h e h0 := fun C n a w hc => ⟨hc.defers, hc.size, fun t v hv => (hc.env t v hv).heap hs, hc.heap.sub hs, hc.ext, fun b hb => hc.own b ((hs.filterMap _).subset hb)⟩
theorem view_erase (i : Nat) : View e h e (h.eraseIdx i) := view_sub (List.eraseIdx_sublist h i)
theorem loopQ_nextD {σ : Type} {I : σ → Env} {H : σ → Heap} {G : σ → Prop} {μ : σ → Nat} {s : σ} {Q : Exit → Env → Heap → Prop} (s' : σ) (h1 : G s') (h2 : μ s' < μ s) (h3 : (H s').Sublist h) (h4 : EnvLe e (I s')) : loopQ I H G μ s Q .normal e h :=
  loopQ_view (view_sub h3) (loopQ_next s' h1 h2 rfl h4)

theorem conc_cons {a : Act} {w : World} (hc : Conc C n e h a w) {t : Nat} {v : A} (r : Rel (Im w h) w v (a.eval (.tmp t))) : Conc C n ((t, v) :: e) h a w :=
  ⟨hc.defers, hc.size, fun s u hu => by
    by_cases hst : t = s
    · subst hst; rw [lk_cons_eq] at hu; simp only [Option.some.injEq] at hu; subst hu; exact r
    · rw [lk_cons_ne _ _ hst] at hu; exact hc.env s u hu, hc.heap, hc.ext, hc.own⟩

theorem flat_get {α : Type} {f : α → List A} {z : Nat} : ∀ (ys : List α) (i j : Nat) (hi : i < ys.length) (hj : j < (f ys[i]).length), (∀ y, (f y).length = z) → ((ys.map f).flatten)[i * z + j]? = some ((f ys[i])[j])
  | [], i, j, hi, _, _ => absurd hi (Nat.not_lt_zero _)
  | y :: ys, i, j, hi, hj, hz => by
    simp only [List.map_cons, List.flatten_cons]
    cases i with
    | zero =>
      simp only [Nat.zero_mul, Nat.zero_add]
      have hj' : j < (f y).length := hj
      rw [List.getElem?_append_left hj', List.getElem?_eq_getElem hj']; rfl
    | succ i =>
      have e1 : (i + 1) * z + j = (f y).length + (i * z + j) := by rw [hz, Nat.succ_mul]; omega
      rw [e1, List.getElem?_append_right (by omega)]
      have e2 : (f y).length + (i * z + j) - (f y).length = i * z + j := by omega
      rw [e2]
      exact flat_get ys i j (by simpa using hi) hj hz

/-- A slice over the whole of a block of the call's own, read only from here on. -/
theorem view_freeze {α : Type} {g : α → List A} {ys : List α} {z : Nat} (i t : Nat) {b : Option Nat} {T room cap : Nat} {cs : List A} (ht : lk e t = some (.os b ys.length cap)) (hi : h[i]? = some ⟨b, T, room, cs⟩) (hcs : cs = (ys.map g).flatten)
    (hz : ∀ y, (g y).length = z) (hroom : room = cap * z) (hz0 : Nat.blt 0 z = true) : View e h ((t, .sl (ys.map g)) :: e) (h.eraseIdx i) := fun C n a w hc => by
  have hsub := List.eraseIdx_sublist h i
  have hc' := view_erase (e := e) (h := h) i C n a w hc
  refine conc_cons hc' ?_
  have rt := hc.env t _ ht
  cases b with
  | none =>
    obtain ⟨h1, h2, p, h3⟩ := rt.osn_inv
    have : ys = [] := List.eq_nil_of_length_eq_zero h1
    subst this
    rw [h3]; exact .nil _ _
  | some b =>
    obtain ⟨e1, hlen⟩ := rt.os_inv
    rw [e1]
    have hmem := List.mem_of_getElem? hi
    obtain ⟨vs, rest, hb, hr, hrm⟩ := hc.heap.at hmem
    rw [hcs] at hr
    have hlt := hc.heap.lt (mem_keys hmem rfl)
    have hvl : vs.length = ys.length * z := by rw [hr.1, flat_len hz]
    have hzp : 0 < z := Nat.le_of_ble_eq_true hz0
    have hcap : ys.length ≤ cap := by
      have : ys.length * z ≤ cap * z := by rw [← hroom, hrm, ← hvl]; simp
      exact Nat.le_of_mul_le_mul_right this hzp
    have bound : ∀ i j, i < ys.length → j < z → i * z + j < ys.length * z := fun i j h1 h2 => by
      have : (i + 1) * z ≤ ys.length * z := Nat.mul_le_mul_right z h1
      rw [Nat.succ_mul] at this; omega
    have key : Rel (Im w (h.eraseIdx i)) w (.sl (ys.map g)) (.slice (some ⟨b, 0, none⟩) (ys.map g).length cap) := by
      refine .sl _ b 0 cap z (fun i j => vs.getD (i * z + j) undef) ⟨hlt, erase_not_mem hi hc.heap.nodup⟩ (by simpa using hlen) (by simpa using hcap) (fun i hi => by simpa using hz _) (fun i j hi hj => ?_) (fun i j hi hj => ?_)
      · simp at hi
        have hv : i * z + j < vs.length := by rw [hvl]; exact bound i j hi hj
        rw [Nat.zero_add, cell_of_vs hb _ hv]; simp [hv]
      · simp at hi hj
        have hj' : j < z := by rw [← hz ys[i]]; exact hj
        have hv : i * z + j < vs.length := by rw [hvl]; exact bound i j hi hj'
        obtain ⟨u, hu1, hu2⟩ := hr.get (flat_get ys i j hi hj hz)
        have : vs.getD (i * z + j) undef = u := by simp [hu1]
        rw [this]
        simpa using hu2.heap hsub
    simpa using key

/-! #### append -/
end
end Go.AI
