/-
  Texts of numbers and of bags: plain facts. No condition.
-/
import Derived.Test.YtdlhajkidekjaaaDoorZM
import Derived.Lib.ItoaNum
import Derived.Lib.Join
namespace Go.AI
open Go.RowKit
/-- The decimal text of a number. -/
def dcm (n : Int) : List UInt8 := Lib.itoa n
theorem dcm_small {n : Int} (h : 0 ≤ n ∧ n < 10) : dcm n = [UInt8.ofNat (48 + n).toNat] := by
  unfold dcm Lib.itoa
  rw [if_neg (by omega), Lib.decDigits, dif_pos (by omega)]
  congr 2
  omega
theorem dcm_big {n : Int} (h : 10 ≤ n) : dcm n = dcm (n / 10) ++ [UInt8.ofNat (48 + n % 10).toNat] := by
  unfold dcm Lib.itoa
  rw [if_neg (by omega), if_neg (by omega), Lib.decDigits, dif_neg (by omega)]
  have e1 : n.toNat / 10 = (n / 10).toNat := by omega
  have e2 : 48 + n.toNat % 10 = (48 + n % 10).toNat := by omega
  rw [e1, e2]
theorem decDigits_ne (u : Nat) : Lib.decDigits u ≠ [] := by
  rw [Lib.decDigits]
  split <;> simp
theorem dcm_ne (n : Int) : dcm n ≠ [] := by
  unfold dcm Lib.itoa
  split
  · simp
  · exact decDigits_ne _
theorem decDigits_len : ∀ (k u : Nat), u < 10 ^ k → 1 ≤ k → (Lib.decDigits u).length ≤ k
  | 0, _, _, h => absurd h (by omega)
  | k + 1, u, hu, _ => by
    rw [Lib.decDigits]
    split
    · simp
    · rename_i h
      have hk : 1 ≤ k := by
        cases k with
        | zero => simp at hu; omega
        | succ k => omega
      have := decDigits_len k (u / 10) (by rw [Nat.pow_succ] at hu; omega) hk
      rw [List.length_append, List.length_singleton]; omega
theorem dcm_len {n : Int} (h : -9223372036854775808 ≤ n ∧ n ≤ 9223372036854775807) : (dcm n).length ≤ 20 := by
  unfold dcm Lib.itoa
  split
  · have := decDigits_len 19 n.natAbs (by have : n.natAbs ≤ 9223372036854775808 := by omega
                                          exact Nat.lt_of_le_of_lt this (by decide)) (by decide)
    rw [List.length_cons]; omega
  · have := decDigits_len 19 n.toNat (by have : n.toNat ≤ 9223372036854775807 := by omega
                                         exact Nat.lt_of_le_of_lt this (by decide)) (by decide)
    omega

/-- Words put together, with a text between each two. -/
theorem join_snoc (ws : List (List UInt8)) (w sep : List UInt8) : Lib.join (ws ++ [w]) sep = if ws = [] then w else Lib.join ws sep ++ (sep ++ w) := by
  cases ws with
  | nil => simp [Lib.join_one]
  | cons x r =>
    rw [if_neg (by simp), List.cons_append, Lib.join_cons, Lib.join_cons]
    simp [Lib.joinTail]
theorem join_len {M : Nat} {sep : List UInt8} : ∀ {ws : List (List UInt8)}, (∀ w ∈ ws, w.length ≤ M) → (Lib.join ws sep).length ≤ ws.length * (M + sep.length)
  | [], _ => by simp [Lib.join_nil]
  | x :: r, h => by
    rw [Lib.join_cons, List.length_append]
    have h1 := h x (by simp)
    have : ∀ r : List (List UInt8), (∀ w ∈ r, w.length ≤ M) → (Lib.joinTail sep r).length ≤ r.length * (M + sep.length) := by
      intro r
      induction r with
      | nil => intro _; simp [Lib.joinTail]
      | cons y r ih =>
        intro hr
        have := ih (fun w hw => hr w (by simp [hw]))
        have h2 := hr y (by simp)
        simp only [Lib.joinTail, List.map_cons, List.flatten_cons, List.length_append, List.length_cons] at this ⊢
        rw [Nat.succ_mul]; omega
    have h3 := this r (fun w hw => h w (by simp [hw]))
    rw [List.length_cons, Nat.succ_mul]; omega

theorem join_eq_nil {ws : List (List UInt8)} {sep : List UInt8} (h : ∀ w ∈ ws, w ≠ []) : Lib.join ws sep = [] ↔ ws = [] := by
  cases ws with
  | nil => simp [Lib.join_nil]
  | cons x r =>
    rw [Lib.join_cons]
    have := h x (by simp)
    simp [this]
/-- Texts of the first k elements, one behind the other. -/
def catK {α : Type} (g : α → List UInt8) (l : List α) (k : Nat) : List UInt8 := ((l.take k).map g).flatten
theorem catK_zero {α : Type} (g : α → List UInt8) (l : List α) : catK g l 0 = [] := rfl
theorem catK_succ {α : Type} (g : α → List UInt8) {l : List α} {k : Nat} (hk : k < l.length) : catK g l (k + 1) = catK g l k ++ g l[k] := by
  unfold catK; rw [List.take_succ_eq_append_getElem hk, List.map_append, List.flatten_append]; simp
theorem flat_le {α : Type} {g : α → List UInt8} {M : Nat} : ∀ {l : List α}, (∀ x ∈ l, (g x).length ≤ M) → ((l.map g).flatten).length ≤ l.length * M
  | [], _ => by simp
  | x :: l, h => by
    have := flat_le (l := l) (g := g) (M := M) fun y hy => h y (by simp [hy])
    have := h x (by simp)
    simp only [List.map_cons, List.flatten_cons, List.length_append, List.length_cons]
    rw [Nat.succ_mul]; omega
theorem catK_len {α : Type} {g : α → List UInt8} {M : Nat} {l : List α} (h : ∀ x ∈ l, (g x).length ≤ M) (k : Nat) : (catK g l k).length ≤ l.length * M := by
  unfold catK
  have h1 := flat_le (l := l.take k) fun x hx => h x (List.mem_of_mem_take hx)
  have h2 : (l.take k).length * M ≤ l.length * M := Nat.mul_le_mul_right _ (by rw [List.length_take]; omega)
  omega
/-- .. with a text between each two. -/
def joinK {α : Type} (g : α → List UInt8) (sep : List UInt8) (l : List α) (k : Nat) : List UInt8 := Lib.join ((l.take k).map g) sep
theorem joinK_zero {α : Type} (g : α → List UInt8) (sep : List UInt8) (l : List α) : joinK g sep l 0 = [] := rfl
theorem joinK_first {α : Type} (g : α → List UInt8) (sep : List UInt8) {l : List α} (hk : 0 < l.length) : joinK g sep l 1 = g l[0] := by
  unfold joinK
  rw [List.take_succ_eq_append_getElem hk]; simp [Lib.join_one]
theorem joinK_succ {α : Type} (g : α → List UInt8) (sep : List UInt8) {l : List α} {k : Nat} (hk : k < l.length) (h0 : 0 < k) : joinK g sep l (k + 1) = joinK g sep l k ++ (sep ++ g l[k]) := by
  unfold joinK
  rw [List.take_succ_eq_append_getElem hk, List.map_append, List.map_singleton, join_snoc, if_neg]
  intro q
  have := congrArg List.length q
  rw [List.length_map, List.length_take, List.length_nil] at this
  omega
theorem joinK_len {α : Type} {g : α → List UInt8} {M : Nat} {sep : List UInt8} {l : List α} (h : ∀ x ∈ l, (g x).length ≤ M) (k : Nat) : (joinK g sep l k).length ≤ l.length * (M + sep.length) := by
  unfold joinK
  have h1 := join_len (sep := sep) (M := M) (ws := (l.take k).map g) (fun w hw => by
    obtain ⟨x, hx, rfl⟩ := List.mem_map.1 hw
    exact h x (List.mem_of_mem_take hx))
  have h2 : ((l.take k).map g).length * (M + sep.length) ≤ l.length * (M + sep.length) := Nat.mul_le_mul_right _ (by rw [List.length_map, List.length_take]; omega)
  exact Nat.le_trans h1 h2
theorem joinK_all {α : Type} (g : α → List UInt8) (sep : List UInt8) (l : List α) : joinK g sep l l.length = Lib.join (l.map g) sep := by unfold joinK; rw [List.take_length]
theorem joinK_nil {α : Type} {g : α → List UInt8} {sep : List UInt8} {l : List α} (h : ∀ x ∈ l, g x ≠ []) (k : Nat) : joinK g sep l k = [] ↔ l.take k = [] := by
  unfold joinK
  rw [join_eq_nil (fun w hw => by obtain ⟨x, hx, rfl⟩ := List.mem_map.1 hw; exact h x (List.mem_of_mem_take hx))]
  simp
/-- The text of a heap. -/
def heapT (l : List Int) : List UInt8 := if l = [] then [46] else Lib.join (l.map dcm) [44]
theorem heapT_len {l : List Int} (h : ∀ x ∈ l, -9223372036854775808 ≤ x ∧ x ≤ 9223372036854775807) : (heapT l).length ≤ l.length * 21 + 1 := by
  unfold heapT
  split
  · simp
  · have := joinK_len (sep := [44]) (M := 20) (g := dcm) (l := l) (fun x hx => dcm_len (h x hx)) l.length
    rw [joinK_all] at this
    simp only [List.length_singleton] at this
    omega
/-- The text of a charge. -/
def sgnT (n : Int) : List UInt8 := if n < 0 then [45] else if n = 0 then [48] else [43]
end Go.AI
