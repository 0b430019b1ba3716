/-
  Texts of numbers and of bags: plain facts. No condition.
-/
import Derived.Test.YtdlhajkidekjaaaDoorZM
import Derived.Lib.ItoaNum
import Derived.Lib.Join
namespace Go.AI
open Go.RowKit
/-- The decimal text of a number. -/
def dcm (n : Int) : List UInt8 := Lib.itoa n
theorem dcm_small {n : Int} (h : 0 ≤ n ∧ n < 10) : dcm n = [UInt8.ofNat (48 + n).toNat] := by
  unfold dcm Lib.itoa
  rw [if_neg (by omega), Lib.decDigits, dif_pos (by omega)]
  congr 2
  omega
theorem dcm_big {n : Int} (h : 10 ≤ n) : dcm n = dcm (n / 10) ++ [UInt8.ofNat (48 + n % 10).toNat] := by
  unfold dcm Lib.itoa
  rw [if_neg (by omega), if_neg (by omega), Lib.decDigits, dif_neg (by omega)]
  have e1 : n.toNat / 10 = (n / 10).toNat := by omega
  have e2 : 48 + n.toNat % 10 = (48 + n % 10).toNat := by omega
  rw [e1, e2]
theorem dcm_neg {n : Int} (h : n < 0) : dcm n = 45 :: dcm (0 - n) := by
  unfold dcm Lib.itoa
  rw [if_pos h, if_neg (by omega)]
  have e1 : n.natAbs = (0 - n).toNat := by omega
  rw [e1]
theorem decDigits_len : ∀ (k u : Nat), u < 10 ^ k → 1 ≤ k → (Lib.decDigits u).length ≤ k
  | 0, _, _, h => absurd h (by omega)
  | k + 1, u, hu, _ => by
    rw [Lib.decDigits]
    split
    · simp
    · rename_i h
      have hk : 1 ≤ k := by
        cases k with
        | zero => simp at hu; omega
        | succ k => omega
      have := decDigits_len k (u / 10) (by rw [Nat.pow_succ] at hu; omega) hk
      rw [List.length_append, List.length_singleton]; omega
theorem dcm_len {n : Int} (h : -9223372036854775808 ≤ n ∧ n ≤ 9223372036854775807) : (dcm n).length ≤ 20 := by
  unfold dcm Lib.itoa
  split
  · have := decDigits_len 19 n.natAbs (by have : n.natAbs ≤ 9223372036854775808 := by omega
                                          exact Nat.lt_of_le_of_lt this (by decide)) (by decide)
    rw [List.length_cons]; omega
  · have := decDigits_len 19 n.toNat (by have : n.toNat ≤ 9223372036854775807 := by omega
                                         exact Nat.lt_of_le_of_lt this (by decide)) (by decide)
    omega

/-- Texts of the first k elements, one behind the other. -/
def catK {α : Type} (g : α → List UInt8) (l : List α) (k : Nat) : List UInt8 := ((l.take k).map g).flatten
theorem catK_zero {α : Type} (g : α → List UInt8) (l : List α) : catK g l 0 = [] := rfl
theorem catK_succ {α : Type} (g : α → List UInt8) {l : List α} {k : Nat} (hk : k < l.length) : catK g l (k + 1) = catK g l k ++ g l[k] := by
  unfold catK; rw [List.take_succ_eq_append_getElem hk, List.map_append, List.flatten_append]; simp
theorem flat_le {α : Type} {g : α → List UInt8} {M : Nat} : ∀ {l : List α}, (∀ x ∈ l, (g x).length ≤ M) → ((l.map g).flatten).length ≤ l.length * M
  | [], _ => by simp
  | x :: l, h => by
    have := flat_le (l := l) (g := g) (M := M) fun y hy => h y (by simp [hy])
    have := h x (by simp)
    simp only [List.map_cons, List.flatten_cons, List.length_append, List.length_cons]
    rw [Nat.succ_mul]; omega
theorem catK_len {α : Type} {g : α → List UInt8} {M : Nat} {l : List α} (h : ∀ x ∈ l, (g x).length ≤ M) (k : Nat) : (catK g l k).length ≤ l.length * M := by
  unfold catK
  have h1 := flat_le (l := l.take k) fun x hx => h x (List.mem_of_mem_take hx)
  have h2 : (l.take k).length * M ≤ l.length * M := Nat.mul_le_mul_right _ (by rw [List.length_take]; omega)
  omega
/-- .. with a text between each two. -/
def joinK {α : Type} (g : α → List UInt8) (sep : List UInt8) (l : List α) (k : Nat) : List UInt8 := Lib.join ((l.take k).map g) sep
theorem joinK_zero {α : Type} (g : α → List UInt8) (sep : List UInt8) (l : List α) : joinK g sep l 0 = [] := rfl
end Go.AI
