/-
  Plain facts on lists of numbers: sums, counts. No condition.
-/
import Derived.Test.YtdlhajkidekjaaaDoorZEnd
namespace Go.AI

/-- The sum of what f makes of the elements. -/
def sumF {α : Type} (f : α → Int) : List α → Int
  | [] => 0
  | x :: l => f x + sumF f l
theorem sumF_bnd {α : Type} (f : α → Int) {lo hi : Int} : ∀ (l : List α), (∀ x ∈ l, lo ≤ f x ∧ f x ≤ hi) → lo * l.length ≤ sumF f l ∧ sumF f l ≤ hi * l.length
  | [], _ => by simp [sumF]
  | x :: l, h => by
    have h1 := h x (by simp)
    have h2 := sumF_bnd f l (fun y hy => h y (by simp [hy]))
    have e : ∀ a : Int, a * ((x :: l).length : Int) = a * l.length + a := fun a => by
      rw [List.length_cons, Int.natCast_succ, Int.mul_add, Int.mul_one]
    rw [e, e, sumF]; omega
theorem sumF_take {α : Type} (f : α → Int) {lo hi : Int} (l : List α) (h : ∀ x ∈ l, lo ≤ f x ∧ f x ≤ hi) (k : Nat) (hk : k ≤ l.length) : lo * k ≤ sumF f (l.take k) ∧ sumF f (l.take k) ≤ hi * k := by
  have := sumF_bnd f (l.take k) (fun x hx => h x (List.mem_of_mem_take hx))
  rw [List.length_take, Nat.min_eq_left hk] at this; exact this
def one (x y : Int) : Int := if y = x then 1 else 0
/-- Bags: from one to eight numbers from 0 to 1000. -/
def Bag (b : List Int) : Prop := (∀ x ∈ b, 0 ≤ x ∧ x ≤ 1000) ∧ 1 ≤ b.length ∧ b.length ≤ 8
theorem Bag.take {b : List Int} (h : Bag b) (k : Nat) (hk : k ≤ b.length) : 0 ≤ sumF (fun x => x) (b.take k) ∧ sumF (fun x => x) (b.take k) ≤ 1000 * k := by
  have := sumF_take (fun x => x) b h.1 k hk
  simpa using this
open Classical in
/-- The code of a condition, and a number under it. -/
noncomputable def cdP (p : Prop) : Int := if p then 0 else 1
open Classical in
noncomputable def numP (p : Prop) (n : Int) : Int := if p then n else 0
open Classical in
/-- The code of two conditions, one behind the other. -/
noncomputable def cd2 (p q : Prop) : Int := if p then (if q then 0 else 2) else 1
open Classical in
noncomputable def cd3 (p q r : Prop) : Int := if p then (if q then (if r then 0 else 4) else 2) else 1
/-- Lists whose sums stay within range. -/
def Small (b : List Int) : Prop := (∀ x ∈ b, -1000000000 ≤ x ∧ x ≤ 1000000000) ∧ b.length ≤ 1000000
theorem Small.take {b : List Int} (h : Small b) (k : Nat) (hk : k ≤ b.length) : -1000000000 * k ≤ sumF (fun x => x) (b.take k) ∧ sumF (fun x => x) (b.take k) ≤ 1000000000 * k :=
  sumF_take (fun x => x) b h.1 k hk
end Go.AI
