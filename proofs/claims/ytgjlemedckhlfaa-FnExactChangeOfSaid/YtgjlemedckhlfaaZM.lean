/-
  Plain facts on lists of numbers: sums, counts. No condition.
-/
import Derived.Test.YtgjlemedckhlfaaZEnd
namespace Go.AI

/-- The sum of what f makes of the elements. -/
def sumF {α : Type} (f : α → Int) : List α → Int
  | [] => 0
  | x :: l => f x + sumF f l
theorem sumF_app {α : Type} (f : α → Int) (x : α) : ∀ l : List α, sumF f (l ++ [x]) = sumF f l + f x
  | [] => by simp [sumF]
  | y :: l => by
    have := sumF_app f x l
    simp only [List.cons_append, sumF, this]; omega
theorem sumF_succ {α : Type} (f : α → Int) {l : List α} {k : Nat} (h : k < l.length) : sumF f (l.take (k + 1)) = sumF f (l.take k) + f l[k] := by
  rw [List.take_succ_eq_append_getElem h, sumF_app]
theorem sumF_bnd {α : Type} (f : α → Int) {lo hi : Int} : ∀ (l : List α), (∀ x ∈ l, lo ≤ f x ∧ f x ≤ hi) → lo * l.length ≤ sumF f l ∧ sumF f l ≤ hi * l.length
  | [], _ => by simp [sumF]
  | x :: l, h => by
    have h1 := h x (by simp)
    have h2 := sumF_bnd f l (fun y hy => h y (by simp [hy]))
    have e : ∀ a : Int, a * ((x :: l).length : Int) = a * l.length + a := fun a => by
      rw [List.length_cons, Int.natCast_succ, Int.mul_add, Int.mul_one]
    rw [e, e, sumF]; omega
theorem sumF_take {α : Type} (f : α → Int) {lo hi : Int} (l : List α) (h : ∀ x ∈ l, lo ≤ f x ∧ f x ≤ hi) (k : Nat) (hk : k ≤ l.length) : lo * k ≤ sumF f (l.take k) ∧ sumF f (l.take k) ≤ hi * k := by
  have := sumF_bnd f (l.take k) (fun x hx => h x (List.mem_of_mem_take hx))
  rw [List.length_take, Nat.min_eq_left hk] at this; exact this
/-- The sum of numbers; how often a number is there. -/
def tot (l : List Int) : Int := sumF (fun x => x) l
def one (x y : Int) : Int := if y = x then 1 else 0
theorem one_bnd (x y : Int) : 0 ≤ one x y ∧ one x y ≤ 1 := by unfold one; split <;> omega
theorem one_t {x y : Int} (h : y = x) : one x y = 1 := by unfold one; rw [if_pos h]
theorem one_f {x y : Int} (h : ¬y = x) : one x y = 0 := by unfold one; rw [if_neg h]
/-- The place of the first element of which r is true; -1 if there is none. -/
noncomputable def fIdx {α : Type} (r : α → Prop) (l : List α) : Int := if l.findIdx (fun x => dec (r x)) < l.length then (l.findIdx (fun x => dec (r x)) : Int) else -1
theorem fIdx_at {α : Type} {r : α → Prop} {l : List α} {k : Nat} (h : k < l.length) (hr : r l[k]) (hn : ∀ i (hi : i < l.length), i < k → ¬ r l[i]) : fIdx r l = k := by
  have e : l.findIdx (fun x => dec (r x)) = k := by
    rw [List.findIdx_eq h]
    exact ⟨dec_t hr, fun j hj => dec_f (hn j (by omega) hj)⟩
  unfold fIdx; rw [e, if_pos h]
theorem fIdx_none {α : Type} {r : α → Prop} {l : List α} (hn : ∀ i (hi : i < l.length), ¬ r l[i]) : fIdx r l = -1 := by
  have e : l.findIdx (fun x => dec (r x)) = l.length := by
    rw [List.findIdx_eq_length]
    intro x hx
    obtain ⟨i, hi, rfl⟩ := List.getElem_of_mem hx
    exact dec_f (hn i hi)
  unfold fIdx; rw [e, if_neg (Nat.lt_irrefl _)]
theorem fIdx_ex {α : Type} (r : α → Prop) (l : List α) : 0 ≤ fIdx r l ↔ ∃ x ∈ l, r x := by
  constructor
  · intro h
    unfold fIdx at h
    split at h
    · rename_i hl
      have := List.findIdx_getElem (xs := l) (p := fun x => dec (r x)) (w := hl)
      exact ⟨_, List.getElem_mem hl, by
        by_cases hr : r l[l.findIdx (fun x => dec (r x))]
        · exact hr
        · rw [dec_f hr] at this; cases this⟩
    · omega
  · rintro ⟨x, hx, hr⟩
    have : l.findIdx (fun x => dec (r x)) < l.length := List.findIdx_lt_length_of_exists ⟨x, hx, dec_t hr⟩
    unfold fIdx; rw [if_pos this]; omega

/-- Bags: from one to eight numbers from 0 to 1000. -/
def Bag (b : List Int) : Prop := (∀ x ∈ b, 0 ≤ x ∧ x ≤ 1000) ∧ 1 ≤ b.length ∧ b.length ≤ 8
theorem Bag.take {b : List Int} (h : Bag b) (k : Nat) (hk : k ≤ b.length) : 0 ≤ sumF (fun x => x) (b.take k) ∧ sumF (fun x => x) (b.take k) ≤ 1000 * k := by
  have := sumF_take (fun x => x) b h.1 k hk
  simpa using this
open Classical in
/-- The code of a condition, and a number under it. -/
noncomputable def cdP (p : Prop) : Int := if p then 0 else 1
open Classical in
noncomputable def numP (p : Prop) (n : Int) : Int := if p then n else 0
open Classical in
/-- The code of two conditions, one behind the other. -/
noncomputable def cd2 (p q : Prop) : Int := if p then (if q then 0 else 2) else 1
open Classical in
noncomputable def cd3 (p q r : Prop) : Int := if p then (if q then (if r then 0 else 4) else 2) else 1
/-- Lists whose sums stay within range. -/
def Small (b : List Int) : Prop := (∀ x ∈ b, -1000000000 ≤ x ∧ x ≤ 1000000000) ∧ b.length ≤ 1000000
theorem Bag.small {b : List Int} (h : Bag b) : Small b := ⟨fun x hx => by have := h.1 x hx; omega, by have := h.2; omega⟩
theorem Small.take {b : List Int} (h : Small b) (k : Nat) (hk : k ≤ b.length) : -1000000000 * k ≤ sumF (fun x => x) (b.take k) ∧ sumF (fun x => x) (b.take k) ≤ 1000000000 * k :=
  sumF_take (fun x => x) b h.1 k hk
end Go.AI
