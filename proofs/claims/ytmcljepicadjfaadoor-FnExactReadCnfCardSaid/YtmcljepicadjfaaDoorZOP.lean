/-
  Plain facts on lists of numbers: sums, counts. No condition.
-/
import Derived.Test.YtmcljepicadjfaaDoorZT
import Derived.Lib.ItoaNum
import Derived.Lib.Join
import Derived.Test.YtmcljepicadjfaaDoorZRun
import Derived.ProofKit
import Derived.Deep.Slices
import Derived.Lib.Split
import Derived.Lib.CountLaws
import Derived.Lib.SplitLaws
import Derived.Lib.ParseIntBTie
namespace Go.AI

/-- The sum of what f makes of the elements. -/
def sumF {α : Type} (f : α → Int) : List α → Int
  | [] => 0
  | x :: l => f x + sumF f l
theorem sumF_bnd {α : Type} (f : α → Int) {lo hi : Int} : ∀ (l : List α), (∀ x ∈ l, lo ≤ f x ∧ f x ≤ hi) → lo * l.length ≤ sumF f l ∧ sumF f l ≤ hi * l.length
  | [], _ => by simp [sumF]
  | x :: l, h => by
    have h1 := h x (by simp)
    have h2 := sumF_bnd f l (fun y hy => h y (by simp [hy]))
    have e : ∀ a : Int, a * ((x :: l).length : Int) = a * l.length + a := fun a => by
      rw [List.length_cons, Int.natCast_succ, Int.mul_add, Int.mul_one]
    rw [e, e, sumF]; omega
theorem sumF_take {α : Type} (f : α → Int) {lo hi : Int} (l : List α) (h : ∀ x ∈ l, lo ≤ f x ∧ f x ≤ hi) (k : Nat) (hk : k ≤ l.length) : lo * k ≤ sumF f (l.take k) ∧ sumF f (l.take k) ≤ hi * k := by
  have := sumF_bnd f (l.take k) (fun x hx => h x (List.mem_of_mem_take hx))
  rw [List.length_take, Nat.min_eq_left hk] at this; exact this
def one (x y : Int) : Int := if y = x then 1 else 0
/-- Bags: from one to eight numbers from 0 to 1000. -/
def Bag (b : List Int) : Prop := (∀ x ∈ b, 0 ≤ x ∧ x ≤ 1000) ∧ 1 ≤ b.length ∧ b.length ≤ 8
theorem Bag.take {b : List Int} (h : Bag b) (k : Nat) (hk : k ≤ b.length) : 0 ≤ sumF (fun x => x) (b.take k) ∧ sumF (fun x => x) (b.take k) ≤ 1000 * k := by
  have := sumF_take (fun x => x) b h.1 k hk
  simpa using this
open Classical in
/-- The code of a condition, and a number under it. -/
noncomputable def cdP (p : Prop) : Int := if p then 0 else 1
open Classical in
noncomputable def numP (p : Prop) (n : Int) : Int := if p then n else 0
open Classical in
/-- The code of two conditions, one behind the other. -/
noncomputable def cd2 (p q : Prop) : Int := if p then (if q then 0 else 2) else 1
open Classical in
noncomputable def cd3 (p q r : Prop) : Int := if p then (if q then (if r then 0 else 4) else 2) else 1
theorem dec_congr {p q : Prop} (h : p ↔ q) : dec p = dec q := by rw [propext h]
/-- Lists whose sums stay within range. -/
def Small (b : List Int) : Prop := (∀ x ∈ b, -1000000000 ≤ x ∧ x ≤ 1000000000) ∧ b.length ≤ 1000000
theorem Small.take {b : List Int} (h : Small b) (k : Nat) (hk : k ≤ b.length) : -1000000000 * k ≤ sumF (fun x => x) (b.take k) ∧ sumF (fun x => x) (b.take k) ≤ 1000000000 * k :=
  sumF_take (fun x => x) b h.1 k hk
end Go.AI

/-
  Texts of numbers and of bags: plain facts. No condition.
-/
namespace Go.AI
open Go.RowKit
theorem getD_at {α : Type} {l : List α} {i : Nat} {d : α} (h : i < l.length) : l.getD i d = l[i] := by simp [h]
def encW (w : List UInt8) : List A := [.str w]
/-- The decimal text of a number. -/
def dcm (n : Int) : List UInt8 := Lib.itoa n
theorem dcm_small {n : Int} (h : 0 ≤ n ∧ n < 10) : dcm n = [UInt8.ofNat (48 + n).toNat] := by
  unfold dcm Lib.itoa
  rw [if_neg (by omega), Lib.decDigits, dif_pos (by omega)]
  congr 2
  omega
theorem dcm_big {n : Int} (h : 10 ≤ n) : dcm n = dcm (n / 10) ++ [UInt8.ofNat (48 + n % 10).toNat] := by
  unfold dcm Lib.itoa
  rw [if_neg (by omega), if_neg (by omega), Lib.decDigits, dif_neg (by omega)]
  have e1 : n.toNat / 10 = (n / 10).toNat := by omega
  have e2 : 48 + n.toNat % 10 = (48 + n % 10).toNat := by omega
  rw [e1, e2]
theorem dcm_neg {n : Int} (h : n < 0) : dcm n = 45 :: dcm (0 - n) := by
  unfold dcm Lib.itoa
  rw [if_pos h, if_neg (by omega)]
  have e1 : n.natAbs = (0 - n).toNat := by omega
  rw [e1]
theorem decDigits_ne (u : Nat) : Lib.decDigits u ≠ [] := by
  rw [Lib.decDigits]
  split <;> simp
theorem decDigits_len : ∀ (k u : Nat), u < 10 ^ k → 1 ≤ k → (Lib.decDigits u).length ≤ k
  | 0, _, _, h => absurd h (by omega)
  | k + 1, u, hu, _ => by
    rw [Lib.decDigits]
    split
    · simp
    · rename_i h
      have hk : 1 ≤ k := by
        cases k with
        | zero => simp at hu; omega
        | succ k => omega
      have := decDigits_len k (u / 10) (by rw [Nat.pow_succ] at hu; omega) hk
      rw [List.length_append, List.length_singleton]; omega
theorem dcm_len {n : Int} (h : -9223372036854775808 ≤ n ∧ n ≤ 9223372036854775807) : (dcm n).length ≤ 20 := by
  unfold dcm Lib.itoa
  split
  · have := decDigits_len 19 n.natAbs (by have : n.natAbs ≤ 9223372036854775808 := by omega
                                          exact Nat.lt_of_le_of_lt this (by decide)) (by decide)
    rw [List.length_cons]; omega
  · have := decDigits_len 19 n.toNat (by have : n.toNat ≤ 9223372036854775807 := by omega
                                         exact Nat.lt_of_le_of_lt this (by decide)) (by decide)
    omega

/-- Texts of the first k elements, one behind the other. -/
def catK {α : Type} (g : α → List UInt8) (l : List α) (k : Nat) : List UInt8 := ((l.take k).map g).flatten
theorem catK_zero {α : Type} (g : α → List UInt8) (l : List α) : catK g l 0 = [] := rfl
theorem catK_succ {α : Type} (g : α → List UInt8) {l : List α} {k : Nat} (hk : k < l.length) : catK g l (k + 1) = catK g l k ++ g l[k] := by
  unfold catK; rw [List.take_succ_eq_append_getElem hk, List.map_append, List.flatten_append]; simp
theorem flat_le {α : Type} {g : α → List UInt8} {M : Nat} : ∀ {l : List α}, (∀ x ∈ l, (g x).length ≤ M) → ((l.map g).flatten).length ≤ l.length * M
  | [], _ => by simp
  | x :: l, h => by
    have := flat_le (l := l) (g := g) (M := M) fun y hy => h y (by simp [hy])
    have := h x (by simp)
    simp only [List.map_cons, List.flatten_cons, List.length_append, List.length_cons]
    rw [Nat.succ_mul]; omega
theorem catK_len {α : Type} {g : α → List UInt8} {M : Nat} {l : List α} (h : ∀ x ∈ l, (g x).length ≤ M) (k : Nat) : (catK g l k).length ≤ l.length * M := by
  unfold catK
  have h1 := flat_le (l := l.take k) fun x hx => h x (List.mem_of_mem_take hx)
  have h2 : (l.take k).length * M ≤ l.length * M := Nat.mul_le_mul_right _ (by rw [List.length_take]; omega)
  omega
/-- .. with a text between each two. -/
def joinK {α : Type} (g : α → List UInt8) (sep : List UInt8) (l : List α) (k : Nat) : List UInt8 := Lib.join ((l.take k).map g) sep
theorem joinK_zero {α : Type} (g : α → List UInt8) (sep : List UInt8) (l : List α) : joinK g sep l 0 = [] := rfl
end Go.AI

/-
  What came in, read as plain data. No condition.
-/
namespace Go.AI
open Go.RowKit

section
variable {H : Type} {enc : TypeId × Value → H} {P : Program} {W : World}

def encI (n : Int) : List A := [.int n]
def encB (b : Bool) : List A := [.raw (.bool b)]
def encS {α : Type} (f : α → List A) (l : List α) : List A := [.sl (l.map f)]

/-! Structs, field by field. -/
end
end Go.AI

/-
  Texts cut at a byte, and numbers read back from their texts: plain facts. No condition.
-/
namespace Go.AI
open Go.RowKit
/-- A text cut at each byte c. -/
def spl (c : UInt8) : List UInt8 → List (List UInt8)
  | [] => [[]]
  | x :: s => if x = c then [] :: spl c s else match spl c s with
    | [] => [[x]]
    | w :: ws => (x :: w) :: ws
theorem spl_ne (c : UInt8) (s : List UInt8) : spl c s ≠ [] := by
  cases s with
  | nil => simp [spl]
  | cons x s =>
    rw [spl]
    split
    · simp
    · split <;> simp
theorem spl_len (c : UInt8) : ∀ s : List UInt8, (spl c s).length ≤ s.length + 1
  | [] => by simp [spl]
  | x :: s => by
    have ih := spl_len c s
    rw [spl]
    split
    · simp only [List.length_cons]; omega
    · split
      · simp
      · rename_i w ws he
        rw [he] at ih
        simp only [List.length_cons] at ih ⊢; omega
theorem spl_mem (c : UInt8) : ∀ (s : List UInt8), ∀ w ∈ spl c s, w.length ≤ s.length ∧ c ∉ w
  | [], w, hw => by
    simp only [spl, List.mem_singleton] at hw
    subst hw; simp
  | x :: s, w, hw => by
    have ih := spl_mem c s
    rw [spl] at hw
    split at hw
    · rcases List.mem_cons.1 hw with rfl | hw
      · simp
      · have := ih w hw
        exact ⟨by rw [List.length_cons]; omega, this.2⟩
    · rename_i hx
      split at hw
      · exact absurd (by assumption) (spl_ne c s)
      · rename_i y ys he
        rw [he] at ih
        rcases List.mem_cons.1 hw with rfl | hw
        · have := ih y (by simp)
          refine ⟨by rw [List.length_cons, List.length_cons]; omega, fun q => ?_⟩
          rcases List.mem_cons.1 q with q | q
          · exact hx q.symm
          · exact this.2 q
        · have := ih w (by simp [hw])
          exact ⟨by rw [List.length_cons]; omega, this.2⟩
/-- A text without c, then c, then the rest. -/
theorem spl_cut (c : UInt8) : ∀ (a b : List UInt8), c ∉ a → spl c (a ++ c :: b) = a :: spl c b
  | [], b, _ => by simp [spl]
  | x :: a, b, h => by
    have hx : ¬ x = c := fun q => h (by simp [q])
    rw [List.cons_append, spl, if_neg hx, spl_cut c a b (fun q => h (by simp [q]))]
theorem spl_one (c : UInt8) : ∀ (a : List UInt8), c ∉ a → spl c a = [a]
  | [], _ => rfl
  | x :: a, h => by
    have hx : ¬ x = c := fun q => h (by simp [q])
    rw [spl, if_neg hx, spl_one c a (fun q => h (by simp [q]))]
/-- One byte more behind. -/
theorem spl_snoc_eq (c : UInt8) : ∀ (s : List UInt8), spl c (s ++ [c]) = spl c s ++ [[]]
  | [] => by simp [spl]
  | x :: s => by
    rw [List.cons_append, spl, spl_snoc_eq c s, spl]
    split
    · rfl
    · cases he : spl c s with
      | nil => exact absurd he (spl_ne c s)
      | cons w ws => rfl
theorem spl_snoc_ne (c x : UInt8) (hx : x ≠ c) : ∀ (s : List UInt8), ∃ ws w, spl c s = ws ++ [w] ∧ spl c (s ++ [x]) = ws ++ [w ++ [x]]
  | [] => ⟨[], [], by simp [spl], by simp [spl, hx]⟩
  | y :: s => by
    obtain ⟨ws, w, h1, h2⟩ := spl_snoc_ne c x hx s
    by_cases hy : y = c
    · refine ⟨[] :: ws, w, ?_, ?_⟩
      · rw [spl, if_pos hy, h1]; rfl
      · rw [List.cons_append, spl, if_pos hy, h2]; rfl
    · cases ws with
      | nil =>
        refine ⟨[], y :: w, ?_, ?_⟩
        · rw [spl, if_neg hy, h1]; rfl
        · rw [List.cons_append, spl, if_neg hy, h2]; rfl
      | cons v vs =>
        refine ⟨(y :: v) :: vs, w, ?_, ?_⟩
        · rw [spl, if_neg hy, h1]; rfl
        · rw [List.cons_append, spl, if_neg hy, h2]; rfl
/-- Lines, each with c behind it. -/
theorem spl_lines (c : UInt8) : ∀ (ws : List (List UInt8)), (∀ x ∈ ws, c ∉ x) → spl c ((ws.map fun w => w ++ [c]).flatten) = ws ++ [[]]
  | [], _ => rfl
  | w :: ws, h => by
    rw [List.map_cons, List.flatten_cons, List.append_assoc, List.singleton_append, spl_cut c _ _ (h w (by simp)), spl_lines c ws (fun x hx => h x (by simp [hx]))]; rfl
theorem index_eq_c (c : UInt8) (l : List UInt8) : Lib.index (c :: l) [c] = 0 := by simp [Lib.index]
theorem index_ne_c (x c : UInt8) (h : x ≠ c) (l : List UInt8) : Lib.index (x :: l) [c] = if Lib.index l [c] == -1 then -1 else Lib.index l [c] + 1 := by
  have hc : ¬ c = x := fun q => h q.symm
  rw [Lib.index, if_neg]
  simp [hc]
theorem splitK_spl (c : UInt8) : ∀ s : List UInt8, Lib.splitK [c] 0 (s.count c) s = spl c s
  | [] => rfl
  | x :: s => by
    have ih := splitK_spl c s
    by_cases hx : x = c
    · subst hx
      rw [List.count_cons_self, Lib.splitK, index_eq_c]
      simp only [spl, if_pos]
      rw [if_neg (by decide)]
      simp [ih]
    · rw [List.count_cons_of_ne (fun q => hx q), spl, if_neg hx, ← ih]
      cases hk : s.count c with
      | zero => rfl
      | succ k =>
        have hi : ¬ Lib.index s [c] = -1 := fun q => by
          have := Lib.count_miss q
          rw [Lib.count_one] at this; omega
        have hg := Lib.index_ge s [c]
        rw [Lib.splitK, Lib.splitK, index_ne_c x c hx]
        have hb : (Lib.index s [c] == -1) = false := by simpa using hi
        rw [hb]
        simp only [Bool.false_eq_true, if_false]
        have h1 : (Lib.index s [c] + 1 == -1) = false := by simp; omega
        rw [h1]
        have e1 : (Lib.index s [c] + 1).toNat = (Lib.index s [c]).toNat + 1 := by omega
        simp only [Bool.false_eq_true, if_false, e1, Nat.add_zero, List.take_succ_cons, List.length_singleton]
        rfl
theorem spl_count (c : UInt8) : ∀ s : List UInt8, (spl c s).length = s.count c + 1
  | [] => rfl
  | x :: s => by
    have ih := spl_count c s
    by_cases hx : x = c
    · subst hx; rw [spl, if_pos rfl, List.length_cons, ih, List.count_cons_self]
    · rw [spl, if_neg hx, List.count_cons_of_ne (fun q => hx q), ← ih]
      cases he : spl c s with
      | nil => exact absurd he (spl_ne c s)
      | cons w ws => rfl

/-! ### Numbers -/
/-- What is read as a number, and whether it is one. -/
def pIv (s : List UInt8) : Int := match Lib.parseIntB 64 s with
  | .ok v => v
  | .range => Lib.intSat 64 s
  | _ => 0
def pIok (s : List UInt8) : Bool := match Lib.parseIntB 64 s with
  | .ok _ => true
  | _ => false
theorem pIv_in (s : List UInt8) : -9223372036854775808 ≤ pIv s ∧ pIv s ≤ 9223372036854775807 := by
  unfold pIv
  split
  · rename_i v hv
    have := Lib.parseIntB_bounds hv
    have e : (2 : Nat) ^ (64 - 1) = 9223372036854775808 := by decide
    rw [e] at this
    omega
  · rw [Lib.intSat_64]; unfold Lib.atoiSat; split <;> decide
  · decide
theorem pU_snoc : ∀ (l : List UInt8) (acc a : Nat) (d : UInt8), Lib.parseUint10 acc l = .ok a → Lib.parseUint10 acc (l ++ [d]) = Lib.parseUint10 a [d]
  | [], acc, a, d, h => by
    simp only [Lib.parseUint10] at h
    injection h with h
    subst h; rfl
  | c :: r, acc, a, d, h => by
    rw [Lib.parseUint10] at h
    rw [List.cons_append, Lib.parseUint10]
    by_cases h1 : 48 ≤ c.toNat ∧ c.toNat ≤ 57
    · rw [if_pos h1] at h ⊢
      by_cases h2 : 1844674407370955162 ≤ acc
      · rw [if_pos h2] at h; cases h
      · rw [if_neg h2] at h ⊢
        by_cases h3 : 18446744073709551616 ≤ acc * 10 + (c.toNat - 48)
        · rw [if_pos h3] at h; cases h
        · rw [if_neg h3] at h ⊢
          exact pU_snoc r _ a d h
    · rw [if_neg h1] at h; cases h
theorem digit_nat {u : Nat} (h : u < 10) : (UInt8.ofNat (48 + u)).toNat = 48 + u := by
  rw [UInt8.toNat_ofNat_of_lt' (by have : UInt8.size = 256 := rfl; omega)]
theorem pU_dec : ∀ (k u : Nat), u < k → u < 18446744073709551616 → Lib.parseUint10 0 (Lib.decDigits u) = .ok u
  | 0, _, h, _ => absurd h (by omega)
  | k + 1, u, h, h2 => by
    rw [Lib.decDigits]
    split
    · rename_i hs
      rw [Lib.parseUint10, digit_nat hs, if_pos (by omega), if_neg (by decide), if_neg (by omega), Lib.parseUint10]
      congr 1; omega
    · rename_i hs
      have ih := pU_dec k (u / 10) (by omega) (by omega)
      rw [pU_snoc _ _ _ _ ih, Lib.parseUint10, digit_nat (by omega), if_pos (by omega), if_neg (by omega), if_neg (by omega), Lib.parseUint10]
      congr 1; omega
theorem decDigits_head (k : Nat) : ∀ u : Nat, u < k → ∃ d r, Lib.decDigits u = UInt8.ofNat (48 + d) :: r ∧ d < 10 := by
  induction k with
  | zero => intro u h; omega
  | succ k ih =>
    intro u h
    rw [Lib.decDigits]
    split
    · rename_i hs; exact ⟨u, [], rfl, hs⟩
    · rename_i hs
      obtain ⟨d, r, e, hd⟩ := ih (u / 10) (by omega)
      exact ⟨d, r ++ [UInt8.ofNat (48 + u % 10)], by rw [e]; rfl, hd⟩
theorem pI_dcm {n : Int} (h : -9223372036854775808 ≤ n ∧ n ≤ 9223372036854775807) : Lib.parseIntB 64 (dcm n) = .ok n := by
  rw [Lib.parseIntB_64]
  unfold dcm Lib.itoa
  by_cases hn : n < 0
  · rw [if_pos hn, Lib.atoiAll_minus]
    unfold Lib.parseMag
    rw [if_neg (decDigits_ne _), pU_dec (n.natAbs + 1) n.natAbs (by omega) (by omega)]
    simp only [Lib.signed]
    rw [if_neg (by omega)]
    congr 1; omega
  · rw [if_neg hn]
    obtain ⟨d, r, e, hd⟩ := decDigits_head (n.toNat + 1) n.toNat (by omega)
    have q := pU_dec (n.toNat + 1) n.toNat (by omega) (by omega)
    rw [e] at q ⊢
    have hd2 := digit_nat hd
    rw [Lib.atoiAll_plain _ _ (by omega) (by omega)]
    unfold Lib.parseMag
    rw [if_neg (by simp), q]
    simp only [Lib.signless]
    rw [if_neg (by omega)]
    congr 1; omega
theorem pIv_dcm {n : Int} (h : -9223372036854775808 ≤ n ∧ n ≤ 9223372036854775807) : pIv (dcm n) = n := by unfold pIv; rw [pI_dcm h]
theorem pIok_dcm {n : Int} (h : -9223372036854775808 ≤ n ∧ n ≤ 9223372036854775807) : pIok (dcm n) = true := by unfold pIok; rw [pI_dcm h]
/-- The bytes of a number's text: digits, and a sign. -/
theorem decDigits_mem : ∀ (k u : Nat), u < k → ∀ x ∈ Lib.decDigits u, 48 ≤ x.toNat ∧ x.toNat ≤ 57
  | 0, _, h, _, _ => absurd h (by omega)
  | k + 1, u, h, x, hx => by
    rw [Lib.decDigits] at hx
    split at hx
    · rename_i hs
      rw [List.mem_singleton] at hx
      subst hx
      rw [digit_nat hs]; omega
    · rename_i hs
      rcases List.mem_append.1 hx with hx | hx
      · exact decDigits_mem k (u / 10) (by omega) x hx
      · rw [List.mem_singleton] at hx
        subst hx
        rw [digit_nat (by omega)]; omega
theorem dcm_mem {n : Int} {x : UInt8} (hx : x ∈ dcm n) : x.toNat = 45 ∨ 48 ≤ x.toNat ∧ x.toNat ≤ 57 := by
  unfold dcm Lib.itoa at hx
  split at hx
  · rcases List.mem_cons.1 hx with rfl | hx
    · exact .inl rfl
    · exact .inr (decDigits_mem _ _ (Nat.lt_succ_self _) x hx)
  · exact .inr (decDigits_mem _ _ (Nat.lt_succ_self _) x hx)
theorem dcm_no {n : Int} {c : UInt8} (h : c.toNat ≠ 45) (h2 : c.toNat < 48 ∨ 57 < c.toNat) : c ∉ dcm n := fun q => by
  rcases dcm_mem q with q | q <;> omega
end Go.AI

/-
  More rules of the walk: elements of lists of the call's own, the tail of a list. No condition.
-/
namespace Go.AI
open Go.RowKit

section
variable {C : Cx} {n : Nat} {Q : Exit → Env → Heap → Prop} {e : Env} {h h' : Heap} {d : Bool} {l os : List Oper} {o : Oper} {f : Fl} {fs : List Fl} {B : List (Nat × Blk)}
theorem drop_flat {α : Type} {g : α → List A} {z : Nat} (hz : ∀ y, (g y).length = z) : ∀ (L : List α) (m : Nat) (hm : m < L.length), (L.map g).flatten.drop (m * z) = g L[m] ++ ((L.drop (m + 1)).map g).flatten
  | [], m, hm => absurd hm (Nat.not_lt_zero _)
  | x :: L, 0, hm => by simp
  | x :: L, m + 1, hm => by
    have ih := drop_flat hz L m (by simpa using hm)
    simp only [List.map_cons, List.flatten_cons, List.drop_succ_cons, List.getElem_cons_succ]
    have e1 : (m + 1) * z = (g x).length + m * z := by rw [hz, Nat.succ_mul]; omega
    rw [e1, List.drop_length_add_append]; exact ih

/-- '.. = s[m]', s a list of the call's own. -/
theorem j_mloadE (i m : Nat) {α : Type} {g : α → List A} {L : List α} {z : Nat} {T b p T' room dd : Nat} {x : Operand} {v : A} (hw : wantE l e o = some true) (ho : o.op = .load T x) (hx : evO e x = some (.op (some b) p)) (hi : h[i]? = some ⟨some b, T', room, (L.map g).flatten⟩)
    (hz : ∀ y, (g y).length = z) (hp : p = m * z) (hm : m < L.length) (hv : ∀ rest, loadA C.ty T (g L[m] ++ rest) = some v) (hd : o.dst = some dd) (hn : Nat.blt dd n = true) (hj : J d C n l os Q ((dd, v) :: e) h) : J d C n l (o :: os) Q e h :=
  j_mload i hw ho hx hi (by rw [hp, drop_flat hz L m hm]; exact hv _) hd hn hj
/-- 's[m:]'. -/
theorem j_tail (m : Nat) {α : Type} {g : α → List A} {ys : List α} {T E z sz dd : Nat} {x : Operand} {lo : Option Operand} (hw : wantE l e o = some true) (ho : o.op = .slice T x lo none none) (hT : C.ty T = some ⟨sz, .slice E z⟩) (hx : evO e x = some (.sl (ys.map g))) (hlo : bndO e 0 lo = some (.int (m : Int)))
    (hb : m ≤ ys.length) (hz : ∀ y, (g y).length = z) (hd : o.dst = some dd) (hn : Nat.blt dd n = true) (hj : J d C n l os Q ((dd, .sl ((ys.drop m).map g)) :: e) h) : J d C n l (o :: os) Q e h :=
  j_slice hw ho hT hx hlo (b := ((ys.map g).length : Int)) rfl (by rw [List.length_map]; omega) hz hd hn (by
    have e1 : ((((ys.map g).length : Nat) : Int)).toNat = ys.length := by rw [List.length_map]; omega
    have e2 : ((m : Int)).toNat = m := by omega
    rw [e1, e2, List.take_length]; exact hj)
end
end Go.AI

/-
  Data whose memory is the call's own, all of it: what is told of it, how it is read for a while, and the calls that do so. No condition.
-/
namespace Go.AI
open Go.RowKit

/-- Told alike in whatever memory. -/
def Clo (a : A) : Prop := ∀ (S S' : Nat → Prop) (w w' : World) (v : Value), Rel S w a v → Rel S' w' a v
def CloL (as : List A) : Prop := ∀ a ∈ as, Clo a
def CloH (h : Heap) : Prop := ∀ k ∈ h, CloL k.cs
theorem Clo.int (n : Int) : Clo (.int n) := fun _ _ _ _ _ r => by cases r with | int _ h => exact .int _ h
theorem Clo.raw (v : Value) : Clo (.raw v) := fun _ _ _ _ _ r => by cases r; exact .raw _
theorem Clo.any (p : Value → Prop) : Clo (.any p) := fun _ _ _ _ _ r => by cases r with | any _ _ h => exact .any _ _ h
theorem Clo.os (b : Option Nat) (n cap : Nat) : Clo (.os b n cap) := fun _ _ _ _ _ r => by
  cases r with
  | os _ _ _ h => exact .os _ _ _ h
  | osn a => exact .osn a
theorem CloL.nil : CloL [] := fun _ h => by cases h
theorem CloL.cons {a : A} {as : List A} (h : Clo a) (t : CloL as) : CloL (a :: as) := fun x hx => by
  rcases List.mem_cons.1 hx with rfl | hx
  · exact h
  · exact t x hx
theorem CloL.rel {S S' : Nat → Prop} {w w' : World} {cs : List A} {vs : List Value} (h : CloL cs) (r : RelL S w cs vs) : RelL S' w' cs vs := ⟨r.1, fun j hj hj' => h _ (List.getElem_mem hj) _ _ _ _ _ (r.2 j hj hj')⟩
theorem Clo.agg {cs : List A} (h : CloL cs) : Clo (.agg cs) := fun S S' w w' v r => by
  obtain ⟨vs, rfl, rl⟩ := r.agg_inv
  have := h.rel (S' := S') (w' := w') rl
  exact .agg cs vs this.1 this.2
theorem Clo.tup {cs : List A} (h : CloL cs) : Clo (.tup cs) := fun S S' w w' v r => by
  obtain ⟨vs, rfl, rl⟩ := r.tup_inv
  have := h.rel (S' := S') (w' := w') rl
  exact .tup cs vs this.1 this.2
theorem CloL.flat {css : List (List A)} (h : ∀ cs ∈ css, CloL cs) : CloL css.flatten := fun a ha => by
  obtain ⟨cs, h1, h2⟩ := List.mem_flatten.1 ha
  exact h cs h1 a h2
theorem CloH.nil : CloH [] := fun _ h => by cases h
theorem CloH.cons {k : Blk} {h : Heap} (hk : CloL k.cs) (t : CloH h) : CloH (k :: h) := fun x hx => by
  rcases List.mem_cons.1 hx with rfl | hx
  · exact hk
  · exact t x hx
theorem CloH.append {h h' : Heap} (a : CloH h) (b : CloH h') : CloH (h ++ h') := fun x hx => by
  rcases List.mem_append.1 hx with hx | hx
  · exact a x hx
  · exact b x hx
theorem CloH.flat {hs : List Heap} (h : ∀ x ∈ hs, CloH x) : CloH hs.flatten := fun a ha => by
  obtain ⟨cs, h1, h2⟩ := List.mem_flatten.1 ha
  exact h cs h1 a h2
theorem BlkOk.clo {S S' : Nat → Prop} {w w' : World} {k : Blk} (hc : CloL k.cs) (hb : ∀ b, k.b = some b → w'.heap[b]? = w.heap[b]?) (H : BlkOk S w k) : BlkOk S' w' k := by
  unfold BlkOk at *
  split at H
  · exact H
  · rename_i b hk
    obtain ⟨vs, rest, e, r, hr⟩ := H
    exact ⟨vs, rest, by rw [hb b hk]; exact e, hc.rel r, hr⟩

/-- The data cs, whose memory hT is, can be read as cs'. -/
def FrzL (hT : Heap) (cs cs' : List A) : Prop := ∀ (h : Heap) (w : World) (vs : List Value), (∀ k ∈ hT, k ∈ h) → HeapOk h w → RelL (Im w h) w cs vs → RelL (Im w []) w cs' vs
def Frz (hT : Heap) (a a' : A) : Prop := ∀ (h : Heap) (w : World) (v : Value), (∀ k ∈ hT, k ∈ h) → HeapOk h w → Rel (Im w h) w a v → Rel (Im w []) w a' v
theorem Frz.same (hT : Heap) (a : A) : Frz hT a a := fun h _ _ _ _ r => r.heap (List.nil_sublist h)
theorem Frz.mono {h h' : Heap} {a a' : A} (hs : ∀ k ∈ h', k ∈ h) (H : Frz h' a a') : Frz h a a' := fun F w v hm ho r => H F w v (fun k hk => hm k (hs k hk)) ho r
theorem FrzL.nil (h : Heap) : FrzL h [] [] := fun _ _ _ _ _ r => ⟨r.1, fun j hj => absurd hj (Nat.not_lt_zero _)⟩
theorem FrzL.cons {h : Heap} {a a' : A} {cs cs' : List A} (H : Frz h a a') (T : FrzL h cs cs') : FrzL h (a :: cs) (a' :: cs') := fun F w vs hm ho r => by
  obtain ⟨v, us, rfl, h1, h2⟩ := r.uncons
  exact RelL.cons (H F w v hm ho h1) (T F w us hm ho h2)
theorem FrzL.mono {h h' : Heap} {a a' : List A} (hs : ∀ k ∈ h', k ∈ h) (H : FrzL h' a a') : FrzL h a a' := fun F w v hm ho r => H F w v (fun k hk => hm k (hs k hk)) ho r
theorem Frz.agg {h : Heap} {cs cs' : List A} (H : FrzL h cs cs') : Frz h (.agg cs) (.agg cs') := fun F w v hm ho r => by
  obtain ⟨vs, rfl, rl⟩ := r.agg_inv
  have := H F w vs hm ho rl
  exact .agg cs' vs this.1 this.2
/-- A list of the call's own over the whole of its block. -/
theorem Frz.flat {α : Type} {g : α → List A} {ys : List α} {z n : Nat} {b : Option Nat} {T room cap : Nat} {cs : List A} (hn : n = ys.length) (hcs : cs = (ys.map g).flatten) (hz : ∀ y, (g y).length = z) (hroom : room = cap * z) (hz0 : Nat.blt 0 z = true) : Frz [⟨b, T, room, cs⟩] (.os b n cap) (.sl (ys.map g)) := fun h w v hm ho r => by
  subst hn
  cases b with
  | none =>
    obtain ⟨h1, h2, p, h3⟩ := r.osn_inv
    have : ys = [] := List.eq_nil_of_length_eq_zero h1
    subst this
    rw [h3]; exact .nil _ _
  | some b =>
    obtain ⟨e1, hlen⟩ := r.os_inv
    rw [e1]
    have hmem := hm _ (List.mem_singleton.2 rfl)
    obtain ⟨vs, rest, hb, hr, hrm⟩ := ho.at hmem
    rw [hcs] at hr
    have hlt := ho.lt (mem_keys hmem rfl)
    have hvl : vs.length = ys.length * z := by rw [hr.1, flat_len hz]
    have hzp : 0 < z := Nat.le_of_ble_eq_true hz0
    have hcap : ys.length ≤ cap := by
      have : ys.length * z ≤ cap * z := by rw [← hroom, hrm, ← hvl]; simp
      exact Nat.le_of_mul_le_mul_right this hzp
    have bound : ∀ i j, i < ys.length → j < z → i * z + j < ys.length * z := fun i j h1 h2 => by
      have : (i + 1) * z ≤ ys.length * z := Nat.mul_le_mul_right z h1
      rw [Nat.succ_mul] at this; omega
    have key : Rel (Im w []) w (.sl (ys.map g)) (.slice (some ⟨b, 0, none⟩) (ys.map g).length cap) := by
      refine .sl _ b 0 cap z (fun i j => vs.getD (i * z + j) undef) ⟨hlt, by simp [keys]⟩ (by simpa using hlen) (by simpa using hcap) (fun i hi => by simpa using hz _) (fun i j hi hj => ?_) (fun i j hi hj => ?_)
      · simp at hi
        have hv : i * z + j < vs.length := by rw [hvl]; exact bound i j hi hj
        rw [Nat.zero_add, cell_of_vs hb _ hv]; simp [hv]
      · simp at hi hj
        have hj' : j < z := by rw [← hz ys[i]]; exact hj
        have hv : i * z + j < vs.length := by rw [hvl]; exact bound i j hi hj'
        obtain ⟨u, hu1, hu2⟩ := hr.get (flat_get ys i j hi hj hz)
        have : vs.getD (i * z + j) undef = u := by simp [hu1]
        rw [this]
        simpa using hu2.heap (List.nil_sublist h)
    simpa using key

abbrev Cells (z : Nat) := {l : List A // l.length = z}
/-- A list whose elements' cells and memory are told by E, in memory of the call's own. -/
def OwnSl {α : Type} (E : α → List A → Heap → Prop) (T z : Nat) (xs : List α) (a : A) (h : Heap) : Prop :=
  ∃ (b : Nat) (css : List (Cells z)) (hs : List Heap), css.length = xs.length ∧ hs.length = xs.length ∧ (∀ i (hi : i < xs.length) (h1 : i < css.length) (h2 : i < hs.length), E xs[i] css[i].1 hs[i]) ∧
    a = .os (some b) xs.length xs.length ∧ h = ⟨some b, T, xs.length * z, (css.map Subtype.val).flatten⟩ :: hs.flatten

theorem OwnSl.frz {α : Type} {E : α → List A → Heap → Prop} {enc : α → List A} {T z : Nat} {xs : List α} {a : A} {h : Heap} (hz : ∀ x, (enc x).length = z) (hE : ∀ x cs h, E x cs h → FrzL h cs (enc x)) (o : OwnSl E T z xs a h) : Frz h a (.sl (xs.map enc)) := by
  obtain ⟨b, css, hs, l1, l2, hall, rfl, rfl⟩ := o
  intro F w v hm ho r
  obtain ⟨e1, hlen⟩ := r.os_inv
  rw [e1]
  have hmem := hm (⟨some b, T, xs.length * z, (css.map Subtype.val).flatten⟩ : Blk) (List.mem_cons_self ..)
  obtain ⟨vs, rest, hb, hr, hrm⟩ := ho.at hmem
  have hlt := ho.lt (mem_keys hmem rfl)
  have hc2 : ∀ y : Cells z, (Subtype.val y).length = z := fun y => y.2
  have hvl : vs.length = xs.length * z := by rw [hr.1, flat_len hc2, l1]
  have bound : ∀ i j, i < xs.length → j < z → i * z + j < xs.length * z := fun i j h1 h2 => by
    have : (i + 1) * z ≤ xs.length * z := Nat.mul_le_mul_right z h1
    rw [Nat.succ_mul] at this; omega
  have key : Rel (Im w []) w (.sl (xs.map enc)) (.slice (some ⟨b, 0, none⟩) (xs.map enc).length xs.length) := by
    refine .sl _ b 0 xs.length z (fun i j => vs.getD (i * z + j) undef) ⟨hlt, by simp [keys]⟩ (by simpa using hlen) (by simp) (fun i hi => by simpa using hz _) (fun i j hi hj => ?_) (fun i j hi hj => ?_)
    · simp at hi
      have hv : i * z + j < vs.length := by rw [hvl]; exact bound i j hi hj
      rw [Nat.zero_add, cell_of_vs hb _ hv]; simp [hv]
    · simp only [List.length_map] at hi
      have hj' : j < z := by
        have := hz xs[i]
        simp only [List.getElem_map] at hj; omega
      have hi1 : i < css.length := by omega
      have hi2 : i < hs.length := by omega
      have seg : RelL (Im w F) w css[i].1 ((List.range z).map fun j => vs.getD (i * z + j) undef) := by
        refine ⟨by simp [css[i].2], fun q hq hq' => ?_⟩
        have hqz : q < z := by have := css[i].2; omega
        obtain ⟨u, hu1, hu2⟩ := hr.get (flat_get (f := Subtype.val) css i q hi1 hq hc2)
        have e3 : vs.getD (i * z + q) undef = u := by simp [hu1]
        simp only [List.getElem_map, List.getElem_range, e3]
        exact hu2
      have := (hE _ _ _ (hall i hi hi1 hi2)) F w _ (fun k hk => hm k (List.mem_cons_of_mem _ (List.mem_flatten.2 ⟨_, List.getElem_mem hi2, hk⟩))) ho seg
      have h3 := this.2 j (by rw [hz]; exact hj') (by simpa using hj')
      simpa using h3
  simpa using key

section
variable {C : Cx} {n : Nat} {Q : Exit → Env → Heap → Prop} {e : Env} {h : Heap} {l os : List Oper} {o : Oper}

/-- A call that reads data of the call's own as if nobody wrote it: what it hands back shares no memory with it. -/
theorem call_thaw {P : Program} {f : FuncId} {x : Operand} {args : Array Operand} {ts : Array TypeId} {hT : Heap} {caps as all : List A} {R : A → Heap → Prop} (ho : o.op = .call ⟨.value x, args, ts⟩) (hx : evO e x = some (.fn f caps))
    (ha : mapEv e args.toList = some as) (hf : Does P f all [] R) (hp : ∀ k ∈ hT, k ∈ h) (hz : FrzL hT (as ++ caps) all) (hR : ∀ v h1, R v h1 → Clo v ∧ CloH h1) : MStep P o e h fun v h' => ∃ h1, R v h1 ∧ h' = h1 ++ h := by
  intro a w hs
  have hops := hs.ops
  rw [ho] at hops
  obtain ⟨us, e1, ru⟩ := (hops x (by simp [Op.operands, Call.operands]) _ hx).fn_inv
  have ra := RelL.mapEv (a := a) (w := w) (h := h) (fun y hy => hops y (by simp [Op.operands, Call.operands, Array.mem_toList_iff.1 hy])) ha
  unfold Yields
  rw [exec_call hf.1 ho e1]
  have r2 := hz h w _ hp hs.heap (ra.append ru)
  refine (hf.2 [] w _ r2 ⟨by simp [keys], by simp, hs.heap.tab.stab fun _ hb => ⟨⟨hb.1, by simp [keys]⟩, rfl⟩⟩).mono fun e w' ⟨u, v, h', q1, q2, q3, q4⟩ => ⟨u, q1, v, h' ++ h, ⟨h', q2, rfl⟩, ?_, (hR v h' q2).1 _ _ _ _ _ q4⟩
  have kap : ∀ x y : Heap, keys (x ++ y) = keys x ++ keys y := fun x y => List.filterMap_append
  simp only [List.append_nil] at q3
  have hnew : ∀ b ∈ keys h', w.heap.size ≤ b := fun b hb => (q3.new b hb).elim (fun q => by simp [keys] at q) id
  have same : ∀ b, b < w.heap.size → w'.heap[b]? = w.heap[b]? := fun b hb => q3.block b hb (by simp [keys])
  have im : ∀ b, Im w h b → Im w' (h' ++ h) b ∧ w'.heap[b]? = w.heap[b]? := fun b hb => ⟨⟨Nat.lt_of_lt_of_le hb.1 q3.size, fun hm => by
    rw [kap] at hm
    rcases List.mem_append.1 hm with q | q
    · have := hnew b q; have := hb.1; omega
    · exact hb.2 q⟩, same b hb.1⟩
  refine ⟨q3.os, q3.tape, q3.output, q3.size, fun k hk _ => same k hk, fun b hb => ?_, ⟨?_, fun k hk => ?_, hs.heap.tab.stab im⟩⟩
  · rw [kap] at hb
    rcases List.mem_append.1 hb with hb | hb
    · exact .inr (hnew b hb)
    · exact .inl hb
  · rw [kap]
    exact List.nodup_append.2 ⟨q3.heap.nodup, hs.heap.nodup, fun b hb c hc q => by
      subst q
      have := hs.heap.lt hc
      have := hnew b hb
      omega⟩
  · rcases List.mem_append.1 hk with hk | hk
    · exact (q3.heap.blk k hk).clo ((hR v h' q2).2 k hk) fun _ _ => rfl
    · exact (hs.heap.blk k hk).stab im fun b hb => same b (hs.heap.lt (mem_keys hk hb))

theorem MStep.quiet {P : Program} {R : A → Heap → Prop} {v : A} (hm : MStep P o e h R) (hi : ∀ u h1, R u h1 → u = v ∧ h1 = h) : Quiet P o e h v := fun a w hs => by
  have := hm a w hs
  unfold Yields at this ⊢
  generalize (execOp a.eval o).run P w = r at this ⊢
  have conv : ∀ u w', (∃ v h1, R v h1 ∧ Chg h h1 w w' ∧ Rel (Im w' h1) w' v u) → Chg h h w w' ∧ Rel (Im w' h) w' v u := fun u w' ⟨v, h1, q1, q2, q3⟩ => by
    obtain ⟨rfl, rfl⟩ := hi v h1 q1
    exact ⟨q2, q3⟩
  cases r with
  | ok nx w' =>
    cases nx <;> first | exact conv _ _ this | (exact this.elim) | (exact this.mono fun e w'' ⟨u, he, hR⟩ => ⟨u, he, conv _ _ hR⟩)
  | halt x w' => exact this.elim

theorem jctq (hT : Heap) {d : Bool} {g : FuncId} {as all : List A} {v : A} {dd : Nat} (hf : Gives C.P g all v) (hv : Clo v) (hp : ∀ k ∈ hT, k ∈ h) (hz : FrzL hT as all) (hd : o.dst = some dd) (hn : Nat.blt dd n = true)
    (hj : J d C n l os Q ((dd, v) :: e) h) : JC g as d C n l o os Q e h := by
  unfold JC CallAt
  rintro ⟨x, args, ts, caps, as0, hw, ho, hx, ha, rfl⟩
  exact j_at hw ((call_thaw ho hx ha hf.does hp hz fun u h1 ⟨q1, q2⟩ => by subst q1 q2; exact ⟨hv, CloH.nil⟩).quiet fun u h1 ⟨h2, ⟨q1, q2⟩, q3⟩ => by subst q1 q2 q3; exact ⟨rfl, rfl⟩) hd hn hj
/-- A call that writes: the memory h0 is handed over, wherever it stands. -/
theorem jcp (F : Heap) {g : FuncId} {as all : List A} {R : A → Heap → Prop} {h0 : Heap} {dd : Nat} (hf : Does C.P g all h0 R) (hp : h.Perm (h0 ++ F)) (hle : LeL as all) (hd : o.dst = some dd) (hn : Nat.blt dd n = true)
    (hj : ∀ v h1, R v h1 → J false C n l os Q ((dd, v) :: e) (h1 ++ F)) : JC g as false C n l o os Q e h := by
  unfold JC CallAt
  rintro ⟨x, args, ts, caps, as0, hw, ho, hx, ha, rfl⟩
  exact j_mut hw ((call_step ho hx ha hf hle).perm hp) (by rw [hd]; exact hn) fun v h' ⟨h1, q1, q2⟩ => by rw [hd, q2]; exact hj v h1 q1
end

theorem Chg.drop {h h' h'' : Heap} {w w' : World} (c : Chg h h' w w') {h2 : Heap} (hp : h'.Perm h2) (hs : h''.Sublist h2) : Chg h h'' w w' :=
  ⟨c.os, c.tape, c.output, c.size, c.block, fun b hb => c.new b ((keys_perm hp).mem_iff.2 ((hs.filterMap _).subset hb)), (c.heap.perm hp).sub hs⟩
/-- What is not told of is given up. -/
theorem Does.drop {P : Program} {f : FuncId} {as : List A} {h : Heap} {R R' : A → Heap → Prop} (hd : Does P f as h R) (hR : ∀ v h', R v h' → ∃ h2 h3, h'.Perm h2 ∧ h3.Sublist h2 ∧ R' v h3) : Does P f as h R' :=
  ⟨hd.1, fun F w vs hr hh => (hd.2 F w vs hr hh).mono fun e w' ⟨u, v, h', e1, e2, e3, e4⟩ => by
    obtain ⟨h2, h3, p1, p2, p3⟩ := hR v h' e2
    have hp : (h' ++ F).Perm (h2 ++ F) := p1.append_right F
    have hs : (h3 ++ F).Sublist (h2 ++ F) := p2.append (List.Sublist.refl F)
    exact ⟨u, v, h3, e1, p3, e3.drop hp hs, (e4.stab fun b hb => ⟨im_perm hp hb, rfl⟩).heap hs⟩⟩

/-! ### Fields of elements of own lists -/
section
variable {C : Cx} {n : Nat} {Q : Exit → Env → Heap → Prop} {e : Env} {h : Heap} {d : Bool} {l os : List Oper} {o : Oper}
end
end Go.AI

/-
  Plain facts on copies in memory of the call's own. No condition.
-/
namespace Go.AI
open Go.RowKit
def mcnt {α : Type} (f : α → Nat) (l : List α) : Nat := (l.map f).sum
theorem mcnt_take {α : Type} {f : α → Nat} {l : List α} {k : Nat} (hk : k < l.length) : mcnt f (l.take (k + 1)) = mcnt f (l.take k) + f l[k] := by
  unfold mcnt
  rw [List.take_succ_eq_append_getElem hk, List.map_append, List.sum_append]
  simp
theorem mcnt_take_le {α : Type} {f : α → Nat} : ∀ (k : Nat) (l : List α), mcnt f (l.take k) ≤ mcnt f l
  | 0, l => by simp [mcnt]
  | k + 1, [] => by simp
  | k + 1, x :: l => by
    have := mcnt_take_le (f := f) k l
    simp only [mcnt, List.take_succ_cons, List.map_cons, List.sum_cons] at this ⊢
    omega
theorem mcnt_le {α : Type} {f : α → Nat} {M : Nat} : ∀ {l : List α}, (∀ x ∈ l, f x ≤ M) → mcnt f l ≤ l.length * M
  | [], _ => by simp [mcnt]
  | x :: l, h => by
    have h1 := mcnt_le (f := f) (M := M) (l := l) fun y hy => h y (List.mem_cons_of_mem _ hy)
    have h2 := h x (List.mem_cons_self ..)
    simp only [mcnt, List.map_cons, List.sum_cons, List.length_cons] at h1 ⊢
    rw [Nat.succ_mul]; omega
theorem mcnt_le2 {α : Type} {f : α → Nat} {M N : Nat} {l : List α} (hn : l.length ≤ N) (h : ∀ x ∈ l, f x ≤ M) : mcnt f l ≤ N * M := Nat.le_trans (mcnt_le h) (Nat.mul_le_mul_right _ hn)
theorem sing_flat : ∀ (l : List A), (l.map fun a => [a]).flatten = l
  | [] => rfl
  | x :: l => by simp only [List.map_cons, List.flatten_cons, sing_flat l]; rfl
theorem range_set {f : Nat → A} {cs : List A} {i : Nat} (v : A) (hv : v = f i) (hi : i < cs.length) : (((List.range i).map f) ++ cs.drop i).set i v = ((List.range (i + 1)).map f) ++ cs.drop (i + 1) := by
  rw [List.set_append_right _ _ (by simp)]
  rw [List.drop_eq_getElem_cons hi]
  have : i - ((List.range i).map f).length = 0 := by simp
  rw [this, List.set_cons_zero, List.range_succ, hv]
  simp
theorem OwnSl.clo {α : Type} {E : α → List A → Heap → Prop} {T z : Nat} {xs : List α} {a : A} {h : Heap} (hE : ∀ x cs h, E x cs h → CloL cs ∧ CloH h) (o : OwnSl E T z xs a h) : Clo a ∧ CloH h := by
  obtain ⟨b, css, hs, l1, l2, hall, rfl, rfl⟩ := o
  refine ⟨Clo.os _ _ _, CloH.cons (CloL.flat fun cs hc => ?_) (CloH.flat fun x hx => ?_)⟩
  · obtain ⟨c, hc1, rfl⟩ := List.mem_map.1 hc
    obtain ⟨i, hi, rfl⟩ := List.mem_iff_getElem.1 hc1
    exact (hE _ _ _ (hall i (by omega) hi (by omega))).1
  · obtain ⟨i, hi, rfl⟩ := List.mem_iff_getElem.1 hx
    exact (hE _ _ _ (hall i (by omega) (by omega) hi)).2
/-- .. read only from here on. -/
def FrzF (h1 : Heap) (a a' : A) : Prop := ∀ (F : Heap) (w : World) (v : Value), HeapOk (h1 ++ F) w → Rel (Im w (h1 ++ F)) w a v → Rel (Im w F) w a' v
theorem FrzF.tup2 {h1 : Heap} {a a' c : A} (H : FrzF h1 a a') (hc : Clo c) : FrzF h1 (.tup [a, c]) (.tup [a', c]) := fun F w v ho r => by
  obtain ⟨vs, rfl, rl⟩ := r.tup_inv
  obtain ⟨v1, us, rfl, h1, h2⟩ := rl.uncons
  have := RelL.cons (H F w v1 ho h1) ((CloL.cons hc CloL.nil).rel h2)
  exact .tup _ _ this.1 this.2
theorem FrzF.flat {α : Type} {g : α → List A} {ys : List α} {z n : Nat} {b : Option Nat} {T room cap : Nat} {cs : List A} (hn : n = ys.length) (hcs : cs = (ys.map g).flatten) (hz : ∀ y, (g y).length = z) (hroom : room = cap * z) (hz0 : Nat.blt 0 z = true) : FrzF [⟨b, T, room, cs⟩] (.os b n cap) (.sl (ys.map g)) := fun F w v ho r => by
  have q := Frz.flat (g := g) (z := z) (T := T) hn hcs hz hroom hz0 ([⟨b, T, room, cs⟩] ++ F) w v (fun k hk => List.mem_append_left _ hk) ho r
  subst hn
  cases b with
  | none =>
    obtain ⟨h1, h2, p, h3⟩ := r.osn_inv
    have : ys = [] := List.eq_nil_of_length_eq_zero h1
    subst this
    rw [h3]; exact .nil _ _
  | some b =>
    obtain ⟨e1, hlen⟩ := r.os_inv
    rw [e1]
    have hmem : (⟨some b, T, room, cs⟩ : Blk) ∈ [⟨some b, T, room, cs⟩] ++ F := by simp
    obtain ⟨vs, rest, hb, hr, hrm⟩ := ho.at hmem
    rw [hcs] at hr
    have hlt := ho.lt (mem_keys hmem rfl)
    have hvl : vs.length = ys.length * z := by rw [hr.1, flat_len hz]
    have hzp : 0 < z := Nat.le_of_ble_eq_true hz0
    have hsub : F.Sublist ([⟨some b, T, room, cs⟩] ++ F) := List.sublist_append_right _ _
    have hnm : b ∉ keys F := by
      have := ho.nodup
      have e2 : keys ([⟨some b, T, room, cs⟩] ++ F) = b :: keys F := by simp [keys]
      rw [e2] at this
      exact (List.nodup_cons.1 this).1
    have hcap : ys.length ≤ cap := by
      have : ys.length * z ≤ cap * z := by rw [← hroom, hrm, ← hvl]; simp
      exact Nat.le_of_mul_le_mul_right this hzp
    have bound : ∀ i j, i < ys.length → j < z → i * z + j < ys.length * z := fun i j h1 h2 => by
      have : (i + 1) * z ≤ ys.length * z := Nat.mul_le_mul_right z h1
      rw [Nat.succ_mul] at this; omega
    have key : Rel (Im w F) w (.sl (ys.map g)) (.slice (some ⟨b, 0, none⟩) (ys.map g).length cap) := by
      refine .sl _ b 0 cap z (fun i j => vs.getD (i * z + j) undef) ⟨hlt, hnm⟩ (by simpa using hlen) (by simpa using hcap) (fun i hi => by simpa using hz _) (fun i j hi hj => ?_) (fun i j hi hj => ?_)
      · simp at hi
        have hv : i * z + j < vs.length := by rw [hvl]; exact bound i j hi hj
        rw [Nat.zero_add, cell_of_vs hb _ hv]; simp [hv]
      · simp at hi hj
        have hj' : j < z := by rw [← hz ys[i]]; exact hj
        have hv : i * z + j < vs.length := by rw [hvl]; exact bound i j hi hj'
        obtain ⟨u, hu1, hu2⟩ := hr.get (flat_get ys i j hi hj hz)
        have : vs.getD (i * z + j) undef = u := by simp [hu1]
        rw [this]
        simpa using hu2.heap hsub
    simpa using key
theorem Does.frozen {P : Program} {f : FuncId} {as : List A} {R : A → Heap → Prop} {v' : A} (hd : Does P f as [] R) (hR : ∀ v h1, R v h1 → FrzF h1 v v') : Gives P f as v' :=
  ⟨hd.1, fun h w vs hr hh => (hd.2 h w vs hr hh).mono fun e w' ⟨u, v, h1, e1, e2, e3, e4⟩ => ⟨u, e1, e3.drop (List.Perm.refl _) (List.sublist_append_right h1 h), hR v h1 e2 h w' u e3.heap e4⟩⟩
theorem run_heq {C : Cx} {n : Nat} {c : Code} {Q : Exit → Env → Heap → Prop} {e : Env} {h h' : Heap} (q : h = h') (hr : Run C n c Q e h') : Run C n c Q e h := by rw [q]; exact hr
theorem pmid0 {x l1 l2 : Heap} : (l1 ++ (x ++ l2)).Perm (x ++ (l1 ++ l2)) := by classical exact List.perm_iff_count.2 fun _ => by simp only [List.count_append]; omega
section
variable {C : Cx} {n : Nat} {Q : Exit → Env → Heap → Prop} {e : Env} {h : Heap} {d : Bool} {l os : List Oper} {o : Oper}
end
end Go.AI
