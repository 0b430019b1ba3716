/-
  Texts of numbers and of bags: plain facts. No condition.
-/
import Derived.Test.YtdlhajkidekjaaaDoorZM
import Derived.Lib.ItoaNum
import Derived.Lib.Join
namespace Go.AI
open Go.RowKit
theorem getD_at {α : Type} {l : List α} {i : Nat} {d : α} (h : i < l.length) : l.getD i d = l[i] := by simp [h]
/-- The decimal text of a number. -/
def dcm (n : Int) : List UInt8 := Lib.itoa n
theorem dcm_small {n : Int} (h : 0 ≤ n ∧ n < 10) : dcm n = [UInt8.ofNat (48 + n).toNat] := by
  unfold dcm Lib.itoa
  rw [if_neg (by omega), Lib.decDigits, dif_pos (by omega)]
  congr 2
  omega
theorem dcm_big {n : Int} (h : 10 ≤ n) : dcm n = dcm (n / 10) ++ [UInt8.ofNat (48 + n % 10).toNat] := by
  unfold dcm Lib.itoa
  rw [if_neg (by omega), if_neg (by omega), Lib.decDigits, dif_neg (by omega)]
  have e1 : n.toNat / 10 = (n / 10).toNat := by omega
  have e2 : 48 + n.toNat % 10 = (48 + n % 10).toNat := by omega
  rw [e1, e2]
theorem decDigits_len : ∀ (k u : Nat), u < 10 ^ k → 1 ≤ k → (Lib.decDigits u).length ≤ k
  | 0, _, _, h => absurd h (by omega)
  | k + 1, u, hu, _ => by
    rw [Lib.decDigits]
    split
    · simp
    · rename_i h
      have hk : 1 ≤ k := by
        cases k with
        | zero => simp at hu; omega
        | succ k => omega
      have := decDigits_len k (u / 10) (by rw [Nat.pow_succ] at hu; omega) hk
      rw [List.length_append, List.length_singleton]; omega
theorem dcm_len {n : Int} (h : -9223372036854775808 ≤ n ∧ n ≤ 9223372036854775807) : (dcm n).length ≤ 20 := by
  unfold dcm Lib.itoa
  split
  · have := decDigits_len 19 n.natAbs (by have : n.natAbs ≤ 9223372036854775808 := by omega
                                          exact Nat.lt_of_le_of_lt this (by decide)) (by decide)
    rw [List.length_cons]; omega
  · have := decDigits_len 19 n.toNat (by have : n.toNat ≤ 9223372036854775807 := by omega
                                         exact Nat.lt_of_le_of_lt this (by decide)) (by decide)
    omega

/-- Words put together, with a text between each two. -/
theorem join_snoc (ws : List (List UInt8)) (w sep : List UInt8) : Lib.join (ws ++ [w]) sep = if ws = [] then w else Lib.join ws sep ++ (sep ++ w) := by
  cases ws with
  | nil => simp [Lib.join_one]
  | cons x r =>
    rw [if_neg (by simp), List.cons_append, Lib.join_cons, Lib.join_cons]
    simp [Lib.joinTail]
theorem join_len {M : Nat} {sep : List UInt8} : ∀ {ws : List (List UInt8)}, (∀ w ∈ ws, w.length ≤ M) → (Lib.join ws sep).length ≤ ws.length * (M + sep.length)
  | [], _ => by simp [Lib.join_nil]
  | x :: r, h => by
    rw [Lib.join_cons, List.length_append]
    have h1 := h x (by simp)
    have : ∀ r : List (List UInt8), (∀ w ∈ r, w.length ≤ M) → (Lib.joinTail sep r).length ≤ r.length * (M + sep.length) := by
      intro r
      induction r with
      | nil => intro _; simp [Lib.joinTail]
      | cons y r ih =>
        intro hr
        have := ih (fun w hw => hr w (by simp [hw]))
        have h2 := hr y (by simp)
        simp only [Lib.joinTail, List.map_cons, List.flatten_cons, List.length_append, List.length_cons] at this ⊢
        rw [Nat.succ_mul]; omega
    have h3 := this r (fun w hw => h w (by simp [hw]))
    rw [List.length_cons, Nat.succ_mul]; omega

/-- The word of a kind. -/
def kindW (k : Nat) (n : Int) : List UInt8 := UInt8.ofNat (97 + k) :: (if 1 < n then dcm n else [])
def bagWs (b : List Int) : Nat → List (List UInt8)
  | 0 => []
  | k + 1 => if 0 < b.getD k 0 then bagWs b k ++ [kindW k (b.getD k 0)] else bagWs b k
/-- The text of the first k kinds. -/
def bagTk (b : List Int) (k : Nat) : List UInt8 := Lib.join (bagWs b k) [32]
def bagT (b : List Int) : List UInt8 := if bagWs b b.length = [] then [45] else bagTk b b.length
theorem bagWs_pos {b : List Int} {k : Nat} (hk : k < b.length) (h : 0 < b[k]) : bagWs b (k + 1) = bagWs b k ++ [kindW k b[k]] := by rw [bagWs, getD_at hk, if_pos h]
theorem bagWs_zero {b : List Int} {k : Nat} (hk : k < b.length) (h : ¬ 0 < b[k]) : bagWs b (k + 1) = bagWs b k := by rw [bagWs, getD_at hk, if_neg h]
theorem bagWs_len (b : List Int) : ∀ k, (bagWs b k).length ≤ k
  | 0 => Nat.le_refl _
  | k + 1 => by
    have := bagWs_len b k
    rw [bagWs]; split
    · rw [List.length_append, List.length_singleton]; omega
    · omega
theorem kindW_len {k : Nat} {n : Int} (h : -9223372036854775808 ≤ n ∧ n ≤ 9223372036854775807) : (kindW k n).length ≤ 21 := by
  unfold kindW
  have := dcm_len h
  split <;> simp <;> omega
theorem bagWs_mem {b : List Int} (hb : ∀ x ∈ b, 0 ≤ x ∧ x ≤ 1000) : ∀ k, k ≤ b.length → ∀ w ∈ bagWs b k, w ≠ [] ∧ w.length ≤ 21
  | 0, _, w, hw => by cases hw
  | k + 1, hk, w, hw => by
    have hk' : k < b.length := by omega
    rw [bagWs, getD_at hk'] at hw
    split at hw
    · rcases List.mem_append.1 hw with hw | hw
      · exact bagWs_mem hb k (by omega) w hw
      · rw [List.mem_singleton] at hw
        subst hw
        have := hb _ (List.getElem_mem hk')
        exact ⟨by simp [kindW], kindW_len (by omega)⟩
    · exact bagWs_mem hb k (by omega) w hw
theorem join_eq_nil {ws : List (List UInt8)} {sep : List UInt8} (h : ∀ w ∈ ws, w ≠ []) : Lib.join ws sep = [] ↔ ws = [] := by
  cases ws with
  | nil => simp [Lib.join_nil]
  | cons x r =>
    rw [Lib.join_cons]
    have := h x (by simp)
    simp [this]
theorem bagTk_nil {b : List Int} (hb : ∀ x ∈ b, 0 ≤ x ∧ x ≤ 1000) {k : Nat} (hk : k ≤ b.length) : bagTk b k = [] ↔ bagWs b k = [] := join_eq_nil fun w hw => (bagWs_mem hb k hk w hw).1
theorem bagTk_pos {b : List Int} (hb : ∀ x ∈ b, 0 ≤ x ∧ x ≤ 1000) {k : Nat} (hk : k < b.length) (h : 0 < b[k]) : bagTk b (k + 1) = (if bagTk b k = [] then [] else bagTk b k ++ [32]) ++ kindW k b[k] := by
  unfold bagTk
  rw [bagWs_pos hk h, join_snoc]
  by_cases q : bagWs b k = []
  · rw [if_pos q, q, Lib.join_nil, if_pos rfl, List.nil_append]
  · rw [if_neg q, if_neg (show ¬ Lib.join (bagWs b k) [32] = [] from fun z => q ((bagTk_nil hb (by omega)).1 z))]; simp only [List.append_assoc]
theorem bagTk_zero {b : List Int} {k : Nat} (hk : k < b.length) (h : ¬ 0 < b[k]) : bagTk b (k + 1) = bagTk b k := by unfold bagTk; rw [bagWs_zero hk h]
theorem bagT_eq {b : List Int} (hb : ∀ x ∈ b, 0 ≤ x ∧ x ≤ 1000) : bagT b = if bagTk b b.length = [] then [45] else bagTk b b.length := by
  unfold bagT
  by_cases q : bagWs b b.length = []
  · rw [if_pos q, if_pos ((bagTk_nil hb (Nat.le_refl _)).2 q)]
  · rw [if_neg q, if_neg (fun z => q ((bagTk_nil hb (Nat.le_refl _)).1 z))]
theorem bagTk_len {b : List Int} (hb : ∀ x ∈ b, 0 ≤ x ∧ x ≤ 1000) {k : Nat} (hk : k ≤ b.length) : (bagTk b k).length ≤ b.length * 22 := by
  have h1 := join_len (sep := [32]) (M := 21) (ws := bagWs b k) fun w hw => (bagWs_mem hb k hk w hw).2
  have h2 := bagWs_len b k
  have h3 : (bagWs b k).length * 22 ≤ b.length * 22 := Nat.mul_le_mul_right _ (by omega)
  unfold bagTk
  exact Nat.le_trans h1 h3
theorem bagT_len {b : List Int} (hb : ∀ x ∈ b, 0 ≤ x ∧ x ≤ 1000) : (bagT b).length ≤ b.length * 22 + 1 := by
  unfold bagT
  split
  · simp
  · have := bagTk_len hb (Nat.le_refl b.length); omega

/-- Texts of the first k elements, one behind the other. -/
def catK {α : Type} (g : α → List UInt8) (l : List α) (k : Nat) : List UInt8 := ((l.take k).map g).flatten
theorem catK_zero {α : Type} (g : α → List UInt8) (l : List α) : catK g l 0 = [] := rfl
theorem catK_succ {α : Type} (g : α → List UInt8) {l : List α} {k : Nat} (hk : k < l.length) : catK g l (k + 1) = catK g l k ++ g l[k] := by
  unfold catK; rw [List.take_succ_eq_append_getElem hk, List.map_append, List.flatten_append]; simp
theorem flat_le {α : Type} {g : α → List UInt8} {M : Nat} : ∀ {l : List α}, (∀ x ∈ l, (g x).length ≤ M) → ((l.map g).flatten).length ≤ l.length * M
  | [], _ => by simp
  | x :: l, h => by
    have := flat_le (l := l) (g := g) (M := M) fun y hy => h y (by simp [hy])
    have := h x (by simp)
    simp only [List.map_cons, List.flatten_cons, List.length_append, List.length_cons]
    rw [Nat.succ_mul]; omega
theorem catK_len {α : Type} {g : α → List UInt8} {M : Nat} {l : List α} (h : ∀ x ∈ l, (g x).length ≤ M) (k : Nat) : (catK g l k).length ≤ l.length * M := by
  unfold catK
  have h1 := flat_le (l := l.take k) fun x hx => h x (List.mem_of_mem_take hx)
  have h2 : (l.take k).length * M ≤ l.length * M := Nat.mul_le_mul_right _ (by rw [List.length_take]; omega)
  omega
/-- .. with a text between each two. -/
def joinK {α : Type} (g : α → List UInt8) (sep : List UInt8) (l : List α) (k : Nat) : List UInt8 := Lib.join ((l.take k).map g) sep
theorem joinK_zero {α : Type} (g : α → List UInt8) (sep : List UInt8) (l : List α) : joinK g sep l 0 = [] := rfl
end Go.AI
