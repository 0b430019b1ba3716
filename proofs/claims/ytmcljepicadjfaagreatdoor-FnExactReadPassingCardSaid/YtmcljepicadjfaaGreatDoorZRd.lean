/-
  Plain facts on lists of numbers: sums, counts. No condition.
-/
import Derived.Test.YtmcljepicadjfaaGreatDoorZT
import Derived.Lib.ItoaNum
import Derived.Lib.Join
import Derived.Test.YtmcljepicadjfaaGreatDoorZRun
import Derived.ProofKit
import Derived.Deep.Slices
import Derived.Lib.Split
import Derived.Lib.CountLaws
import Derived.Lib.SplitLaws
import Derived.Lib.ParseIntBTie
namespace Go.AI

/-- The sum of what f makes of the elements. -/
def sumF {α : Type} (f : α → Int) : List α → Int
  | [] => 0
  | x :: l => f x + sumF f l
theorem sumF_app {α : Type} (f : α → Int) (x : α) : ∀ l : List α, sumF f (l ++ [x]) = sumF f l + f x
  | [] => by simp [sumF]
  | y :: l => by
    have := sumF_app f x l
    simp only [List.cons_append, sumF, this]; omega
theorem sumF_succ {α : Type} (f : α → Int) {l : List α} {k : Nat} (h : k < l.length) : sumF f (l.take (k + 1)) = sumF f (l.take k) + f l[k] := by
  rw [List.take_succ_eq_append_getElem h, sumF_app]
theorem sumF_bnd {α : Type} (f : α → Int) {lo hi : Int} : ∀ (l : List α), (∀ x ∈ l, lo ≤ f x ∧ f x ≤ hi) → lo * l.length ≤ sumF f l ∧ sumF f l ≤ hi * l.length
  | [], _ => by simp [sumF]
  | x :: l, h => by
    have h1 := h x (by simp)
    have h2 := sumF_bnd f l (fun y hy => h y (by simp [hy]))
    have e : ∀ a : Int, a * ((x :: l).length : Int) = a * l.length + a := fun a => by
      rw [List.length_cons, Int.natCast_succ, Int.mul_add, Int.mul_one]
    rw [e, e, sumF]; omega
theorem sumF_take {α : Type} (f : α → Int) {lo hi : Int} (l : List α) (h : ∀ x ∈ l, lo ≤ f x ∧ f x ≤ hi) (k : Nat) (hk : k ≤ l.length) : lo * k ≤ sumF f (l.take k) ∧ sumF f (l.take k) ≤ hi * k := by
  have := sumF_bnd f (l.take k) (fun x hx => h x (List.mem_of_mem_take hx))
  rw [List.length_take, Nat.min_eq_left hk] at this; exact this
/-- The sum of numbers; how often a number is there. -/
def tot (l : List Int) : Int := sumF (fun x => x) l
def one (x y : Int) : Int := if y = x then 1 else 0
/-- The place of the first element of which r is true; -1 if there is none. -/
noncomputable def fIdx {α : Type} (r : α → Prop) (l : List α) : Int := if l.findIdx (fun x => dec (r x)) < l.length then (l.findIdx (fun x => dec (r x)) : Int) else -1
theorem fIdx_at {α : Type} {r : α → Prop} {l : List α} {k : Nat} (h : k < l.length) (hr : r l[k]) (hn : ∀ i (hi : i < l.length), i < k → ¬ r l[i]) : fIdx r l = k := by
  have e : l.findIdx (fun x => dec (r x)) = k := by
    rw [List.findIdx_eq h]
    exact ⟨dec_t hr, fun j hj => dec_f (hn j (by omega) hj)⟩
  unfold fIdx; rw [e, if_pos h]
theorem fIdx_none {α : Type} {r : α → Prop} {l : List α} (hn : ∀ i (hi : i < l.length), ¬ r l[i]) : fIdx r l = -1 := by
  have e : l.findIdx (fun x => dec (r x)) = l.length := by
    rw [List.findIdx_eq_length]
    intro x hx
    obtain ⟨i, hi, rfl⟩ := List.getElem_of_mem hx
    exact dec_f (hn i hi)
  unfold fIdx; rw [e, if_neg (Nat.lt_irrefl _)]
theorem fIdx_ex {α : Type} (r : α → Prop) (l : List α) : 0 ≤ fIdx r l ↔ ∃ x ∈ l, r x := by
  constructor
  · intro h
    unfold fIdx at h
    split at h
    · rename_i hl
      have := List.findIdx_getElem (xs := l) (p := fun x => dec (r x)) (w := hl)
      exact ⟨_, List.getElem_mem hl, by
        by_cases hr : r l[l.findIdx (fun x => dec (r x))]
        · exact hr
        · rw [dec_f hr] at this; cases this⟩
    · omega
  · rintro ⟨x, hx, hr⟩
    have : l.findIdx (fun x => dec (r x)) < l.length := List.findIdx_lt_length_of_exists ⟨x, hx, dec_t hr⟩
    unfold fIdx; rw [if_pos this]; omega

/-- Bags: from one to eight numbers from 0 to 1000. -/
def Bag (b : List Int) : Prop := (∀ x ∈ b, 0 ≤ x ∧ x ≤ 1000) ∧ 1 ≤ b.length ∧ b.length ≤ 8
theorem Bag.take {b : List Int} (h : Bag b) (k : Nat) (hk : k ≤ b.length) : 0 ≤ sumF (fun x => x) (b.take k) ∧ sumF (fun x => x) (b.take k) ≤ 1000 * k := by
  have := sumF_take (fun x => x) b h.1 k hk
  simpa using this
open Classical in
/-- The code of a condition, and a number under it. -/
noncomputable def cdP (p : Prop) : Int := if p then 0 else 1
open Classical in
noncomputable def numP (p : Prop) (n : Int) : Int := if p then n else 0
open Classical in
/-- The code of two conditions, one behind the other. -/
noncomputable def cd2 (p q : Prop) : Int := if p then (if q then 0 else 2) else 1
open Classical in
noncomputable def cd3 (p q r : Prop) : Int := if p then (if q then (if r then 0 else 4) else 2) else 1
theorem dec_congr {p q : Prop} (h : p ↔ q) : dec p = dec q := by rw [propext h]
/-- Lists whose sums stay within range. -/
def Small (b : List Int) : Prop := (∀ x ∈ b, -1000000000 ≤ x ∧ x ≤ 1000000000) ∧ b.length ≤ 1000000
theorem Bag.small {b : List Int} (h : Bag b) : Small b := ⟨fun x hx => by have := h.1 x hx; omega, by have := h.2; omega⟩
theorem Small.take {b : List Int} (h : Small b) (k : Nat) (hk : k ≤ b.length) : -1000000000 * k ≤ sumF (fun x => x) (b.take k) ∧ sumF (fun x => x) (b.take k) ≤ 1000000000 * k :=
  sumF_take (fun x => x) b h.1 k hk
end Go.AI

/-
  Texts of numbers and of bags: plain facts. No condition.
-/
namespace Go.AI
open Go.RowKit
theorem getD_at {α : Type} {l : List α} {i : Nat} {d : α} (h : i < l.length) : l.getD i d = l[i] := by simp [h]
def encW (w : List UInt8) : List A := [.str w]
/-- The decimal text of a number. -/
def dcm (n : Int) : List UInt8 := Lib.itoa n
theorem dcm_small {n : Int} (h : 0 ≤ n ∧ n < 10) : dcm n = [UInt8.ofNat (48 + n).toNat] := by
  unfold dcm Lib.itoa
  rw [if_neg (by omega), Lib.decDigits, dif_pos (by omega)]
  congr 2
  omega
theorem dcm_big {n : Int} (h : 10 ≤ n) : dcm n = dcm (n / 10) ++ [UInt8.ofNat (48 + n % 10).toNat] := by
  unfold dcm Lib.itoa
  rw [if_neg (by omega), if_neg (by omega), Lib.decDigits, dif_neg (by omega)]
  have e1 : n.toNat / 10 = (n / 10).toNat := by omega
  have e2 : 48 + n.toNat % 10 = (48 + n % 10).toNat := by omega
  rw [e1, e2]
theorem decDigits_ne (u : Nat) : Lib.decDigits u ≠ [] := by
  rw [Lib.decDigits]
  split <;> simp
theorem dcm_ne (n : Int) : dcm n ≠ [] := by
  unfold dcm Lib.itoa
  split
  · simp
  · exact decDigits_ne _
theorem decDigits_len : ∀ (k u : Nat), u < 10 ^ k → 1 ≤ k → (Lib.decDigits u).length ≤ k
  | 0, _, _, h => absurd h (by omega)
  | k + 1, u, hu, _ => by
    rw [Lib.decDigits]
    split
    · simp
    · rename_i h
      have hk : 1 ≤ k := by
        cases k with
        | zero => simp at hu; omega
        | succ k => omega
      have := decDigits_len k (u / 10) (by rw [Nat.pow_succ] at hu; omega) hk
      rw [List.length_append, List.length_singleton]; omega
theorem dcm_len {n : Int} (h : -9223372036854775808 ≤ n ∧ n ≤ 9223372036854775807) : (dcm n).length ≤ 20 := by
  unfold dcm Lib.itoa
  split
  · have := decDigits_len 19 n.natAbs (by have : n.natAbs ≤ 9223372036854775808 := by omega
                                          exact Nat.lt_of_le_of_lt this (by decide)) (by decide)
    rw [List.length_cons]; omega
  · have := decDigits_len 19 n.toNat (by have : n.toNat ≤ 9223372036854775807 := by omega
                                         exact Nat.lt_of_le_of_lt this (by decide)) (by decide)
    omega

/-- Words put together, with a text between each two. -/
theorem join_snoc (ws : List (List UInt8)) (w sep : List UInt8) : Lib.join (ws ++ [w]) sep = if ws = [] then w else Lib.join ws sep ++ (sep ++ w) := by
  cases ws with
  | nil => simp [Lib.join_one]
  | cons x r =>
    rw [if_neg (by simp), List.cons_append, Lib.join_cons, Lib.join_cons]
    simp [Lib.joinTail]
theorem join_len {M : Nat} {sep : List UInt8} : ∀ {ws : List (List UInt8)}, (∀ w ∈ ws, w.length ≤ M) → (Lib.join ws sep).length ≤ ws.length * (M + sep.length)
  | [], _ => by simp [Lib.join_nil]
  | x :: r, h => by
    rw [Lib.join_cons, List.length_append]
    have h1 := h x (by simp)
    have : ∀ r : List (List UInt8), (∀ w ∈ r, w.length ≤ M) → (Lib.joinTail sep r).length ≤ r.length * (M + sep.length) := by
      intro r
      induction r with
      | nil => intro _; simp [Lib.joinTail]
      | cons y r ih =>
        intro hr
        have := ih (fun w hw => hr w (by simp [hw]))
        have h2 := hr y (by simp)
        simp only [Lib.joinTail, List.map_cons, List.flatten_cons, List.length_append, List.length_cons] at this ⊢
        rw [Nat.succ_mul]; omega
    have h3 := this r (fun w hw => h w (by simp [hw]))
    rw [List.length_cons, Nat.succ_mul]; omega

/-- The word of a kind. -/
def kindW (k : Nat) (n : Int) : List UInt8 := UInt8.ofNat (97 + k) :: (if 1 < n then dcm n else [])
def bagWs (b : List Int) : Nat → List (List UInt8)
  | 0 => []
  | k + 1 => if 0 < b.getD k 0 then bagWs b k ++ [kindW k (b.getD k 0)] else bagWs b k
/-- The text of the first k kinds. -/
def bagTk (b : List Int) (k : Nat) : List UInt8 := Lib.join (bagWs b k) [32]
def bagT (b : List Int) : List UInt8 := if bagWs b b.length = [] then [45] else bagTk b b.length
theorem bagWs_pos {b : List Int} {k : Nat} (hk : k < b.length) (h : 0 < b[k]) : bagWs b (k + 1) = bagWs b k ++ [kindW k b[k]] := by rw [bagWs, getD_at hk, if_pos h]
theorem bagWs_zero {b : List Int} {k : Nat} (hk : k < b.length) (h : ¬ 0 < b[k]) : bagWs b (k + 1) = bagWs b k := by rw [bagWs, getD_at hk, if_neg h]
theorem bagWs_len (b : List Int) : ∀ k, (bagWs b k).length ≤ k
  | 0 => Nat.le_refl _
  | k + 1 => by
    have := bagWs_len b k
    rw [bagWs]; split
    · rw [List.length_append, List.length_singleton]; omega
    · omega
theorem kindW_len {k : Nat} {n : Int} (h : -9223372036854775808 ≤ n ∧ n ≤ 9223372036854775807) : (kindW k n).length ≤ 21 := by
  unfold kindW
  have := dcm_len h
  split <;> simp <;> omega
theorem bagWs_mem {b : List Int} (hb : ∀ x ∈ b, 0 ≤ x ∧ x ≤ 1000) : ∀ k, k ≤ b.length → ∀ w ∈ bagWs b k, w ≠ [] ∧ w.length ≤ 21
  | 0, _, w, hw => by cases hw
  | k + 1, hk, w, hw => by
    have hk' : k < b.length := by omega
    rw [bagWs, getD_at hk'] at hw
    split at hw
    · rcases List.mem_append.1 hw with hw | hw
      · exact bagWs_mem hb k (by omega) w hw
      · rw [List.mem_singleton] at hw
        subst hw
        have := hb _ (List.getElem_mem hk')
        exact ⟨by simp [kindW], kindW_len (by omega)⟩
    · exact bagWs_mem hb k (by omega) w hw
theorem join_eq_nil {ws : List (List UInt8)} {sep : List UInt8} (h : ∀ w ∈ ws, w ≠ []) : Lib.join ws sep = [] ↔ ws = [] := by
  cases ws with
  | nil => simp [Lib.join_nil]
  | cons x r =>
    rw [Lib.join_cons]
    have := h x (by simp)
    simp [this]
theorem bagTk_nil {b : List Int} (hb : ∀ x ∈ b, 0 ≤ x ∧ x ≤ 1000) {k : Nat} (hk : k ≤ b.length) : bagTk b k = [] ↔ bagWs b k = [] := join_eq_nil fun w hw => (bagWs_mem hb k hk w hw).1
theorem bagTk_pos {b : List Int} (hb : ∀ x ∈ b, 0 ≤ x ∧ x ≤ 1000) {k : Nat} (hk : k < b.length) (h : 0 < b[k]) : bagTk b (k + 1) = (if bagTk b k = [] then [] else bagTk b k ++ [32]) ++ kindW k b[k] := by
  unfold bagTk
  rw [bagWs_pos hk h, join_snoc]
  by_cases q : bagWs b k = []
  · rw [if_pos q, q, Lib.join_nil, if_pos rfl, List.nil_append]
  · rw [if_neg q, if_neg (show ¬ Lib.join (bagWs b k) [32] = [] from fun z => q ((bagTk_nil hb (by omega)).1 z))]; simp only [List.append_assoc]
theorem bagTk_zero {b : List Int} {k : Nat} (hk : k < b.length) (h : ¬ 0 < b[k]) : bagTk b (k + 1) = bagTk b k := by unfold bagTk; rw [bagWs_zero hk h]
theorem bagT_eq {b : List Int} (hb : ∀ x ∈ b, 0 ≤ x ∧ x ≤ 1000) : bagT b = if bagTk b b.length = [] then [45] else bagTk b b.length := by
  unfold bagT
  by_cases q : bagWs b b.length = []
  · rw [if_pos q, if_pos ((bagTk_nil hb (Nat.le_refl _)).2 q)]
  · rw [if_neg q, if_neg (fun z => q ((bagTk_nil hb (Nat.le_refl _)).1 z))]
theorem bagTk_len {b : List Int} (hb : ∀ x ∈ b, 0 ≤ x ∧ x ≤ 1000) {k : Nat} (hk : k ≤ b.length) : (bagTk b k).length ≤ b.length * 22 := by
  have h1 := join_len (sep := [32]) (M := 21) (ws := bagWs b k) fun w hw => (bagWs_mem hb k hk w hw).2
  have h2 := bagWs_len b k
  have h3 : (bagWs b k).length * 22 ≤ b.length * 22 := Nat.mul_le_mul_right _ (by omega)
  unfold bagTk
  exact Nat.le_trans h1 h3
theorem bagT_len {b : List Int} (hb : ∀ x ∈ b, 0 ≤ x ∧ x ≤ 1000) : (bagT b).length ≤ b.length * 22 + 1 := by
  unfold bagT
  split
  · simp
  · have := bagTk_len hb (Nat.le_refl b.length); omega

/-- Texts of the first k elements, one behind the other. -/
def catK {α : Type} (g : α → List UInt8) (l : List α) (k : Nat) : List UInt8 := ((l.take k).map g).flatten
theorem catK_zero {α : Type} (g : α → List UInt8) (l : List α) : catK g l 0 = [] := rfl
theorem catK_succ {α : Type} (g : α → List UInt8) {l : List α} {k : Nat} (hk : k < l.length) : catK g l (k + 1) = catK g l k ++ g l[k] := by
  unfold catK; rw [List.take_succ_eq_append_getElem hk, List.map_append, List.flatten_append]; simp
theorem flat_le {α : Type} {g : α → List UInt8} {M : Nat} : ∀ {l : List α}, (∀ x ∈ l, (g x).length ≤ M) → ((l.map g).flatten).length ≤ l.length * M
  | [], _ => by simp
  | x :: l, h => by
    have := flat_le (l := l) (g := g) (M := M) fun y hy => h y (by simp [hy])
    have := h x (by simp)
    simp only [List.map_cons, List.flatten_cons, List.length_append, List.length_cons]
    rw [Nat.succ_mul]; omega
theorem catK_len {α : Type} {g : α → List UInt8} {M : Nat} {l : List α} (h : ∀ x ∈ l, (g x).length ≤ M) (k : Nat) : (catK g l k).length ≤ l.length * M := by
  unfold catK
  have h1 := flat_le (l := l.take k) fun x hx => h x (List.mem_of_mem_take hx)
  have h2 : (l.take k).length * M ≤ l.length * M := Nat.mul_le_mul_right _ (by rw [List.length_take]; omega)
  omega
/-- .. with a text between each two. -/
def joinK {α : Type} (g : α → List UInt8) (sep : List UInt8) (l : List α) (k : Nat) : List UInt8 := Lib.join ((l.take k).map g) sep
theorem joinK_zero {α : Type} (g : α → List UInt8) (sep : List UInt8) (l : List α) : joinK g sep l 0 = [] := rfl
end Go.AI

/-
  What came in, read as plain data. No condition.
-/
namespace Go.AI
open Go.RowKit

section
variable {H : Type} {enc : TypeId × Value → H} {P : Program} {W : World}

def encI (n : Int) : List A := [.int n]
def encB (b : Bool) : List A := [.raw (.bool b)]
def encS {α : Type} (f : α → List A) (l : List α) : List A := [.sl (l.map f)]

/-! Structs, field by field. -/
end
end Go.AI

/-
  More rules of the walk: elements of lists of the call's own, the tail of a list. No condition.
-/
namespace Go.AI
open Go.RowKit

section
variable {C : Cx} {n : Nat} {Q : Exit → Env → Heap → Prop} {e : Env} {h h' : Heap} {d : Bool} {l os : List Oper} {o : Oper} {f : Fl} {fs : List Fl} {B : List (Nat × Blk)}
theorem drop_flat {α : Type} {g : α → List A} {z : Nat} (hz : ∀ y, (g y).length = z) : ∀ (L : List α) (m : Nat) (hm : m < L.length), (L.map g).flatten.drop (m * z) = g L[m] ++ ((L.drop (m + 1)).map g).flatten
  | [], m, hm => absurd hm (Nat.not_lt_zero _)
  | x :: L, 0, hm => by simp
  | x :: L, m + 1, hm => by
    have ih := drop_flat hz L m (by simpa using hm)
    simp only [List.map_cons, List.flatten_cons, List.drop_succ_cons, List.getElem_cons_succ]
    have e1 : (m + 1) * z = (g x).length + m * z := by rw [hz, Nat.succ_mul]; omega
    rw [e1, List.drop_length_add_append]; exact ih

/-- 's[m:]'. -/
theorem j_tail (m : Nat) {α : Type} {g : α → List A} {ys : List α} {T E z sz dd : Nat} {x : Operand} {lo : Option Operand} (hw : wantE l e o = some true) (ho : o.op = .slice T x lo none none) (hT : C.ty T = some ⟨sz, .slice E z⟩) (hx : evO e x = some (.sl (ys.map g))) (hlo : bndO e 0 lo = some (.int (m : Int)))
    (hb : m ≤ ys.length) (hz : ∀ y, (g y).length = z) (hd : o.dst = some dd) (hn : Nat.blt dd n = true) (hj : J d C n l os Q ((dd, .sl ((ys.drop m).map g)) :: e) h) : J d C n l (o :: os) Q e h :=
  j_slice hw ho hT hx hlo (b := ((ys.map g).length : Int)) rfl (by rw [List.length_map]; omega) hz hd hn (by
    have e1 : ((((ys.map g).length : Nat) : Int)).toNat = ys.length := by rw [List.length_map]; omega
    have e2 : ((m : Int)).toNat = m := by omega
    rw [e1, e2, List.take_length]; exact hj)
end
end Go.AI

/-
  Texts cut at a byte, and numbers read back from their texts: plain facts. No condition.
-/
namespace Go.AI
open Go.RowKit
/-- A text cut at each byte c. -/
def spl (c : UInt8) : List UInt8 → List (List UInt8)
  | [] => [[]]
  | x :: s => if x = c then [] :: spl c s else match spl c s with
    | [] => [[x]]
    | w :: ws => (x :: w) :: ws
theorem spl_ne (c : UInt8) (s : List UInt8) : spl c s ≠ [] := by
  cases s with
  | nil => simp [spl]
  | cons x s =>
    rw [spl]
    split
    · simp
    · split <;> simp
theorem spl_len (c : UInt8) : ∀ s : List UInt8, (spl c s).length ≤ s.length + 1
  | [] => by simp [spl]
  | x :: s => by
    have ih := spl_len c s
    rw [spl]
    split
    · simp only [List.length_cons]; omega
    · split
      · simp
      · rename_i w ws he
        rw [he] at ih
        simp only [List.length_cons] at ih ⊢; omega
theorem spl_mem (c : UInt8) : ∀ (s : List UInt8), ∀ w ∈ spl c s, w.length ≤ s.length ∧ c ∉ w
  | [], w, hw => by
    simp only [spl, List.mem_singleton] at hw
    subst hw; simp
  | x :: s, w, hw => by
    have ih := spl_mem c s
    rw [spl] at hw
    split at hw
    · rcases List.mem_cons.1 hw with rfl | hw
      · simp
      · have := ih w hw
        exact ⟨by rw [List.length_cons]; omega, this.2⟩
    · rename_i hx
      split at hw
      · exact absurd (by assumption) (spl_ne c s)
      · rename_i y ys he
        rw [he] at ih
        rcases List.mem_cons.1 hw with rfl | hw
        · have := ih y (by simp)
          refine ⟨by rw [List.length_cons, List.length_cons]; omega, fun q => ?_⟩
          rcases List.mem_cons.1 q with q | q
          · exact hx q.symm
          · exact this.2 q
        · have := ih w (by simp [hw])
          exact ⟨by rw [List.length_cons]; omega, this.2⟩
/-- A text without c, then c, then the rest. -/
theorem spl_cut (c : UInt8) : ∀ (a b : List UInt8), c ∉ a → spl c (a ++ c :: b) = a :: spl c b
  | [], b, _ => by simp [spl]
  | x :: a, b, h => by
    have hx : ¬ x = c := fun q => h (by simp [q])
    rw [List.cons_append, spl, if_neg hx, spl_cut c a b (fun q => h (by simp [q]))]
theorem spl_one (c : UInt8) : ∀ (a : List UInt8), c ∉ a → spl c a = [a]
  | [], _ => rfl
  | x :: a, h => by
    have hx : ¬ x = c := fun q => h (by simp [q])
    rw [spl, if_neg hx, spl_one c a (fun q => h (by simp [q]))]
/-- One byte more behind. -/
theorem spl_snoc_eq (c : UInt8) : ∀ (s : List UInt8), spl c (s ++ [c]) = spl c s ++ [[]]
  | [] => by simp [spl]
  | x :: s => by
    rw [List.cons_append, spl, spl_snoc_eq c s, spl]
    split
    · rfl
    · cases he : spl c s with
      | nil => exact absurd he (spl_ne c s)
      | cons w ws => rfl
theorem spl_snoc_ne (c x : UInt8) (hx : x ≠ c) : ∀ (s : List UInt8), ∃ ws w, spl c s = ws ++ [w] ∧ spl c (s ++ [x]) = ws ++ [w ++ [x]]
  | [] => ⟨[], [], by simp [spl], by simp [spl, hx]⟩
  | y :: s => by
    obtain ⟨ws, w, h1, h2⟩ := spl_snoc_ne c x hx s
    by_cases hy : y = c
    · refine ⟨[] :: ws, w, ?_, ?_⟩
      · rw [spl, if_pos hy, h1]; rfl
      · rw [List.cons_append, spl, if_pos hy, h2]; rfl
    · cases ws with
      | nil =>
        refine ⟨[], y :: w, ?_, ?_⟩
        · rw [spl, if_neg hy, h1]; rfl
        · rw [List.cons_append, spl, if_neg hy, h2]; rfl
      | cons v vs =>
        refine ⟨(y :: v) :: vs, w, ?_, ?_⟩
        · rw [spl, if_neg hy, h1]; rfl
        · rw [List.cons_append, spl, if_neg hy, h2]; rfl
theorem spl_join (c : UInt8) : ∀ (w : List UInt8) (ws : List (List UInt8)), (∀ x ∈ w :: ws, c ∉ x) → spl c (Lib.join (w :: ws) [c]) = w :: ws
  | w, [], h => by rw [Lib.join_one]; exact spl_one c w (h w (by simp))
  | w, v :: vs, h => by
    have e : Lib.join (w :: v :: vs) [c] = w ++ c :: Lib.join (v :: vs) [c] := by
      rw [Lib.join_cons, Lib.join_cons]; simp [Lib.joinTail]
    rw [e, spl_cut c _ _ (h w (by simp)), spl_join c v vs (fun x hx => h x (List.mem_cons_of_mem _ hx))]
/-- Lines, each with c behind it. -/
theorem spl_lines (c : UInt8) : ∀ (ws : List (List UInt8)), (∀ x ∈ ws, c ∉ x) → spl c ((ws.map fun w => w ++ [c]).flatten) = ws ++ [[]]
  | [], _ => rfl
  | w :: ws, h => by
    rw [List.map_cons, List.flatten_cons, List.append_assoc, List.singleton_append, spl_cut c _ _ (h w (by simp)), spl_lines c ws (fun x hx => h x (by simp [hx]))]; rfl
theorem index_eq_c (c : UInt8) (l : List UInt8) : Lib.index (c :: l) [c] = 0 := by simp [Lib.index]
theorem index_ne_c (x c : UInt8) (h : x ≠ c) (l : List UInt8) : Lib.index (x :: l) [c] = if Lib.index l [c] == -1 then -1 else Lib.index l [c] + 1 := by
  have hc : ¬ c = x := fun q => h q.symm
  rw [Lib.index, if_neg]
  simp [hc]
theorem splitK_spl (c : UInt8) : ∀ s : List UInt8, Lib.splitK [c] 0 (s.count c) s = spl c s
  | [] => rfl
  | x :: s => by
    have ih := splitK_spl c s
    by_cases hx : x = c
    · subst hx
      rw [List.count_cons_self, Lib.splitK, index_eq_c]
      simp only [spl, if_pos]
      rw [if_neg (by decide)]
      simp [ih]
    · rw [List.count_cons_of_ne (fun q => hx q), spl, if_neg hx, ← ih]
      cases hk : s.count c with
      | zero => rfl
      | succ k =>
        have hi : ¬ Lib.index s [c] = -1 := fun q => by
          have := Lib.count_miss q
          rw [Lib.count_one] at this; omega
        have hg := Lib.index_ge s [c]
        rw [Lib.splitK, Lib.splitK, index_ne_c x c hx]
        have hb : (Lib.index s [c] == -1) = false := by simpa using hi
        rw [hb]
        simp only [Bool.false_eq_true, if_false]
        have h1 : (Lib.index s [c] + 1 == -1) = false := by simp; omega
        rw [h1]
        have e1 : (Lib.index s [c] + 1).toNat = (Lib.index s [c]).toNat + 1 := by omega
        simp only [Bool.false_eq_true, if_false, e1, Nat.add_zero, List.take_succ_cons, List.length_singleton]
        rfl
theorem spl_count (c : UInt8) : ∀ s : List UInt8, (spl c s).length = s.count c + 1
  | [] => rfl
  | x :: s => by
    have ih := spl_count c s
    by_cases hx : x = c
    · subst hx; rw [spl, if_pos rfl, List.length_cons, ih, List.count_cons_self]
    · rw [spl, if_neg hx, List.count_cons_of_ne (fun q => hx q), ← ih]
      cases he : spl c s with
      | nil => exact absurd he (spl_ne c s)
      | cons w ws => rfl

/-! ### Numbers -/
/-- What is read as a number, and whether it is one. -/
def pIv (s : List UInt8) : Int := match Lib.parseIntB 64 s with
  | .ok v => v
  | .range => Lib.intSat 64 s
  | _ => 0
def pIok (s : List UInt8) : Bool := match Lib.parseIntB 64 s with
  | .ok _ => true
  | _ => false
theorem pIv_in (s : List UInt8) : -9223372036854775808 ≤ pIv s ∧ pIv s ≤ 9223372036854775807 := by
  unfold pIv
  split
  · rename_i v hv
    have := Lib.parseIntB_bounds hv
    have e : (2 : Nat) ^ (64 - 1) = 9223372036854775808 := by decide
    rw [e] at this
    omega
  · rw [Lib.intSat_64]; unfold Lib.atoiSat; split <;> decide
  · decide
theorem pU_snoc : ∀ (l : List UInt8) (acc a : Nat) (d : UInt8), Lib.parseUint10 acc l = .ok a → Lib.parseUint10 acc (l ++ [d]) = Lib.parseUint10 a [d]
  | [], acc, a, d, h => by
    simp only [Lib.parseUint10] at h
    injection h with h
    subst h; rfl
  | c :: r, acc, a, d, h => by
    rw [Lib.parseUint10] at h
    rw [List.cons_append, Lib.parseUint10]
    by_cases h1 : 48 ≤ c.toNat ∧ c.toNat ≤ 57
    · rw [if_pos h1] at h ⊢
      by_cases h2 : 1844674407370955162 ≤ acc
      · rw [if_pos h2] at h; cases h
      · rw [if_neg h2] at h ⊢
        by_cases h3 : 18446744073709551616 ≤ acc * 10 + (c.toNat - 48)
        · rw [if_pos h3] at h; cases h
        · rw [if_neg h3] at h ⊢
          exact pU_snoc r _ a d h
    · rw [if_neg h1] at h; cases h
theorem digit_nat {u : Nat} (h : u < 10) : (UInt8.ofNat (48 + u)).toNat = 48 + u := by
  rw [UInt8.toNat_ofNat_of_lt' (by have : UInt8.size = 256 := rfl; omega)]
theorem pU_dec : ∀ (k u : Nat), u < k → u < 18446744073709551616 → Lib.parseUint10 0 (Lib.decDigits u) = .ok u
  | 0, _, h, _ => absurd h (by omega)
  | k + 1, u, h, h2 => by
    rw [Lib.decDigits]
    split
    · rename_i hs
      rw [Lib.parseUint10, digit_nat hs, if_pos (by omega), if_neg (by decide), if_neg (by omega), Lib.parseUint10]
      congr 1; omega
    · rename_i hs
      have ih := pU_dec k (u / 10) (by omega) (by omega)
      rw [pU_snoc _ _ _ _ ih, Lib.parseUint10, digit_nat (by omega), if_pos (by omega), if_neg (by omega), if_neg (by omega), Lib.parseUint10]
      congr 1; omega
theorem decDigits_head (k : Nat) : ∀ u : Nat, u < k → ∃ d r, Lib.decDigits u = UInt8.ofNat (48 + d) :: r ∧ d < 10 := by
  induction k with
  | zero => intro u h; omega
  | succ k ih =>
    intro u h
    rw [Lib.decDigits]
    split
    · rename_i hs; exact ⟨u, [], rfl, hs⟩
    · rename_i hs
      obtain ⟨d, r, e, hd⟩ := ih (u / 10) (by omega)
      exact ⟨d, r ++ [UInt8.ofNat (48 + u % 10)], by rw [e]; rfl, hd⟩
theorem pI_dcm {n : Int} (h : -9223372036854775808 ≤ n ∧ n ≤ 9223372036854775807) : Lib.parseIntB 64 (dcm n) = .ok n := by
  rw [Lib.parseIntB_64]
  unfold dcm Lib.itoa
  by_cases hn : n < 0
  · rw [if_pos hn, Lib.atoiAll_minus]
    unfold Lib.parseMag
    rw [if_neg (decDigits_ne _), pU_dec (n.natAbs + 1) n.natAbs (by omega) (by omega)]
    simp only [Lib.signed]
    rw [if_neg (by omega)]
    congr 1; omega
  · rw [if_neg hn]
    obtain ⟨d, r, e, hd⟩ := decDigits_head (n.toNat + 1) n.toNat (by omega)
    have q := pU_dec (n.toNat + 1) n.toNat (by omega) (by omega)
    rw [e] at q ⊢
    have hd2 := digit_nat hd
    rw [Lib.atoiAll_plain _ _ (by omega) (by omega)]
    unfold Lib.parseMag
    rw [if_neg (by simp), q]
    simp only [Lib.signless]
    rw [if_neg (by omega)]
    congr 1; omega
theorem pIv_dcm {n : Int} (h : -9223372036854775808 ≤ n ∧ n ≤ 9223372036854775807) : pIv (dcm n) = n := by unfold pIv; rw [pI_dcm h]
theorem pIok_dcm {n : Int} (h : -9223372036854775808 ≤ n ∧ n ≤ 9223372036854775807) : pIok (dcm n) = true := by unfold pIok; rw [pI_dcm h]
/-- The bytes of a number's text: digits, and a sign. -/
theorem decDigits_mem : ∀ (k u : Nat), u < k → ∀ x ∈ Lib.decDigits u, 48 ≤ x.toNat ∧ x.toNat ≤ 57
  | 0, _, h, _, _ => absurd h (by omega)
  | k + 1, u, h, x, hx => by
    rw [Lib.decDigits] at hx
    split at hx
    · rename_i hs
      rw [List.mem_singleton] at hx
      subst hx
      rw [digit_nat hs]; omega
    · rename_i hs
      rcases List.mem_append.1 hx with hx | hx
      · exact decDigits_mem k (u / 10) (by omega) x hx
      · rw [List.mem_singleton] at hx
        subst hx
        rw [digit_nat (by omega)]; omega
theorem dcm_mem {n : Int} {x : UInt8} (hx : x ∈ dcm n) : x.toNat = 45 ∨ 48 ≤ x.toNat ∧ x.toNat ≤ 57 := by
  unfold dcm Lib.itoa at hx
  split at hx
  · rcases List.mem_cons.1 hx with rfl | hx
    · exact .inl rfl
    · exact .inr (decDigits_mem _ _ (Nat.lt_succ_self _) x hx)
  · exact .inr (decDigits_mem _ _ (Nat.lt_succ_self _) x hx)
theorem dcm_no {n : Int} {c : UInt8} (h : c.toNat ≠ 45) (h2 : c.toNat < 48 ∨ 57 < c.toNat) : c ∉ dcm n := fun q => by
  rcases dcm_mem q with q | q <;> omega
end Go.AI
