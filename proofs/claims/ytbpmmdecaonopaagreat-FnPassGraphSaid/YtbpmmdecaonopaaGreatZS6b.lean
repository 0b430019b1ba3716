/-
  What rules of a passing system take and give: plain facts about lists of rows, one behind the other. No condition.
-/
import Derived.Test.YtbpmmdecaonopaaGreatZS3c
import Derived.Test.YtbpmmdecaonopaaGreatZS5f
namespace Go.Proofs.YtbpmmdecaonopaaGreat
open Go.AI
set_option maxRecDepth 8000
set_option maxHeartbeats 1600000

def val (L : List (List Int)) (i k : Nat) : Int := (L.getD i []).getD k 0
theorem ite_iff {α : Type} {p q : Prop} [Decidable p] [Decidable q] (h : p ↔ q) {x y x' y' : α} (h1 : x = x') (h2 : y = y') : (if p then x else y) = if q then x' else y' := by
  subst h1 h2
  by_cases z : p
  · rw [if_pos z, if_pos (h.1 z)]
  · rw [if_neg z, if_neg (fun w => z (h.2 w))]
/-- So many rows, each of so many numbers that are bounded. -/
structure Sh (n K : Nat) (L : List (List Int)) (B : Int) : Prop where
  n : L.length = n
  b : ∀ x ∈ L, x.length = K ∧ ∀ y ∈ x, -B ≤ y ∧ y ≤ B
theorem Sh.mono {n K : Nat} {L : List (List Int)} {B B' : Int} (h : Sh n K L B) (hb : B ≤ B') : Sh n K L B' := ⟨h.n, fun x hx => ⟨(h.b x hx).1, fun y hy => by have := (h.b x hx).2 y hy; omega⟩⟩
theorem Sh.row {n K : Nat} {L : List (List Int)} {B : Int} (h : Sh n K L B) {i : Nat} (hi : i < n) : ∃ hl : i < L.length, L[i].length = K := ⟨by have := h.n; omega, (h.b _ (List.getElem_mem _)).1⟩
theorem val_eq {L : List (List Int)} {i k : Nat} (hi : i < L.length) (hk : k < L[i].length) : val L i k = L[i][k] := by unfold val; rw [getD_get hi, getD_get hk]
theorem plusL_at {a b : List Int} {m : Int} {k : Nat} (ha : k < a.length) (hb : k < b.length) : (plusL a b m).getD k 0 = a[k] + b[k] * m := by
  rw [getD_get (by unfold plusL; rw [List.length_zipWith]; omega)]; simp [plusL]
theorem Sh.add {n K : Nat} {L : List (List Int)} {B M : Int} (h : Sh n K L B) (hM : 0 ≤ M) {c : Nat} {b : List Int} (hb : b.length = K) {t : Int} (hm : ∀ y ∈ b, -M ≤ y * t ∧ y * t ≤ M) : Sh n K (addL L c b t) (B + M) := by
  by_cases hc : c < L.length
  · rw [addL_get hc]
    refine ⟨by rw [List.length_set]; exact h.n, fun x hx => ?_⟩
    rcases List.mem_or_eq_of_mem_set hx with hx | rfl
    · exact (h.mono (by omega)).b x hx
    · have q := h.b _ (List.getElem_mem hc)
      unfold plusL
      refine ⟨by rw [List.length_zipWith]; have := q.1; omega, fun y hy => ?_⟩
      obtain ⟨i, hi, rfl⟩ := List.getElem_of_mem hy
      rw [List.length_zipWith] at hi
      rw [List.getElem_zipWith]
      have h1 := q.2 _ (List.getElem_mem (n := i) (by omega))
      have h2 := hm _ (List.getElem_mem (n := i) (by omega))
      omega
  · unfold addL; rw [List.set_eq_of_length_le (by omega)]; exact h.mono (by omega)
theorem val_add {n K : Nat} {L : List (List Int)} {B : Int} (h : Sh n K L B) {c : Nat} (hc : c < n) {b : List Int} (hb : b.length = K) (t : Int) {i k : Nat} (hi : i < n) (hk : k < K) : val (addL L c b t) i k = val L i k + (if i = c then b.getD k 0 * t else 0) := by
  obtain ⟨hi', hk'⟩ := h.row hi
  obtain ⟨hc', kc⟩ := h.row hc
  rw [val_eq hi' (by omega), addL_get hc']
  unfold val
  by_cases e : i = c
  · subst e
    rw [if_pos rfl, getD_get (l := L.set i _) (by rw [List.length_set]; exact hi'), List.getElem_set_self, plusL_at (by omega) (by omega), getD_get (by omega)]
  · rw [if_neg e, getD_get (l := L.set c _) (by rw [List.length_set]; exact hi'), List.getElem_set_ne (by omega), getD_get (by omega)]; omega
theorem Sh.fits {n K : Nat} {L : List (List Int)} {B : Int} (h : Sh n K L B) (hK : K ≤ 1000000) (hB : B ≤ 1000000000000) {c : Nat} (hc : c < L.length) {b : List Int} (hb : b.length = K) {t : Int} (hm : ∀ y ∈ b, -2000000 ≤ y * t ∧ y * t ≤ 2000000) : Fits L[c] b t := by
  have q := h.b _ (List.getElem_mem hc)
  exact ⟨by omega, by omega, fun x hx => by have := q.2 x hx; omega, fun y hy => by have := hm y hy; omega⟩

/-- All numbers of all rows are at least zero. -/
def Nn (L : List (List Int)) : Prop := ∀ x ∈ L, ∀ y ∈ x, 0 ≤ y
theorem nn_val {n K : Nat} {L : List (List Int)} {B : Int} (h : Sh n K L B) : Nn L ↔ ∀ i k, i < n → k < K → 0 ≤ val L i k := by
  constructor
  · intro q i k hi hk
    obtain ⟨hi', hk'⟩ := h.row hi
    rw [val_eq hi' (by omega)]; exact q _ (List.getElem_mem _) _ (List.getElem_mem _)
  · intro q x hx y hy
    obtain ⟨i, hi, rfl⟩ := List.getElem_of_mem hx
    obtain ⟨k, hk, rfl⟩ := List.getElem_of_mem hy
    have hk' := (h.b _ (List.getElem_mem hi)).1
    rw [← val_eq hi hk]; exact q i k (by have := h.n; omega) (by omega)
theorem flat_length {n K : Nat} {L : List (List Int)} {B : Int} (h : Sh n K L B) : L.flatten.length = n * K := by
  obtain ⟨rfl, hb⟩ := h
  induction L with
  | nil => simp
  | cons x L ih =>
    rw [List.flatten_cons, List.length_append, ih (fun y hy => hb y (List.mem_cons_of_mem _ hy)), (hb x (List.mem_cons_self ..)).1, List.length_cons, Nat.add_mul]; omega
theorem flat_drop {n K : Nat} {L : List (List Int)} {B : Int} (h : Sh n K L B) {i : Nat} (hi : i < L.length) : ∃ r, L.flatten.drop (i * K) = L[i] ++ r := by
  obtain ⟨rfl, hb⟩ := h
  induction L generalizing i with
  | nil => simp at hi
  | cons x L ih =>
    have hx := (hb x (List.mem_cons_self ..)).1
    cases i with
    | zero => exact ⟨L.flatten, by simp⟩
    | succ i =>
      obtain ⟨r, hr⟩ := ih (i := i) (by simpa using hi) (fun y hy => hb y (List.mem_cons_of_mem _ hy))
      refine ⟨r, ?_⟩
      rw [List.flatten_cons, List.drop_append, List.drop_of_length_le (by rw [hx, Nat.add_mul]; omega), List.nil_append, hx, Nat.add_mul, Nat.one_mul, Nat.add_sub_cancel, hr, List.getElem_cons_succ]
theorem flat_row {n K : Nat} {L : List (List Int)} {B : Int} (h : Sh n K L B) {i : Nat} (hi : i < L.length) : (L.flatten.drop (i * K)).take K = L[i] := by
  obtain ⟨r, hr⟩ := flat_drop h hi
  rw [hr, ← (h.b _ (List.getElem_mem hi)).1, List.take_left]
theorem blk_lt {i k n K : Nat} (hi : i < n) (hk : k < K) : i * K + k < n * K := by
  have : (i + 1) * K ≤ n * K := Nat.mul_le_mul_right K hi
  rw [Nat.add_mul] at this; omega
theorem flat_val {n K : Nat} {L : List (List Int)} {B : Int} (h : Sh n K L B) {i k : Nat} (hi : i < n) (hk : k < K) : L.flatten.getD (i * K + k) 0 = val L i k := by
  obtain ⟨hi', hk'⟩ := h.row hi
  rw [val_eq hi' (by omega), getD_get (by rw [flat_length h]; exact blk_lt hi hk)]
  have e : ((L.flatten.drop (i * K)).take K)[k]? = some L[i][k] := by rw [flat_row h hi', List.getElem?_eq_getElem (by omega)]
  rw [List.getElem?_take_of_lt hk, List.getElem?_drop] at e
  exact (List.getElem_eq_iff _).2 e
theorem flat_bnd {n K : Nat} {L : List (List Int)} {B : Int} (h : Sh n K L B) : ∀ x ∈ L.flatten, -B ≤ x ∧ x ≤ B := fun x hx => by
  obtain ⟨b, h1, h2⟩ := List.mem_flatten.1 hx
  exact (h.b b h1).2 x h2
theorem blk_iff {i k c K : Nat} (hk : k < K) : (c * K ≤ i * K + k ∧ i * K + k < c * K + K) ↔ i = c := by
  refine ⟨fun ⟨h1, h2⟩ => ?_, fun e => by subst e; omega⟩
  rcases Nat.lt_trichotomy i c with q | q | q
  · have : (i + 1) * K ≤ c * K := Nat.mul_le_mul_right K q
    rw [Nat.add_mul] at this; omega
  · exact q
  · have : (c + 1) * K ≤ i * K := Nat.mul_le_mul_right K q
    rw [Nat.add_mul] at this; omega
theorem blk_of {j n K : Nat} (h : j < n * K) : ∃ i k, i < n ∧ k < K ∧ j = i * K + k := by
  have hK : 0 < K := by rcases Nat.eq_zero_or_pos K with q | q; · subst q; simp at h
                        exact q
  exact ⟨j / K, j % K, Nat.div_lt_of_lt_mul (by rw [Nat.mul_comm]; exact h), Nat.mod_lt _ hK, by rw [Nat.mul_comm]; exact (Nat.div_add_mod j K).symm⟩
/-- A flat list in which k numbers from own on have changed by a, and those from up on that g names by b. -/
def mixF (own up : Nat) (g : Nat → Bool) (a b : List Int) (t : Int) (f : List Int) (k : Nat) : List Int :=
  f.mapIdx fun j x => x + (if own ≤ j ∧ j < own + k then a.getD (j - own) 0 * t else 0) + (if (up ≤ j ∧ j < up + k) ∧ g (j - up) = true then b.getD (j - up) 0 * t else 0)
theorem mixF_len {own up : Nat} {g : Nat → Bool} {a b : List Int} {t : Int} {f : List Int} {k : Nat} : (mixF own up g a b t f k).length = f.length := by simp [mixF]
theorem mixF_at {own up : Nat} {g : Nat → Bool} {a b : List Int} {t : Int} {f : List Int} {k j : Nat} (h : j < (mixF own up g a b t f k).length) : (mixF own up g a b t f k)[j] = f[j]'(by rw [mixF_len] at h; exact h) + (if own ≤ j ∧ j < own + k then a.getD (j - own) 0 * t else 0) + (if (up ≤ j ∧ j < up + k) ∧ g (j - up) = true then b.getD (j - up) 0 * t else 0) := by simp [mixF]
theorem mixF_zero {own up : Nat} {g : Nat → Bool} {a b : List Int} {t : Int} {f : List Int} : mixF own up g a b t f 0 = f := by
  apply List.ext_getElem mixF_len
  intro j h1 h2
  rw [mixF_at, if_neg (by omega), if_neg (by omega)]; omega
theorem mixF_own {own up : Nat} {g : Nat → Bool} {a b : List Int} {t : Int} {f : List Int} {k K : Nat} (hk : k < K) (hd : own + K ≤ up ∨ up + K ≤ own) (h : own + k < (mixF own up g a b t f k).length) : (mixF own up g a b t f k)[own + k] = f[own + k]'(by rw [mixF_len] at h; exact h) := by
  rw [mixF_at, if_neg (by omega), if_neg (by omega)]; omega
/-- The step of the first block. -/
def mixH (own up : Nat) (g : Nat → Bool) (a b : List Int) (t : Int) (f : List Int) (k : Nat) : List Int := (mixF own up g a b t f k).set (own + k) (f.getD (own + k) 0 + a.getD k 0 * t)
theorem mixH_len {own up : Nat} {g : Nat → Bool} {a b : List Int} {t : Int} {f : List Int} {k : Nat} : (mixH own up g a b t f k).length = f.length := by rw [mixH, List.length_set, mixF_len]
theorem mixH_self {own up : Nat} {g : Nat → Bool} {a b : List Int} {t : Int} {f : List Int} {k : Nat} (h : own + k < (mixH own up g a b t f k).length) : (mixH own up g a b t f k)[own + k] = f.getD (own + k) 0 + a.getD k 0 * t := by simp only [mixH, List.getElem_set_self]
theorem mixH_ne {own up : Nat} {g : Nat → Bool} {a b : List Int} {t : Int} {f : List Int} {k j : Nat} (e : own + k ≠ j) (h : j < (mixH own up g a b t f k).length) : (mixH own up g a b t f k)[j] = (mixF own up g a b t f k)[j]'(by rw [mixH_len] at h; rw [mixF_len]; exact h) := by simp only [mixH, List.getElem_set_ne e]
theorem mixH_up {own up : Nat} {g : Nat → Bool} {a b : List Int} {t : Int} {f : List Int} {k K : Nat} (hk : k < K) (hd : own + K ≤ up ∨ up + K ≤ own) (h : up + k < (mixH own up g a b t f k).length) : (mixH own up g a b t f k)[up + k] = f[up + k]'(by rw [mixH_len] at h; exact h) := by
  rw [mixH_ne (by omega), mixF_at, if_neg (by omega), if_neg (by omega)]; omega
theorem mixF_f {own up : Nat} {g : Nat → Bool} {a b : List Int} {t : Int} {f : List Int} {k K : Nat} (hk : k < K) (hd : own + K ≤ up ∨ up + K ≤ own) (ho : own + k < f.length) (hg : g k = false) : mixH own up g a b t f k = mixF own up g a b t f (k + 1) := by
  apply List.ext_getElem (by rw [mixH_len, mixF_len])
  intro j h1 h2
  rw [mixH_len] at h1
  rw [mixF_at]
  by_cases e : own + k = j
  · subst e
    rw [mixH_self, getD_get ho, if_pos (by omega), if_neg (by omega), Nat.add_sub_cancel_left]; omega
  · rw [mixH_ne e, mixF_at]
    have i1 : (if own ≤ j ∧ j < own + k then a.getD (j - own) 0 * t else 0) = if own ≤ j ∧ j < own + (k + 1) then a.getD (j - own) 0 * t else 0 := ite_iff (by omega) rfl rfl
    have i2 : (if (up ≤ j ∧ j < up + k) ∧ g (j - up) = true then b.getD (j - up) 0 * t else 0) = if (up ≤ j ∧ j < up + (k + 1)) ∧ g (j - up) = true then b.getD (j - up) 0 * t else 0 := ite_iff ⟨fun q => ⟨by omega, q.2⟩, fun q => ⟨by
      by_cases z : j = up + k
      · subst z; rw [Nat.add_sub_cancel_left, hg] at q; exact absurd q.2 (by decide)
      · omega, q.2⟩⟩ rfl rfl
    rw [i1, i2]
theorem mixF_t {own up : Nat} {g : Nat → Bool} {a b : List Int} {t : Int} {f : List Int} {k K : Nat} (hk : k < K) (hd : own + K ≤ up ∨ up + K ≤ own) (ho : own + k < f.length) (hu : up + k < f.length) (hg : g k = true) : (mixH own up g a b t f k).set (up + k) (f[up + k] + b.getD k 0 * t) = mixF own up g a b t f (k + 1) := by
  apply List.ext_getElem (by rw [List.length_set, mixH_len, mixF_len])
  intro j h1 h2
  rw [List.length_set, mixH_len] at h1
  rw [mixF_at]
  by_cases e : up + k = j
  · subst e
    rw [List.getElem_set_self, if_neg (by omega), if_pos ⟨by omega, by rw [Nat.add_sub_cancel_left]; exact hg⟩, Nat.add_sub_cancel_left]; omega
  rw [List.getElem_set_ne e]
  by_cases e : own + k = j
  · subst e
    rw [mixH_self, getD_get ho, if_pos (by omega), if_neg (by omega), Nat.add_sub_cancel_left]; omega
  · rw [mixH_ne e, mixF_at]
    have i1 : (if own ≤ j ∧ j < own + k then a.getD (j - own) 0 * t else 0) = if own ≤ j ∧ j < own + (k + 1) then a.getD (j - own) 0 * t else 0 := ite_iff (by omega) rfl rfl
    have i2 : (if (up ≤ j ∧ j < up + k) ∧ g (j - up) = true then b.getD (j - up) 0 * t else 0) = if (up ≤ j ∧ j < up + (k + 1)) ∧ g (j - up) = true then b.getD (j - up) 0 * t else 0 := ite_iff ⟨fun q => ⟨by omega, q.2⟩, fun q => ⟨by omega, q.2⟩⟩ rfl rfl
    rw [i1, i2]

/-- The kinds of a bag that g names. -/
def only (g : Nat → Bool) (b : List Int) : List Int := b.mapIdx fun k x => if g k = true then x else 0
theorem only_len {g : Nat → Bool} {b : List Int} : (only g b).length = b.length := by simp [only]
theorem only_at {g : Nat → Bool} {b : List Int} {k : Nat} (hk : k < b.length) : (only g b).getD k 0 = if g k = true then b[k] else 0 := by rw [getD_get (by rw [only_len]; exact hk)]; simp [only]
def mixR (c u : Nat) (g : Nat → Bool) (a b : List Int) (t : Int) (L : List (List Int)) : List (List Int) := addL (addL L c a t) u (only g b) t
theorem mul_b {x t : Int} (hx : 0 ≤ x ∧ x ≤ 1000) (ht : -2000 ≤ t ∧ t ≤ 2000) : -2000000 ≤ x * t ∧ x * t ≤ 2000000 := by
  have h1 := Int.mul_le_mul_of_nonneg_left ht.1 hx.1
  have h2 := Int.mul_le_mul_of_nonneg_left ht.2 hx.1
  omega
def Bg (K : Nat) (b : List Int) : Prop := b.length = K ∧ ∀ y ∈ b, 0 ≤ y ∧ y ≤ 1000
theorem Bg.only {K : Nat} {b : List Int} (h : Bg K b) (g : Nat → Bool) : Bg K (only g b) := ⟨by rw [only_len]; exact h.1, fun y hy => by
  obtain ⟨k, hk, rfl⟩ := List.getElem_of_mem hy
  rw [only_len] at hk
  have := only_at (g := g) hk
  rw [getD_get (by rw [only_len]; exact hk)] at this
  rw [this]
  split
  · exact h.2 _ (List.getElem_mem _)
  · omega⟩
theorem Bg.mul {K : Nat} {b : List Int} (h : Bg K b) {t : Int} (ht : -2000 ≤ t ∧ t ≤ 2000) : ∀ y ∈ b, -2000000 ≤ y * t ∧ y * t ≤ 2000000 := fun y hy => mul_b (h.2 y hy) ht
theorem Sh.mix {n K : Nat} {L : List (List Int)} {B : Int} (h : Sh n K L B) {c u : Nat} {g : Nat → Bool} {a b : List Int} (ha : Bg K a) (hb : Bg K b) {t : Int} (ht : -2000 ≤ t ∧ t ≤ 2000) : Sh n K (mixR c u g a b t L) (B + 4000000) :=
  ((h.add (by omega) ha.1 (ha.mul ht)).add (by omega) (hb.only g).1 ((hb.only g).mul ht)).mono (by omega)
theorem mixR_val {n K : Nat} {L : List (List Int)} {B : Int} (h : Sh n K L B) {c u : Nat} (hc : c < n) (hu : u < n) {g : Nat → Bool} {a b : List Int} (ha : Bg K a) (hb : Bg K b) {t : Int} (ht : -2000 ≤ t ∧ t ≤ 2000) {i k : Nat} (hi : i < n) (hk : k < K) :
    val (mixR c u g a b t L) i k = val L i k + (if i = c then a.getD k 0 * t else 0) + (if i = u ∧ g k = true then b.getD k 0 * t else 0) := by
  unfold mixR
  rw [val_add (h.add (by omega) ha.1 (ha.mul ht)) hu (hb.only g).1 t hi hk, val_add h hc ha.1 t hi hk, only_at (by rw [hb.1]; exact hk), getD_get (l := b) (by rw [hb.1]; exact hk)]
  by_cases e : i = u
  · by_cases z : g k = true
    · rw [if_pos e, if_pos z, if_pos (c := i = u ∧ g k = true) ⟨e, z⟩]
    · rw [if_pos e, if_neg z, if_neg (c := i = u ∧ g k = true) (fun q => z q.2), Int.zero_mul]
  · rw [if_neg e, if_neg (c := i = u ∧ g k = true) (fun q => e q.1)]
theorem mix_flat {n K : Nat} {L : List (List Int)} {B : Int} (h : Sh n K L B) {c u : Nat} (hc : c < n) (hu : u < n) {g : Nat → Bool} {a b : List Int} (ha : Bg K a) (hb : Bg K b) {t : Int} (ht : -2000 ≤ t ∧ t ≤ 2000) : mixF (c * K) (u * K) g a b t L.flatten K = (mixR c u g a b t L).flatten := by
  have hM := h.mix (c := c) (u := u) (g := g) ha hb ht
  apply List.ext_getElem (by rw [mixF_len, flat_length h, flat_length hM])
  intro j h1 h2
  rw [mixF_len, flat_length h] at h1
  obtain ⟨i, k, hi, hk, rfl⟩ := blk_of h1
  have v1 := flat_val h hi hk
  have v2 := flat_val hM hi hk
  rw [getD_get (by rw [flat_length h]; exact h1)] at v1
  rw [getD_get h2] at v2
  rw [mixF_at, v1, v2, mixR_val h hc hu ha hb ht hi hk]
  have i1 : (if c * K ≤ i * K + k ∧ i * K + k < c * K + K then a.getD (i * K + k - c * K) 0 * t else 0) = if i = c then a.getD k 0 * t else 0 := by
    by_cases e : i = c
    · rw [if_pos ((blk_iff hk).2 e), if_pos e, e, Nat.add_sub_cancel_left]
    · rw [if_neg (fun q => e ((blk_iff hk).1 q)), if_neg e]
  have i2 : (if (u * K ≤ i * K + k ∧ i * K + k < u * K + K) ∧ g (i * K + k - u * K) = true then b.getD (i * K + k - u * K) 0 * t else 0) = if i = u ∧ g k = true then b.getD k 0 * t else 0 := by
    by_cases e : i = u
    · subst e
      have : i * K + k - i * K = k := by omega
      rw [this]
      exact ite_iff ⟨fun q => ⟨rfl, q.2⟩, fun q => ⟨(blk_iff hk).2 rfl, q.2⟩⟩ rfl rfl
    · rw [if_neg (fun q => e ((blk_iff hk).1 q.1)), if_neg (fun q => e q.1)]
  rw [i1, i2]
/-- What is left is nowhere below zero. -/
theorem mix_nn {n K : Nat} {L : List (List Int)} {B : Int} (h : Sh n K L B) (h0 : Nn L) {c u : Nat} (hc : c < n) (hu : u < n) (hcu : c ≠ u) {g : Nat → Bool} {a b : List Int} (ha : Bg K a) (hb : Bg K b) {t : Int} (ht : -2000 ≤ t ∧ t ≤ 2000) :
    (∀ k, k < K → 0 ≤ L.flatten.getD (c * K + k) 0 + a.getD k 0 * t ∧ (g k = true → 0 ≤ L.flatten.getD (u * K + k) 0 + b.getD k 0 * t)) ↔ Nn (mixR c u g a b t L) := by
  rw [nn_val (h.mix ha hb ht)]
  have h0' := (nn_val h).1 h0
  constructor
  · intro q i k hi hk
    have p := q k hk
    rw [flat_val h hc hk, flat_val h hu hk] at p
    rw [mixR_val h hc hu ha hb ht hi hk]
    have v := h0' i k hi hk
    by_cases e : i = c
    · subst e
      rw [if_pos rfl, if_neg (fun z => hcu z.1)]; omega
    · by_cases e2 : i = u
      · subst e2
        rw [if_neg e]
        by_cases z : g k = true
        · rw [if_pos ⟨rfl, z⟩]; have := p.2 z; omega
        · rw [if_neg (fun q => z q.2)]; omega
      · rw [if_neg e, if_neg (fun z => e2 z.1)]; omega
  · intro q k hk
    rw [flat_val h hc hk, flat_val h hu hk]
    have p1 := q c k hc hk
    have p2 := q u k hu hk
    rw [mixR_val h hc hu ha hb ht hc hk, if_pos rfl, if_neg (fun z => hcu z.1)] at p1
    rw [mixR_val h hc hu ha hb ht hu hk, if_neg (fun z => hcu z.symm)] at p2
    refine ⟨by omega, fun z => ?_⟩
    rw [if_pos ⟨rfl, z⟩] at p2; omega
theorem mix_le {n K : Nat} {L : List (List Int)} {B : Int} (h : Sh n K L B) {c u : Nat} (hc : c < n) (hu : u < n) {g : Nat → Bool} {a b : List Int} (ha : Bg K a) (hb : Bg K b) {t : Int} (ht : -2000 ≤ t ∧ t ≤ 0) (hN : Nn (mixR c u g a b t L)) : Nn L := by
  have ht' : -2000 ≤ t ∧ t ≤ 2000 := by omega
  rw [nn_val (h.mix ha hb ht')] at hN
  rw [nn_val h]
  intro i k hi hk
  have := hN i k hi hk
  rw [mixR_val h hc hu ha hb ht' hi hk] at this
  have e1 : (if i = c then a.getD k 0 * t else 0) ≤ 0 := by
    split
    · rw [getD_get (by rw [ha.1]; exact hk)]
      exact Int.mul_nonpos_of_nonneg_of_nonpos (ha.2 _ (List.getElem_mem _)).1 ht.2
    · omega
  have e2 : (if i = u ∧ g k = true then b.getD k 0 * t else 0) ≤ 0 := by
    split
    · rw [getD_get (by rw [hb.1]; exact hk)]
      exact Int.mul_nonpos_of_nonneg_of_nonpos (hb.2 _ (List.getElem_mem _)).1 ht.2
    · omega
  omega

theorem plusL_swap (x a b : List Int) (s t : Int) : plusL (plusL x a s) b t = plusL (plusL x b t) a s := by
  apply List.ext_getElem
  · simp only [plusL, List.length_zipWith]; omega
  · intro i h1 h2
    simp only [plusL, List.getElem_zipWith]; omega
theorem addL_comm (L : List (List Int)) (c d : Nat) (a b : List Int) (s t : Int) : addL (addL L c a s) d b t = addL (addL L d b t) c a s := by
  by_cases hc : c < L.length
  · by_cases hd : d < L.length
    · by_cases e : c = d
      · subst e
        unfold addL
        rw [getD_get (l := L.set c _) (by rw [List.length_set]; exact hc), getD_get (l := L.set c _) (by rw [List.length_set]; exact hc), List.getElem_set_self, List.getElem_set_self, List.set_set, List.set_set, plusL_swap]
      · unfold addL
        rw [getD_get (l := L.set c _) (by rw [List.length_set]; exact hd), getD_get (l := L.set d _) (by rw [List.length_set]; exact hc), List.getElem_set_ne e, List.getElem_set_ne (Ne.symm e), getD_get hc, getD_get hd, List.set_comm _ _ e]
    · unfold addL
      rw [List.set_eq_of_length_le (l := L.set c _) (by rw [List.length_set]; omega), List.set_eq_of_length_le (l := L) (i := d) (by omega)]
  · unfold addL
    rw [List.set_eq_of_length_le (l := L) (i := c) (by omega), List.set_eq_of_length_le (l := L.set d _) (i := c) (by rw [List.length_set]; omega)]
theorem mixR_comm (c u c' u' : Nat) (g g' : Nat → Bool) (a b a' b' : List Int) (s t : Int) (L : List (List Int)) : mixR c u g a b s (mixR c' u' g' a' b' t L) = mixR c' u' g' a' b' t (mixR c u g a b s L) := by
  unfold mixR
  rw [addL_comm (addL L c' a' t) u' c, addL_comm L c' c, addL_comm _ u' u, addL_comm _ c' u]

/-- The place of a cell's parent among all plc. -/
def Passing.up (p : Passing) (c : Int) : Nat := if c = 0 then p.parents.length else (p.parents.getD c.toNat 0).toNat
/-- Whether a kind passes between a cell and its parent. -/
def Passing.gk (p : Passing) (c : Int) (k : Nat) : Bool := if c = 0 then !(p.free.getD k false) else true
def Passing.tk (p : Passing) (r : PassRule) (t : Int) (L : List (List Int)) : List (List Int) := mixR r.cell.toNat (p.up r.cell) (p.gk r.cell) r.out r.in_ (0 - t) L
def Passing.gv (p : Passing) (r : PassRule) (t : Int) (L : List (List Int)) : List (List Int) := mixR r.cell.toNat (p.up r.cell) (p.gk r.cell) r.in_ r.out t L
def Passing.tks (p : Passing) (cs : List Int) (L : List (List Int)) : Nat → List (List Int)
  | 0 => L
  | k + 1 => p.tk (p.rules.getD k default) (cs.getD k 0) (p.tks cs L k)
def Passing.gvs (p : Passing) (cs : List Int) (L : List (List Int)) : Nat → List (List Int)
  | 0 => L
  | k + 1 => p.gv (p.rules.getD k default) (cs.getD k 0) (p.gvs cs L k)
def Passing.chs (p : Passing) (cs : List Int) (L : List (List Int)) : Nat → List (List Int)
  | 0 => L
  | k + 1 => p.gv (p.rules.getD k default) (cs.getD k 0) (p.tk (p.rules.getD k default) (cs.getD k 0) (p.chs cs L k))
theorem gvs_tk (p : Passing) (cs : List Int) (r : PassRule) (t : Int) (L : List (List Int)) : ∀ k, p.gvs cs (p.tk r t L) k = p.tk r t (p.gvs cs L k)
  | 0 => rfl
  | k + 1 => by rw [Passing.gvs, gvs_tk p cs r t L k, Passing.gvs]; unfold Passing.gv Passing.tk; rw [mixR_comm]
theorem chs_eq (p : Passing) (cs : List Int) (L : List (List Int)) : ∀ k, p.chs cs L k = p.gvs cs (p.tks cs L k) k
  | 0 => rfl
  | k + 1 => by rw [Passing.chs, chs_eq p cs L k, ← gvs_tk, Passing.gvs, Passing.tks]
def Passing.Cnts (p : Passing) (cs : List Int) : Prop := (∀ x ∈ cs, 0 ≤ x ∧ x ≤ 1000) ∧ (cs.length : Int) = p.rules.length
/-- .. numbers that a count may come to while it is tried. -/
def Passing.Cntw (p : Passing) (cs : List Int) : Prop := (∀ x ∈ cs, 0 ≤ x ∧ x ≤ 2000) ∧ (cs.length : Int) = p.rules.length
theorem Passing.Cnts.w {p : Passing} {cs : List Int} (h : p.Cnts cs) : p.Cntw cs := ⟨fun x hx => by have := h.1 x hx; omega, h.2⟩
/-- What a rule of a valid system has. -/
structure RuF (p : Passing) (r : PassRule) : Prop where
  c0 : 0 ≤ r.cell
  c : r.cell.toNat < p.parents.length
  u : p.up r.cell < p.parents.length + 1
  cu : r.cell.toNat ≠ p.up r.cell
  o : Bg p.kinds.toNat r.out
  i : Bg p.kinds.toNat r.in_
  o' : BagK p.kinds r.out
  i' : BagK p.kinds r.in_
theorem BagK.bg {k : Int} {b : List Int} (h : BagK k b) : Bg k.toNat b := ⟨by have := h.2; omega, h.1.1⟩
theorem Passing.Frame.par {p : Passing} (h : p.Frame) {c : Int} (h0 : 0 < c) (hc : c.toNat < p.parents.length) : p.parents.getD c.toNat 0 = p.parents[c.toNat] ∧ 0 ≤ p.parents[c.toNat] ∧ p.parents[c.toNat] ≤ c - 1 := by
  have := h.2.2.2.2.2 c.toNat hc (by omega)
  exact ⟨getD_get hc, this.1, by omega⟩
theorem ruF {p : Passing} (hv : p.Ok) {r : PassRule} (hr : r ∈ p.rules) : RuF p r := by
  obtain ⟨h0, h1, h2, _, _⟩ := hv.2 r hr
  have hc : r.cell.toNat < p.parents.length := by omega
  have hu : p.up r.cell < p.parents.length + 1 ∧ r.cell.toNat ≠ p.up r.cell := by
    unfold Passing.up
    by_cases e : r.cell = 0
    · rw [if_pos e]; omega
    · rw [if_neg e]
      have q := hv.1.par (c := r.cell) (by omega) hc
      rw [q.1]; omega
  exact ⟨h0.1, hc, hu.1, hu.2, h1.bg, h2.bg, h1, h2⟩
theorem Sh.tk {p : Passing} {r : PassRule} (R : RuF p r) {n : Nat} {L : List (List Int)} {B : Int} (h : Sh n p.kinds.toNat L B) {t : Int} (ht : 0 ≤ t ∧ t ≤ 2000) : Sh n p.kinds.toNat (p.tk r t L) (B + 4000000) := h.mix R.o R.i (by omega)
theorem Sh.gv {p : Passing} {r : PassRule} (R : RuF p r) {n : Nat} {L : List (List Int)} {B : Int} (h : Sh n p.kinds.toNat L B) {t : Int} (ht : 0 ≤ t ∧ t ≤ 2000) : Sh n p.kinds.toNat (p.gv r t L) (B + 4000000) := h.mix R.i R.o (by omega)
theorem Cnw {p : Passing} {cs : List Int} (hc : p.Cntw cs) {k : Nat} (hk : k < p.rules.length) : ∃ h : k < cs.length, 0 ≤ cs[k] ∧ cs[k] ≤ 2000 := ⟨by have := hc.2; omega, hc.1 _ (List.getElem_mem _)⟩
theorem Cn {p : Passing} {cs : List Int} (hc : p.Cnts cs) {k : Nat} (hk : k < p.rules.length) : ∃ h : k < cs.length, 0 ≤ cs[k] ∧ cs[k] ≤ 1000 := ⟨by have := hc.2; omega, hc.1 _ (List.getElem_mem _)⟩
theorem tks_succ {p : Passing} {cs : List Int} {L : List (List Int)} {k : Nat} (hk : k < p.rules.length) (hc : k < cs.length) : p.tks cs L (k + 1) = p.tk p.rules[k] cs[k] (p.tks cs L k) := by rw [Passing.tks, getD_get hk, getD_get hc]
theorem gvs_succ {p : Passing} {cs : List Int} {L : List (List Int)} {k : Nat} (hk : k < p.rules.length) (hc : k < cs.length) : p.gvs cs L (k + 1) = p.gv p.rules[k] cs[k] (p.gvs cs L k) := by rw [Passing.gvs, getD_get hk, getD_get hc]
theorem chs_succ {p : Passing} {cs : List Int} {L : List (List Int)} {k : Nat} (hk : k < p.rules.length) (hc : k < cs.length) : p.chs cs L (k + 1) = p.gv p.rules[k] cs[k] (p.tk p.rules[k] cs[k] (p.chs cs L k)) := by rw [Passing.chs, getD_get hk, getD_get hc]
theorem tks_sh {p : Passing} (hv : p.Ok) {cs : List Int} (hc : p.Cntw cs) {n : Nat} {L : List (List Int)} {B : Int} (h : Sh n p.kinds.toNat L B) : ∀ k, k ≤ p.rules.length → Sh n p.kinds.toNat (p.tks cs L k) (B + 4000000 * k)
  | 0, _ => h.mono (by omega)
  | k + 1, hk => by
    obtain ⟨h1, h2⟩ := Cnw hc (k := k) (by omega)
    rw [tks_succ (by omega) h1]
    exact ((tks_sh hv hc h k (by omega)).tk (ruF hv (List.getElem_mem _)) h2).mono (by push_cast; omega)
theorem gvs_sh {p : Passing} (hv : p.Ok) {cs : List Int} (hc : p.Cnts cs) {n : Nat} {L : List (List Int)} {B : Int} (h : Sh n p.kinds.toNat L B) : ∀ k, k ≤ p.rules.length → Sh n p.kinds.toNat (p.gvs cs L k) (B + 4000000 * k)
  | 0, _ => h.mono (by omega)
  | k + 1, hk => by
    obtain ⟨h1, h2⟩ := Cn hc (k := k) (by omega)
    rw [gvs_succ (by omega) h1]
    exact ((gvs_sh hv hc h k (by omega)).gv (ruF hv (List.getElem_mem _)) (by omega)).mono (by push_cast; omega)
theorem chs_sh {p : Passing} (hv : p.Ok) {cs : List Int} (hc : p.Cnts cs) {n : Nat} {L : List (List Int)} {B : Int} (h : Sh n p.kinds.toNat L B) : ∀ k, k ≤ p.rules.length → Sh n p.kinds.toNat (p.chs cs L k) (B + 8000000 * k)
  | 0, _ => h.mono (by omega)
  | k + 1, hk => by
    obtain ⟨h1, h2⟩ := Cn hc (k := k) (by omega)
    rw [chs_succ (by omega) h1]
    exact (((chs_sh hv hc h k (by omega)).tk (ruF hv (List.getElem_mem _)) (by omega)).gv (ruF hv (List.getElem_mem _)) (by omega)).mono (by push_cast; omega)
/-- All places of a stock. -/
def plc (s : Stock) : List (List Int) := s.cells ++ [s.around]
theorem plc_sh {p : Passing} {s : Stock} (hs : p.StockOk s) : Sh (p.parents.length + 1) p.kinds.toNat (plc s) 1000 := by
  obtain ⟨h1, h2, h3, _⟩ := hs
  refine ⟨by simp [plc, h1], fun x hx => ?_⟩
  have hb : BagK p.kinds x := by
    rcases List.mem_append.1 hx with q | q
    · exact h3 x q
    · rw [List.mem_singleton] at q; subst q; exact h2
  exact ⟨hb.bg.1, fun y hy => by have := hb.1.1 y hy; omega⟩
theorem plc_nn {p : Passing} {s : Stock} (hs : p.StockOk s) : Nn (plc s) := by
  obtain ⟨h1, h2, h3, _⟩ := hs
  intro x hx
  have hb : BagK p.kinds x := by
    rcases List.mem_append.1 hx with q | q
    · exact h3 x q
    · rw [List.mem_singleton] at q; subst q; exact h2
  exact fun y hy => (hb.1.1 y hy).1
theorem tks_le {p : Passing} (hv : p.Ok) {cs : List Int} (hc : p.Cntw cs) {s : Stock} (hs : p.StockOk s) {k m : Nat} (hkm : k ≤ m) (hm : m ≤ p.rules.length) (hN : Nn (p.tks cs (plc s) m)) : Nn (p.tks cs (plc s) k) := by
  induction m with
  | zero => rw [Nat.le_zero.1 hkm]; exact hN
  | succ m ih =>
    rcases Nat.lt_or_eq_of_le hkm with q | rfl
    · refine ih (by omega) (by omega) ?_
      obtain ⟨h1, h2⟩ := Cnw hc (k := m) (by omega)
      have R := ruF hv (List.getElem_mem (n := m) (show m < p.rules.length by omega))
      rw [tks_succ (by omega) h1] at hN
      exact mix_le (tks_sh hv hc (plc_sh hs) m (by omega)) (by have := R.c; omega) R.u R.o R.i (by omega) hN
    · exact hN

end Go.Proofs.YtbpmmdecaonopaaGreat
