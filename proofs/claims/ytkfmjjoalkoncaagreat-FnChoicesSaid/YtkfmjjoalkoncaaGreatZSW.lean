/-
  All maximal choices, plain: each once; every choice is below one of them; the first choice is one of them. No condition.
-/
import Derived.Test.YtkfmjjoalkoncaaGreatZC2
import Derived.Test.YtkfmjjoalkoncaaGreatZC6
import Derived.Test.YtkfmjjoalkoncaaGreatZG2
import Derived.Test.YtkfmjjoalkoncaaGreatZJO
import Derived.Test.YtkfmjjoalkoncaaGreatZC8
import Derived.Test.YtkfmjjoalkoncaaGreatZSV
import Derived.Test.YtkfmjjoalkoncaaGreatZS5j
namespace Go.Proofs.YtkfmjjoalkoncaaGreat
open Go.AI
set_option maxRecDepth 8000
set_option maxHeartbeats 1600000

theorem nodup_flat {α β : Type} {f : α → List β} : ∀ {l : List α}, l.Nodup → (∀ a ∈ l, (f a).Nodup) → (∀ a ∈ l, ∀ b ∈ l, a ≠ b → ∀ x ∈ f a, ∀ y ∈ f b, x ≠ y) → (l.flatMap f).Nodup
  | [], _, _, _ => List.Pairwise.nil
  | a :: l, hl, h1, h2 => by
    rw [List.nodup_cons] at hl
    rw [List.flatMap_cons]
    refine List.nodup_append.2 ⟨h1 a List.mem_cons_self, nodup_flat hl.2 (fun b hb => h1 b (List.mem_cons_of_mem _ hb)) (fun b hb c hc => h2 b (List.mem_cons_of_mem _ hb) c (List.mem_cons_of_mem _ hc)), fun x hx y hy => ?_⟩
    obtain ⟨b, hb, hy⟩ := List.mem_flatMap.1 hy
    exact h2 a List.mem_cons_self b (List.mem_cons_of_mem _ hb) (fun e => hl.1 (e ▸ hb)) x hx y hy
theorem nodup_map {α β : Type} {f : α → β} {l : List α} (hl : l.Nodup) (h : ∀ a ∈ l, ∀ b ∈ l, f a = f b → a = b) : (l.map f).Nodup := by
  unfold List.Nodup
  rw [List.pairwise_map]
  exact List.Pairwise.imp_of_mem (fun {a b} ha hb q e => q (h a ha b hb e)) hl
theorem allK_nodup {s : System} {t : State} (hv : s.Ok) (ht : s.StateOk t) : ∀ C, C ≤ s.parents.length → (allK s t C).Nodup
  | 0, _ => by unfold allK; simp
  | C + 1, hC => by
    have ih := allK_nodup hv ht C (by omega)
    have hl := ht.2.1
    by_cases hne : ndC s t C = []
    · rw [allK, if_pos hne]; exact ih
    · rw [allK, if_neg hne]
      have ixn := cIx_nodup s t (C : Int) s.rules.length
      have ixr : ∀ x ∈ cIx s t (C : Int) s.rules.length, ∃ i : Nat, x = (i : Int) ∧ ∃ h : i < s.rules.length, App s t s.rules[i] ∧ s.rules[i].cell = (C : Int) := fun x hx => by
        obtain ⟨i, h1, _, h2⟩ := cIx_at _ x hx; exact ⟨i, h1, h2⟩
      have got : ∀ ch ∈ allK s t C, ∀ ns ∈ pkC s t C, (cIx s t (C : Int) s.rules.length).map (fun x => (putC ch (cIx s t (C : Int) s.rules.length) ns).getD x.toNat 0) = ns := fun ch hch ns hns => by
        have l1 := ((allK_mem hv ht C (by omega) ch).1 hch).1
        have nl := ((pkC_mem hv ht (by omega) ns).1 hns).1
        refine putC_in _ _ _ ixn (fun x hx => ?_) nl.symm
        obtain ⟨i, rfl, hi, _⟩ := ixr x hx
        rw [Int.toNat_natCast, l1]; exact hi
      refine nodup_flat ih (fun ch hch => nodup_map (packL_nodup _ _ _) fun a ha b hb e => ?_) (fun ch hch ch' hch' hne' x hx y hy e => ?_)
      · rw [← got ch hch a ha, e, got ch hch b hb]
      · obtain ⟨a, ha, rfl⟩ := List.mem_map.1 hx
        obtain ⟨b, hb, rfl⟩ := List.mem_map.1 hy
        refine hne' (ext_getD ?_ fun j => ?_)
        · rw [((allK_mem hv ht C (by omega) ch).1 hch).1, ((allK_mem hv ht C (by omega) ch').1 hch').1]
        · by_cases q : ∃ x ∈ cIx s t (C : Int) s.rules.length, x.toNat = j
          · obtain ⟨x, hx, rfl⟩ := q
            obtain ⟨i, rfl, hi, r⟩ := ixr x hx
            rw [Int.toNat_natCast, ((allK_mem hv ht C (by omega) ch).1 hch).2.1 i hi (.inr (by omega)), ((allK_mem hv ht C (by omega) ch').1 hch').2.1 i hi (.inr (by omega))]
          · have qn : ∀ x ∈ cIx s t (C : Int) s.rules.length, x.toNat ≠ j := fun x hx e => q ⟨x, hx, e⟩
            have h1 := putC_out _ ch a qn
            have h2 := putC_out _ ch' b qn
            rw [← h1, ← h2, e]

/-! ### What is left, number by number -/
def lin (s : System) (cs : List Int) (c j : Nat) : Nat → Int
  | 0 => 0
  | k + 1 => lin s cs c j k + (if (s.rules.getD k default).cell.toNat = c then (s.rules.getD k default).need.getD j 0 * cs.getD k 0 else 0)
theorem need_prt {s : System} (hv : s.Ok) {k : Nat} (hk : k < s.rules.length) : Ptk s.kinds.toNat s.rules[k].need := by
  have hr := (hv.2.2 k hk).1
  have hb := hr.2.2.2.2.1
  have k8 := hv.1.1
  exact ⟨⟨⟨by have := hb.2; omega, by omega, by omega⟩, hb.1.1⟩, hr.2.2.2.2.2.2.2.2.2.1⟩
theorem rest_len {s : System} {t : State} {cs : List Int} (hv : s.Ok) (ht : s.StateOk t) (hc : Cnts s cs) {k : Nat} (hk : k ≤ s.rules.length) {c : Nat} (hcl : c < t.bags.length) : ((restK s t cs k).getD c []).length = s.kinds.toNat := by
  have rl := restK_len s t cs k
  rw [getD_get (by omega)]
  have := (restK_bnd hv ht hc k hk _ (List.getElem_mem (n := c) (by omega))).1
  omega
theorem restK_lin {s : System} {t : State} {cs : List Int} (hv : s.Ok) (ht : s.StateOk t) (hc : Cnts s cs) {c : Nat} (hcl : c < t.bags.length) (j : Nat) : ∀ k, k ≤ s.rules.length → ((restK s t cs k).getD c []).getD j 0 = (t.bags.getD c []).getD j 0 - lin s cs c j k
  | 0, _ => by unfold lin restK; omega
  | k + 1, hk => by
    have hk' : k < s.rules.length := by omega
    have ih := restK_lin hv ht hc hcl j k (by omega)
    have rl := restK_len s t cs k
    have ln := rest_len hv ht hc (k := k) (by omega) hcl
    have nl := (need_prt hv hk').1.1.1
    have gd : s.rules.getD k default = s.rules[k] := getD_get hk'
    rw [restK, lin, gd]
    by_cases e : s.rules[k].cell.toNat = c
    · rw [if_pos e, e, getD_self (by omega), plusL_get (by rw [ln, nl]), ih, Int.mul_sub, Int.mul_zero]; omega
    · rw [if_neg e, getD_ne e, ih]; omega
theorem lin_mono {s : System} {cs : List Int} (hv : s.Ok) (h0 : ∀ i, 0 ≤ cs.getD i 0) (c j : Nat) : ∀ m k, k ≤ m → m ≤ s.rules.length → lin s cs c j k ≤ lin s cs c j m
  | 0, k, hk, _ => by rw [Nat.le_zero.1 hk]; exact Int.le_refl _
  | m + 1, k, hk, hm => by
    by_cases e : k = m + 1
    · subst e; exact Int.le_refl _
    · have ih := lin_mono hv h0 c j m k (by omega) (by omega)
      have hm' : m < s.rules.length := by omega
      have gd : s.rules.getD m default = s.rules[m] := getD_get hm'
      have hp : 0 ≤ s.rules[m].need.getD j 0 * cs.getD m 0 := Int.mul_nonneg ((need_prt hv hm').prt.2 j) (h0 m)
      rw [lin, gd]
      split <;> omega
theorem lin_nn {s : System} {cs : List Int} (hv : s.Ok) (h0 : ∀ i, 0 ≤ cs.getD i 0) (c j k : Nat) (hk : k ≤ s.rules.length) : 0 ≤ lin s cs c j k := lin_mono hv h0 c j k 0 (Nat.zero_le _) hk
theorem lin_one {s : System} {cs : List Int} (hv : s.Ok) (h0 : ∀ i, 0 ≤ cs.getD i 0) (j : Nat) {i : Nat} (hi : i < s.rules.length) : s.rules[i].need.getD j 0 * cs.getD i 0 ≤ lin s cs s.rules[i].cell.toNat j s.rules.length := by
  have h1 := lin_mono hv h0 s.rules[i].cell.toNat j s.rules.length (i + 1) (by omega) (Nat.le_refl _)
  have h2 := lin_nn hv h0 s.rules[i].cell.toNat j i (by omega)
  have gd : s.rules.getD i default = s.rules[i] := getD_get hi
  rw [lin, gd, if_pos rfl] at h1
  omega
theorem lin_add {s : System} {cs : List Int} {i : Nat} (hi : i < s.rules.length) (hl : i < cs.length) (c j : Nat) : ∀ k, lin s (cs.set i (cs.getD i 0 + 1)) c j k = lin s cs c j k + (if i < k ∧ s.rules[i].cell.toNat = c then s.rules[i].need.getD j 0 else 0)
  | 0 => by rw [if_neg (fun q => absurd q.1 (Nat.not_lt_zero _))]; rfl
  | k + 1 => by
    have ih := lin_add hi hl c j k
    rw [lin, lin, ih]
    by_cases e : i = k
    · subst e
      have gd : s.rules.getD i default = s.rules[i] := getD_get hi
      rw [getD_self hl, gd, if_neg (show ¬ (i < i ∧ s.rules[i].cell.toNat = c) from fun q => absurd q.1 (Nat.lt_irrefl _))]
      by_cases z : s.rules[i].cell.toNat = c
      · rw [if_pos z, if_pos z, if_pos ⟨by omega, z⟩, Int.mul_add, Int.mul_one]
        all_goals omega
      · rw [if_neg z, if_neg z, if_neg (fun q => z q.2)]
        all_goals omega
    · have ek : (i < k + 1 ∧ s.rules[i].cell.toNat = c) ↔ (i < k ∧ s.rules[i].cell.toNat = c) := ⟨fun q => ⟨by omega, q.2⟩, fun q => ⟨by omega, q.2⟩⟩
      have e2 : (if i < k + 1 ∧ s.rules[i].cell.toNat = c then s.rules[i].need.getD j 0 else 0) = (if i < k ∧ s.rules[i].cell.toNat = c then s.rules[i].need.getD j 0 else 0) := ite_congr (propext ek) (fun _ => rfl) (fun _ => rfl)
      rw [e2, getD_ne e]
      exact Int.add_right_comm _ _ _
theorem ch_lin {s : System} {t : State} {cs : List Int} (hv : s.Ok) (ht : s.StateOk t) (hc : Cnts s cs) : Ch s t cs ↔ (∀ i (h : i < s.rules.length), ¬ App s t s.rules[i] → cs.getD i 0 = 0) ∧ ∀ c, c < t.bags.length → ∀ j, lin s cs c j s.rules.length ≤ (t.bags.getD c []).getD j 0 := by
  have hn := hc.2
  have c0 : ∀ i, 0 ≤ cs.getD i 0 := nn_get.1 fun x hx => (hc.1 x hx).1
  have rl := restK_len s t cs s.rules.length
  constructor
  · rintro ⟨h1, h2⟩
    refine ⟨fun i h a => ?_, fun c hcl j => ?_⟩
    · have h3 := c0 i
      have h4 : ¬ 0 < cs.getD i 0 := fun q => a (h1 i h (by omega) (by rwa [getD_get (by omega)] at q))
      omega
    · have h3 := restK_lin hv ht hc hcl j _ (Nat.le_refl _)
      have hc3 : c < (restK s t cs s.rules.length).length := by omega
      have h4 := nn_get.1 (h2 _ (List.getElem_mem hc3)) j
      have e1 : (restK s t cs s.rules.length).getD c [] = (restK s t cs s.rules.length)[c] := getD_get hc3
      rw [e1] at h3
      omega
  · rintro ⟨h1, h2⟩
    refine ⟨fun i h h3 pos => Classical.byContradiction fun a => ?_, fun b hb => ?_⟩
    · have := h1 i h a
      rw [getD_get h3] at this; omega
    · obtain ⟨c, hcl, rfl⟩ := List.getElem_of_mem hb
      refine nn_get.2 fun j => ?_
      have h3 := restK_lin hv ht hc (c := c) (by omega) j _ (Nat.le_refl _)
      rw [getD_get hcl] at h3
      have h4 := h2 c (by omega) j
      omega
theorem within_get {a b : List Int} (hl : a.length = b.length) : Within a b ↔ ∀ j, a.getD j 0 ≤ b.getD j 0 := by
  constructor
  · intro h j
    by_cases q : j < a.length
    · rw [getD_get q, getD_get (by omega)]; exact h j q (by omega)
    · rw [List.getD_eq_getElem?_getD, List.getD_eq_getElem?_getD, List.getElem?_eq_none (by omega), List.getElem?_eq_none (by omega)]; exact Int.le_refl _
  · intro h j h1 h2
    have := h j
    rwa [getD_get h1, getD_get h2] at this
theorem sumF_set : ∀ (l : List Int) (i : Nat) (v : Int), i < l.length → sumF (fun x => x) (l.set i v) = sumF (fun x => x) l - l.getD i 0 + v
  | [], i, v, h => absurd h (Nat.not_lt_zero _)
  | x :: l, 0, v, _ => by simp [sumF]; omega
  | x :: l, i + 1, v, h => by
    have ih := sumF_set l i v (by simpa using h)
    simp only [List.set_cons_succ, sumF, ih, List.getD_cons_succ]; omega
/-- Where something can still be added, it is added. -/
theorem ch_more {s : System} {t : State} {cs : List Int} (hv : s.Ok) (ht : s.StateOk t) (hc : Cnts s cs) (h : Ch s t cs) {i : Nat} (hi : i < s.rules.length) (ha : App s t s.rules[i]) (hw : Within s.rules[i].need ((restK s t cs s.rules.length).getD s.rules[i].cell.toNat [])) :
    Cnts s (cs.set i (cs.getD i 0 + 1)) ∧ Ch s t (cs.set i (cs.getD i 0 + 1)) := by
  have hn := hc.2
  have hl := ht.2.1
  have c0 : ∀ k, 0 ≤ cs.getD k 0 := nn_get.1 fun x hx => (hc.1 x hx).1
  have hcc := (hv.2.2 i hi).1.1
  have hcl : s.rules[i].cell.toNat < t.bags.length := by omega
  have np := need_prt hv hi
  have ln := rest_len hv ht hc (Nat.le_refl _) hcl
  have hw2 := (within_get (by rw [np.1.1.1, ln])).1 hw
  have hw3 : ∀ j, s.rules[i].need.getD j 0 ≤ (t.bags.getD s.rules[i].cell.toNat []).getD j 0 - lin s cs s.rules[i].cell.toNat j s.rules.length := fun j => by
    rw [← restK_lin hv ht hc hcl j _ (Nat.le_refl _)]; exact hw2 j
  have hb : ∀ j, (t.bags.getD s.rules[i].cell.toNat []).getD j 0 ≤ 1000 := fun j => by
    rw [getD_get hcl]
    have hb := (ht.2.2.2.2 _ hcl).1.1.1
    by_cases q : j < t.bags[s.rules[i].cell.toNat].length
    · rw [getD_get q]; exact (hb _ (List.getElem_mem q)).2
    · rw [List.getD_eq_getElem?_getD, List.getElem?_eq_none (by omega)]; decide
  have hcs : Cnts s (cs.set i (cs.getD i 0 + 1)) := by
    refine ⟨fun x hx => ?_, by rw [List.length_set]; exact hn⟩
    rcases List.mem_or_eq_of_mem_set hx with q | q
    · exact hc.1 x q
    · subst q
      obtain ⟨j, hj⟩ := tot_pos np.prt.2 np.2
      have h1 := lin_one hv c0 j hi
      have h2 := hw3 j
      have h3 := hb j
      have h4 := c0 i
      have h5 : cs.getD i 0 ≤ s.rules[i].need.getD j 0 * cs.getD i 0 := by
        have := Int.mul_le_mul_of_nonneg_right (show 1 ≤ s.rules[i].need.getD j 0 by omega) h4
        rwa [Int.one_mul] at this
      exact ⟨by omega, by omega⟩
  obtain ⟨q1, q2⟩ := (ch_lin hv ht hc).1 h
  refine ⟨hcs, (ch_lin hv ht hcs).2 ⟨fun k hk a => ?_, fun c hc2 j => ?_⟩⟩
  · have : i ≠ k := fun e => by subst e; exact a ha
    rw [getD_ne this]; exact q1 k hk a
  · rw [lin_add hi (by omega)]
    by_cases z : s.rules[i].cell.toNat = c
    · rw [if_pos ⟨hi, z⟩]
      have := hw3 j
      rw [z] at this; omega
    · rw [if_neg (fun q => z q.2)]
      have := q2 c hc2 j; omega
theorem cnt_sum {s : System} {cs : List Int} (hv : s.Ok) (hc : Cnts s cs) : sumF (fun x => x) cs ≤ 16000 := by
  have h16 := hv.2.1
  have hn := hc.2
  have := sumF_take (fun x : Int => x) cs hc.1 cs.length (Nat.le_refl _)
  rw [List.take_length] at this
  omega
theorem most_above {s : System} {t : State} (hv : s.Ok) (ht : s.StateOk t) : ∀ (m : Nat) (cs : List Int), Cnts s cs → Ch s t cs → 16000 - sumF (fun x => x) cs ≤ (m : Int) → ∃ ms, Cnts s ms ∧ Most s t ms ∧ ∀ i, cs.getD i 0 ≤ ms.getD i 0
  | m, cs, hc, h, hm => by
    by_cases q : Most s t cs
    · exact ⟨cs, hc, q, fun _ => Int.le_refl _⟩
    · have : ∃ i, ∃ hi : i < s.rules.length, App s t s.rules[i] ∧ Within s.rules[i].need ((restK s t cs s.rules.length).getD s.rules[i].cell.toNat []) := Classical.byContradiction fun r =>
        q ⟨h, fun i hi ha hw => r ⟨i, hi, ha, hw⟩⟩
      obtain ⟨i, hi, ha, hw⟩ := this
      obtain ⟨c2, h2⟩ := ch_more hv ht hc h hi ha hw
      have hn := hc.2
      have es := sumF_set cs i (cs.getD i 0 + 1) (by omega)
      have b2 := cnt_sum hv c2
      cases m with
      | zero => exfalso; omega
      | succ m =>
        obtain ⟨ms, m1, m2, m3⟩ := most_above hv ht m _ c2 h2 (by omega)
        refine ⟨ms, m1, m2, fun k => ?_⟩
        have := m3 k
        by_cases e : i = k
        · subst e; rw [getD_self (by omega)] at this; omega
        · rw [getD_ne e] at this; exact this
theorem ch_none {s : System} {t : State} (hv : s.Ok) (ht : s.StateOk t) : Cnts s (List.replicate s.rules.length 0) ∧ Ch s t (List.replicate s.rules.length 0) := by
  have hc : Cnts s (List.replicate s.rules.length 0) := ⟨fun x hx => by rw [List.eq_of_mem_replicate hx]; decide, by simp⟩
  have g0 : ∀ i, (List.replicate s.rules.length (0 : Int)).getD i 0 = 0 := fun i => by
    by_cases q : i < s.rules.length
    · rw [getD_get (by simpa using q)]; simp
    · rw [List.getD_eq_getElem?_getD, List.getElem?_eq_none (by simp; omega)]; rfl
  refine ⟨hc, (ch_lin hv ht hc).2 ⟨fun i _ _ => g0 i, fun c hcl j => ?_⟩⟩
  have z : ∀ k, lin s (List.replicate s.rules.length 0) c j k = 0 := fun k => by
    induction k with
    | zero => rfl
    | succ k ih => rw [lin, ih, g0, Int.mul_zero]; simp
  rw [z, getD_get hcl]
  exact nn_get.1 (fun x hx => ((ht.2.2.2.2 c hcl).1.1.1 x hx).1) j
/-- In each cell there is a packing. -/
theorem pkC_some {s : System} {t : State} (hv : s.Ok) (ht : s.StateOk t) {c : Nat} (hcl : c < s.parents.length) (hne : ndC s t c ≠ []) : 1 ≤ cN s t c := by
  obtain ⟨h1, h2⟩ := ch_none hv ht
  obtain ⟨ms, m1, m2, _⟩ := most_above hv ht 16000 _ h1 h2 (by
    have : sumF (fun x : Int => x) (List.replicate s.rules.length 0) = 0 := by
      have : ∀ n, sumF (fun x : Int => x) (List.replicate n 0) = 0 := fun n => by
        induction n with
        | zero => rfl
        | succ n ih => rw [List.replicate_succ]; simp only [sumF]; rw [ih]; rfl
      exact this _
    omega)
  have := ((most_iff hv ht m1).1 m2).2 c hcl hne
  rw [← pkC_len]
  exact List.length_pos_of_mem this
theorem fcX_bnd {s : System} {t : State} (hv : s.Ok) (ht : s.StateOk t) {k : Nat} (hk : k < s.rules.length) : 0 ≤ fcX s t k ∧ fcX s t k ≤ 1000 := by
  unfold fcX
  split
  · have hcl := fc_cell hv ht (fcK_ok hv ht k) hk
    have tm := fc_tm hv (fcK_ok hv ht k) hk hcl
    rw [getD_get hk, getD_get hcl]
    exact tms_bnd tm
  · omega
theorem fc_cnts {s : System} {t : State} (hv : s.Ok) (ht : s.StateOk t) : Cnts s (fcK s t s.rules.length).1 := by
  have o := (fcK_ok hv ht s.rules.length).o
  refine ⟨fun x hx => ?_, by omega⟩
  obtain ⟨i, hi, rfl⟩ := List.getElem_of_mem hx
  have h1 := fcX_stay hv ht (k := i) s.rules.length (Nat.le_refl _) (by omega)
  rw [getD_get hi] at h1
  rw [h1]; exact fcX_bnd hv ht (by omega)
theorem fc_rest {s : System} {t : State} (hv : s.Ok) (ht : s.StateOk t) : ∀ k, k ≤ s.rules.length → restK s t (fcK s t s.rules.length).1 k = (fcK s t k).2
  | 0, _ => rfl
  | k + 1, hk => by
    have hk' : k < s.rules.length := by omega
    have ih := fc_rest hv ht k (by omega)
    have gd : s.rules.getD k default = s.rules[k] := getD_get hk'
    have st := fcX_stay hv ht (k := k) s.rules.length (Nat.le_refl _) hk'
    by_cases ha : App s t s.rules[k]
    · have ex : fcX s t k = tms s.rules[k].need ((fcK s t k).2.getD s.rules[k].cell.toNat []) := by
        unfold fcX; rw [if_pos ⟨hk', ha⟩, gd]
      rw [restK, gd, st, ih, ex, fc_y hv ht hk' rfl ha]
    · have ex : fcX s t k = 0 := by unfold fcX; rw [if_neg (fun ⟨_, q⟩ => ha q)]
      have hc := fc_cnts hv ht
      have o := (fcK_ok hv ht s.rules.length).o
      rw [restK_zero hv ht hc hk' (by omega) (by rw [← getD_get (d := 0) (by omega), st, ex]), ih, fc_n hk' rfl ha]
/-- The first choice is maximal. -/
theorem fc_most {s : System} {t : State} (hv : s.Ok) (ht : s.StateOk t) : Most s t (fcK s t s.rules.length).1 := by
  have hc := fc_cnts hv ht
  have o := (fcK_ok hv ht s.rules.length).o
  have hl := ht.2.1
  have c0 : ∀ k, 0 ≤ (fcK s t s.rules.length).1.getD k 0 := nn_get.1 fun x hx => (hc.1 x hx).1
  refine ⟨⟨fun i h h2 pos => Classical.byContradiction fun a => ?_, fun b hb => ?_⟩, fun i hi ha hw => ?_⟩
  · have st := fcX_stay hv ht (k := i) s.rules.length (Nat.le_refl _) h
    have ex : fcX s t i = 0 := by unfold fcX; rw [if_neg (fun ⟨_, q⟩ => a q)]
    rw [getD_get h2] at st
    omega
  · rw [fc_rest hv ht _ (Nat.le_refl _)] at hb
    exact fun x hx => (((fcK_ok hv ht s.rules.length).b b hb).2 x hx).1
  · have hcc := (hv.2.2 i hi).1.1
    have hcl : s.rules[i].cell.toNat < t.bags.length := by omega
    have np := need_prt hv hi
    have ln := rest_len hv ht hc (Nat.le_refl _) hcl
    have hw2 := (within_get (by rw [np.1.1.1, ln])).1 hw
    have ok := fcK_ok hv ht i
    have hcl2 := fc_cell hv ht ok hi
    have bg : Bgk s.kinds.toNat ((fcK s t i).2.getD s.rules[i].cell.toNat []) := by
      rw [getD_get hcl2]
      have := ok.b _ (List.getElem_mem hcl2)
      have k8 := hv.1.1
      exact ⟨⟨by omega, by omega, by omega⟩, this.2⟩
    have st := fcX_stay hv ht (k := i) s.rules.length (Nat.le_refl _) hi
    have gd : s.rules.getD i default = s.rules[i] := getD_get hi
    have ex : fcX s t i = tms s.rules[i].need ((fcK s t i).2.getD s.rules[i].cell.toNat []) := by
      unfold fcX; rw [if_pos ⟨hi, ha⟩, gd]
    have tb := np.tb bg
    have key : tms s.rules[i].need ((fcK s t i).2.getD s.rules[i].cell.toNat []) + 1 ≤ tms s.rules[i].need ((fcK s t i).2.getD s.rules[i].cell.toNat []) := by
      refine le_tms np bg (by omega) fun j => ?_
      rw [plusL_get (by rw [bg.1.1, np.1.1.1])]
      have h1 := hw2 j
      rw [restK_lin hv ht hc hcl j _ (Nat.le_refl _)] at h1
      have h2 := lin_mono hv c0 s.rules[i].cell.toNat j s.rules.length (i + 1) (by omega) (Nat.le_refl _)
      have h3 := restK_lin hv ht hc hcl j i (by omega)
      rw [fc_rest hv ht i (by omega)] at h3
      rw [lin, gd, if_pos rfl, st, ex] at h2
      rw [h3, Int.mul_sub, Int.mul_zero, Int.mul_add, Int.mul_one]
      omega
    omega
end Go.Proofs.YtkfmjjoalkoncaaGreat

/-
  The data of the laws' theme 7, as structures, and the helpers of the laws over them: sizes, copies, comparisons. No condition but that the sizes are at most 1048576.
-/
namespace Go.Proofs.YtkfmjjoalkoncaaGreat
open Go.AI
set_option maxRecDepth 8000

structure Cnf where
  vars : Int
  clauses : List (List Int)
  deriving DecidableEq, Inhabited
/-- What its size tells of it. -/
structure OkCnf (x : Cnf) : Prop where
  clauses : x.clauses.length ≤ 1048576 ∧ ∀ r ∈ x.clauses, r.length ≤ 1048576
structure Group where
  charge : Int
  contents : List Int
  count : Int
  deriving DecidableEq, Inhabited
/-- What its size tells of it. -/
structure OkGroup (x : Group) : Prop where
  contents : x.contents.length ≤ 1048576
structure Colony where
  skin : List Int
  groups : List Group
  deriving DecidableEq, Inhabited
/-- What its size tells of it. -/
structure OkColony (x : Colony) : Prop where
  skin : x.skin.length ≤ 1048576
  groups : x.groups.length ≤ 1048576 ∧ ∀ r ∈ x.groups, OkGroup r
structure DivRule where
  kind : Int
  charge : Int
  object : Int
  to : Int
  first : List Int
  toB : Int
  second : List Int
  deriving DecidableEq, Inhabited
/-- What its size tells of it. -/
structure OkDivRule (x : DivRule) : Prop where
  first : x.first.length ≤ 1048576
  second : x.second.length ≤ 1048576
structure Division where
  objects : Int
  rules : List DivRule
  deriving DecidableEq, Inhabited
/-- What its size tells of it. -/
structure OkDivision (x : Division) : Prop where
  rules : x.rules.length ≤ 1048576 ∧ ∀ r ∈ x.rules, OkDivRule r
end Go.Proofs.YtkfmjjoalkoncaaGreat

/-
  Library functions over lists of rules and of groups: the first element of a kind. No condition.
-/
namespace Go.Proofs.YtkfmjjoalkoncaaGreat
open Go.AI
set_option maxRecDepth 8000
set_option maxHeartbeats 1600000




end Go.Proofs.YtkfmjjoalkoncaaGreat

/-
  Dividing cells: what ValidDivision of the reference and of the program compute. No condition.
-/
namespace Go.Proofs.YtkfmjjoalkoncaaGreat
open Go.AI
set_option maxRecDepth 8000
set_option maxHeartbeats 1600000

/-- A heap of objects: they do not fall, lie within bounds, and are not too many. -/
def HeapOf (o : Int) (l : List Int) (most : Int) : Prop := (∀ i (h : i < l.length), (0 ≤ l[i] ∧ l[i] ≤ o - 1) ∧ (0 < i → l[i-1] ≤ l[i])) ∧ (l.length : Int) ≤ most


/-- A rule of dividing cells is right. -/
def DivRule.Ok (o : Int) (r : DivRule) : Prop := (1 ≤ r.kind ∧ r.kind ≤ 7) ∧ (0 ≤ r.object ∧ r.object ≤ o - 1) ∧ (-1 ≤ r.charge ∧ r.charge ≤ 1) ∧ (-1 ≤ r.to ∧ r.to ≤ 1) ∧ (-1 ≤ r.toB ∧ r.toB ≤ 1) ∧ HeapOf o r.first 16 ∧ HeapOf o r.second 16 ∧
  (r.kind = 2 → r.charge = 0) ∧ ((r.kind ≤ 2 ∨ r.kind = 7) → r.to = 0) ∧ (r.kind = 6 ∨ r.toB = 0 ∧ (r.second.length : Int) = 0)
end Go.Proofs.YtkfmjjoalkoncaaGreat

/-
  Colonies: what ValidColony of the reference and of the program compute. No condition.
-/
namespace Go.Proofs.YtkfmjjoalkoncaaGreat
open Go.AI
set_option maxRecDepth 8000
set_option maxHeartbeats 1600000

/-- One list is ahead of another one. -/
def less : List Int → List Int → Prop
  | [], [] => False
  | [], _ :: _ => True
  | _ :: _, [] => False
  | x :: a, y :: b => x < y ∨ (x = y ∧ less a b)
theorem less_step {a b : List Int} {k : Nat} (ha : k < a.length) (hb : k < b.length) : less (a.drop k) (b.drop k) ↔ a[k] < b[k] ∨ (a[k] = b[k] ∧ less (a.drop (k + 1)) (b.drop (k + 1))) := by
  rw [List.drop_eq_getElem_cons ha, List.drop_eq_getElem_cons hb]; exact Iff.rfl
theorem less_end {a b : List Int} {k : Nat} (h : ¬ (k < a.length ∧ k < b.length)) (h1 : k ≤ a.length) (h2 : k ≤ b.length) : less (a.drop k) (b.drop k) ↔ a.length < b.length := by
  by_cases ha : k < a.length
  · have e : b.drop k = [] := List.drop_of_length_le (by omega)
    rw [List.drop_eq_getElem_cons ha, e]
    exact ⟨fun q => by simp [less] at q, fun q => by omega⟩
  · have e : a.drop k = [] := List.drop_of_length_le (by omega)
    rw [e]
    by_cases hb : k < b.length
    · rw [List.drop_eq_getElem_cons hb]
      exact ⟨fun _ => by omega, fun _ => trivial⟩
    · rw [List.drop_of_length_le (by omega)]
      exact ⟨fun q => by simp [less] at q, fun q => by omega⟩


open Classical in
noncomputable def cmp3 (p q : Prop) : Int := if p then -1 else if q then 1 else 0
def Before (a b : Group) : Prop := a.charge < b.charge ∨ (a.charge = b.charge ∧ less a.contents b.contents)



theorem sumF_nn {α : Type} (f : α → Int) : ∀ (l : List α), (∀ x ∈ l, 0 ≤ f x) → 0 ≤ sumF f l
  | [], _ => by simp [sumF]
  | x :: l, h => by
    have h1 := h x (by simp)
    have h2 := sumF_nn f l (fun y hy => h y (by simp [hy]))
    simp only [sumF]; omega
/-- A colony is right for a system of so many objects. -/
def Colony.Ok (o : Int) (c : Colony) : Prop := HeapOf o c.skin 300 ∧ c.groups.length ≤ 200 ∧
  (∀ i (h : i < c.groups.length), ((-1 ≤ c.groups[i].charge ∧ c.groups[i].charge ≤ 1) ∧ HeapOf o c.groups[i].contents 60 ∧ 1 ≤ c.groups[i].count) ∧ (0 < i → Before c.groups[i-1] c.groups[i])) ∧ sumF Group.count c.groups ≤ 5000
end Go.Proofs.YtkfmjjoalkoncaaGreat

/-
  All maximal choices, plain: in order; how many there are. No condition.
-/
namespace Go.Proofs.YtkfmjjoalkoncaaGreat
open Go.AI
set_option maxRecDepth 8000
set_option maxHeartbeats 1600000

theorem lss_asym : ∀ {a b : List Int}, less a b → ¬ less b a
  | [], [], h => fun _ => h
  | [], _ :: _, _ => fun h => h
  | _ :: _, [], h => fun _ => h
  | x :: a, y :: b, h => fun q => by
    simp only [less] at h q
    rcases h with h | ⟨e, h⟩
    · rcases q with q | ⟨e2, _⟩
      · omega
      · omega
    · rcases q with q | ⟨_, q⟩
      · omega
      · exact lss_asym h q
theorem lss_neg : ∀ {a b c : List Int}, less a c → less a b ∨ less b c
  | [], [], [], h => .inl h
  | [], [], _ :: _, _ => .inr trivial
  | [], _ :: _, [], h => absurd h (by simp [less])
  | [], _ :: _, _ :: _, _ => .inl trivial
  | _ :: _, _, [], h => absurd h (by simp [less])
  | _ :: _, [], _ :: _, _ => .inr trivial
  | x :: a, y :: b, z :: c, h => by
    simp only [less] at h ⊢
    rcases h with h | ⟨e, h⟩
    · by_cases q : x < y
      · exact .inl (.inl q)
      · exact .inr (.inl (by omega))
    · by_cases q : x < y
      · exact .inl (.inl q)
      · by_cases r : y < z
        · exact .inr (.inl r)
        · have e1 : x = y := by omega
          rcases lss_neg (b := b) h with p | p
          · exact .inl (.inr ⟨e1, p⟩)
          · exact .inr (.inr ⟨by omega, p⟩)
theorem lss_tri : ∀ {a b : List Int}, ¬ less a b → ¬ less b a → a = b
  | [], [], _, _ => rfl
  | [], _ :: _, h, _ => absurd h (by simp [less])
  | _ :: _, [], _, h => absurd h (by simp [less])
  | x :: a, y :: b, h, q => by
    simp only [less, not_or, not_and] at h q
    have e : x = y := by omega
    rw [e, lss_tri (h.2 e) (q.2 e.symm)]
noncomputable def sortR (l : List (List Int)) : List (List Int) := l.mergeSort fun x y => dec (¬ less y x)
theorem sortR_perm (l : List (List Int)) : (sortR l).Perm l := List.mergeSort_perm _ _
theorem sortR_pair (l : List (List Int)) : (sortR l).Pairwise (fun x y => ¬ less y x) := by
  have := List.pairwise_mergeSort (le := fun x y : List Int => dec (¬ less y x)) (fun a b c h1 h2 => dec_t fun q => (lss_neg (b := b) q).elim (dec_iff.1 h2) (dec_iff.1 h1)) (fun a b => by
    by_cases q : less b a
    · rw [dec_t (lss_asym q)]; simp
    · rw [dec_t q]; rfl) l
  exact this.imp fun h => dec_iff.1 h
theorem sortR_uniq {l k : List (List Int)} (p : k.Perm l) (s : k.Pairwise (fun x y => ¬ less y x)) : k = sortR l :=
  List.Perm.eq_of_pairwise (le := fun a b : List Int => ¬ less b a) (fun a b _ _ h1 h2 => lss_tri h2 h1) s (sortR_pair l) (p.trans (sortR_perm l).symm)
theorem sortR_strict {l : List (List Int)} (h : l.Nodup) : (sortR l).Pairwise less := by
  have h2 : (sortR l).Nodup := (sortR_perm l).nodup_iff.2 h
  refine List.Pairwise.imp (fun {a b} q => ?_) (List.Pairwise.and h2 (sortR_pair l))
  exact Classical.byContradiction fun r => q.1 (lss_tri r q.2)

/-! ### How many there are -/
def prN (L : List Nat) : Nat := L.foldl (· * ·) 1
theorem prN_snoc (L : List Nat) (x : Nat) : prN (L ++ [x]) = prN L * x := by unfold prN; rw [List.foldl_append]; rfl
theorem len_flat {α β : Type} {f : α → List β} {n : Nat} : ∀ {l : List α}, (∀ a ∈ l, (f a).length = n) → (l.flatMap f).length = l.length * n
  | [], _ => by simp
  | a :: l, h => by
    rw [List.flatMap_cons, List.length_append, h a List.mem_cons_self, len_flat fun b hb => h b (List.mem_cons_of_mem _ hb), List.length_cons, Nat.succ_mul]; omega
theorem allK_len (s : System) (t : State) : ∀ C, (allK s t C).length = prN (lensK s t C)
  | 0 => rfl
  | C + 1 => by
    have ih := allK_len s t C
    by_cases hne : ndC s t C = []
    · rw [allK, if_pos hne, lensK, if_pos hne, ih]
    · rw [allK, if_neg hne, lensK, if_neg hne, prN_snoc, ← ih]
      exact len_flat fun ch _ => by rw [List.length_map, pkC_len]
theorem lens_2 {s : System} {t : State} : ∀ k, ¬ Big2 s t k → ∀ x ∈ lensK s t k, x ≤ 2000
  | 0, _, x, hx => absurd hx List.not_mem_nil
  | k + 1, h, x, hx => by
    have hk : ¬ Big2 s t k := fun ⟨c, h1, h2⟩ => h ⟨c, by omega, h2⟩
    rw [lensK] at hx
    split at hx
    · exact lens_2 k hk x hx
    · rename_i hne
      rcases List.mem_append.1 hx with q | q
      · exact lens_2 k hk x q
      · rw [List.mem_singleton] at q; subst q
        by_cases z : cN s t k ≤ 2000
        · exact z
        · exact absurd ⟨k, by omega, hne, by omega⟩ h
theorem prodK_nat {L : List Nat} (h : ∀ x ∈ L, x ≤ 2000) (h3 : L.length ≤ 3) : ∀ k, k ≤ L.length → prodK L k = (prN (L.take k) : Int) ∧ prN (L.take k) ≤ 2000 ^ k
  | 0, _ => ⟨rfl, Nat.le_refl _⟩
  | k + 1, hk => by
    have hk' : k < L.length := by omega
    obtain ⟨i1, i2⟩ := prodK_nat h h3 k (by omega)
    have hx := h _ (List.getElem_mem hk')
    have e : prN (L.take (k + 1)) = prN (L.take k) * L[k] := by rw [List.take_succ_eq_append_getElem hk', prN_snoc]
    have b : prN (L.take k) * L[k] ≤ 2000 ^ k * 2000 := Nat.mul_le_mul i2 hx
    have b2 : 2000 ^ k * 2000 ≤ 8000000000 := by
      have : k ≤ 2 := by omega
      have := Nat.pow_le_pow_right (n := 2000) (by decide) this
      omega
    have ez : ((prN (L.take k) : Nat) : Int) * ((L[k] : Nat) : Int) = ((prN (L.take k) * L[k] : Nat) : Int) := by rw [Int.natCast_mul]
    refine ⟨?_, ?_⟩
    · rw [prodK, i1, getD_get hk', ez, e, wrapI_of (by unfold InR; omega)]
    · rw [e, Nat.pow_succ]; exact b
theorem prod_all {s : System} {t : State} (h3 : s.parents.length ≤ 3) (hB : ¬ Big2 s t s.parents.length) : prodK (lensK s t s.parents.length) (lensK s t s.parents.length).length = ((allC s t).length : Int) ∧ (allC s t).length ≤ 8000000000 := by
  have ll := lensK_len s t s.parents.length
  have := prodK_nat (lens_2 _ hB) (by omega) _ (Nat.le_refl _)
  rw [List.take_length] at this
  have b : 2000 ^ (lensK s t s.parents.length).length ≤ 8000000000 := by
    have h : (lensK s t s.parents.length).length ≤ 3 := by omega
    have := Nat.pow_le_pow_right (n := 2000) (by decide) h
    omega
  unfold allC
  rw [allK_len]
  exact ⟨this.1, Nat.le_trans this.2 b⟩
noncomputable def allS (s : System) (t : State) : List (List Int) := sortR (allC s t)
theorem allS_mem {s : System} {t : State} {cs : List Int} : cs ∈ allS s t ↔ cs ∈ allC s t := (sortR_perm _).mem_iff
theorem allS_len (s : System) (t : State) : (allS s t).length = (allC s t).length := (sortR_perm _).length_eq
theorem allS_strict {s : System} {t : State} (hv : s.Ok) (ht : s.StateOk t) : (allS s t).Pairwise less := sortR_strict (allK_nodup hv ht _ (Nat.le_refl _))
end Go.Proofs.YtkfmjjoalkoncaaGreat

/-
  All choices, cell by cell: the program. No condition.
-/
namespace Go.Proofs.YtkfmjjoalkoncaaGreat
open Go.AI
set_option maxRecDepth 8000
set_option maxHeartbeats 3200000
/-- Each choice so far, with each packing of one more cell. -/
def stepC (out : List (List Int)) (x : List Int × List (List Int)) : List (List Int) := out.flatMap fun ch => x.2.map (putC ch x.1)
def outX (n : Nat) (X : List (List Int × List (List Int))) (k : Nat) : List (List Int) := (X.take k).foldl stepC [List.replicate n 0]
theorem outX_succ {n : Nat} {X : List (List Int × List (List Int))} {k : Nat} (h : k < X.length) : outX n X (k + 1) = stepC (outX n X k) X[k] := by
  unfold outX
  rw [List.take_succ_eq_append_getElem h, List.foldl_append]; rfl
theorem stepC_len (x : List Int × List (List Int)) : ∀ out : List (List Int), (stepC out x).length = out.length * x.2.length
  | [] => by simp [stepC]
  | ch :: out => by
    have := stepC_len x out
    unfold stepC at this ⊢
    rw [List.flatMap_cons, List.length_append, this, List.length_map, List.length_cons, Nat.add_mul]; omega
theorem stepC_rows {n : Nat} {out : List (List Int)} {x : List Int × List (List Int)} (h : ∀ r ∈ out, r.length = n) : ∀ r ∈ stepC out x, r.length = n := fun r hr => by
  unfold stepC at hr
  obtain ⟨ch, h1, h2⟩ := List.mem_flatMap.1 hr
  obtain ⟨ns, _, rfl⟩ := List.mem_map.1 h2
  rw [putC_len]; exact h ch h1
theorem outX_rows (n : Nat) (X : List (List Int × List (List Int))) : ∀ k, k ≤ X.length → ∀ r ∈ outX n X k, r.length = n
  | 0, _, r, hr => by
    unfold outX at hr
    simp only [List.take_zero, List.foldl_nil, List.mem_singleton] at hr
    subst hr; simp
  | k + 1, hk, r, hr => by
    rw [outX_succ (by omega)] at hr
    exact stepC_rows (outX_rows n X k (by omega)) r hr
theorem stepC_take {out : List (List Int)} {x : List Int × List (List Int)} {j : Nat} (h : j < out.length) : stepC (out.take (j + 1)) x = stepC (out.take j) x ++ x.2.map (putC out[j] x.1) := by
  unfold stepC
  rw [List.take_succ_eq_append_getElem h, List.flatMap_append, List.flatMap_cons, List.flatMap_nil, List.append_nil]
/-- What the walk asks of a cell. -/
def CelOk (n : Nat) (x : List Int × List (List Int)) : Prop := (∀ i ∈ x.1, 0 ≤ i ∧ i.toNat < n) ∧ (∀ ns ∈ x.2, ns.length = x.1.length) ∧ x.2.length ≤ 2000 ∧ x.2 ≠ [] ∧ x.1 ≠ [] ∧ x.1.length ≤ 1000
theorem outX_mono {n : Nat} {X : List (List Int × List (List Int))} (hX : ∀ x ∈ X, CelOk n x) {k : Nat} : ∀ k', k ≤ k' → k' ≤ X.length → (outX n X k).length ≤ (outX n X k').length
  | 0, h, _ => by rw [Nat.le_zero.1 h]; exact Nat.le_refl _
  | k' + 1, h, h2 => by
    by_cases e : k = k' + 1
    · subst e; exact Nat.le_refl _
    · refine Nat.le_trans (outX_mono hX k' (by omega) (by omega)) ?_
      rw [outX_succ (by omega), stepC_len]
      have := List.length_pos_iff.2 (hX _ (List.getElem_mem (n := k') (by omega))).2.2.2.1
      exact Nat.le_mul_of_pos_right _ this
theorem allK_out (s : System) (t : State) : ∀ c, allK s t c = (cellsL s t c).foldl stepC [List.replicate s.rules.length 0]
  | 0 => rfl
  | c + 1 => by
    rw [allK, cellsL]
    split
    · exact allK_out s t c
    · rw [List.foldl_append, ← allK_out s t c]; rfl
theorem allC_out (s : System) (t : State) : allC s t = outX s.rules.length (cellsL s t s.parents.length) (cellsL s t s.parents.length).length := by
  unfold allC outX
  rw [allK_out, List.take_length]
theorem cellsL_ok {s : System} {t : State} (hv : s.Ok) (ht : s.StateOk t) : ∀ c, c ≤ s.parents.length → ¬ Big2 s t c → ∀ x ∈ cellsL s t c, CelOk s.rules.length x
  | 0, _, _, x, hx => absurd hx List.not_mem_nil
  | c + 1, hc, hb, x, hx => by
    have hl := ht.2.1
    have ih := cellsL_ok hv ht c (by omega) (fun ⟨d, h1, h2⟩ => hb ⟨d, by omega, h2⟩)
    rw [cellsL] at hx
    split at hx
    · exact ih x hx
    · rename_i hne
      rcases List.mem_append.1 hx with q | q
      · exact ih x q
      · rw [List.mem_singleton] at q
        subst q
        have hcn : cN s t c ≤ 2000 := Classical.byContradiction fun q => hb ⟨c, by omega, hne, by omega⟩
        have cl := cIx_len s t (c : Int) s.rules.length
        have h16 := hv.2.1
        refine ⟨fun i hi => ?_, fun ns hns => ((pkC_mem hv ht (by omega) ns).1 hns).1, by dsimp only; rw [pkC_len]; omega, fun q => ?_, fun q => ?_, by dsimp only; omega⟩
        · obtain ⟨k, rfl, h1, h2, _⟩ := cIx_at _ _ hi
          exact ⟨by omega, by omega⟩
        · dsimp only at q
          have := pkC_some hv ht (c := c) (by omega) hne
          have e := pkC_len s t c
          rw [q, List.length_nil] at e
          omega
        · dsimp only at q
          refine hne (List.eq_nil_of_length_eq_zero ?_)
          unfold ndC
          rw [cl.2, q]; rfl
end Go.Proofs.YtkfmjjoalkoncaaGreat

/-
  Sorted lists: slices.Collect over slices.Values, and slices.Sort, as calls over data. No condition.
-/
namespace Go.Proofs.YtkfmjjoalkoncaaGreat
open Go.AI Go.RowKit
set_option maxRecDepth 8000
set_option maxHeartbeats 1600000

/-- A block is written. -/
theorem chg_write {F : Heap} {w w' : World} {b T room : Nat} {cs cs' : List A} {vs rest : List Value} (H : HeapOk (⟨some b, T, room, cs⟩ :: F) w) (hg : w.grownBy w' (some b)) (hw : w'.heap[b]? = some (.cells (vs ++ rest).toArray T (0, 0))) (hr : RelL (Im w (⟨some b, T, room, cs⟩ :: F)) w cs' vs) (hroom : room = (vs ++ rest).length) :
    Chg (⟨some b, T, room, cs⟩ :: F) (⟨some b, T, room, cs'⟩ :: F) w w' := by
  obtain ⟨g1, g2, g3, g4, g5⟩ := hg
  have hk : keys (⟨some b, T, room, cs⟩ :: F) = b :: keys F := by simp [keys]
  have hk' : keys (⟨some b, T, room, cs'⟩ :: F) = b :: keys F := by simp [keys]
  have im : ∀ k, Im w (⟨some b, T, room, cs⟩ :: F) k → Im w' (⟨some b, T, room, cs'⟩ :: F) k ∧ w'.heap[k]? = w.heap[k]? := fun k hb =>
    ⟨⟨Nat.lt_of_lt_of_le hb.1 g4, by rw [hk', ← hk]; exact hb.2⟩, g5 k hb.1 (fun e => hb.2 (by rw [hk]; cases e; exact List.mem_cons_self))⟩
  have nd := H.nodup
  rw [hk, List.nodup_cons] at nd
  refine ⟨g1, g2, g3, g4, fun k h1 h2 => g5 k h1 (fun e => h2 (by rw [hk]; cases e; exact List.mem_cons_self)), fun k h1 => .inl (by rw [hk]; rw [hk'] at h1; exact h1), ⟨by rw [hk', List.nodup_cons]; exact nd, fun k h1 => ?_, H.tab.stab im⟩⟩
  rcases List.mem_cons.1 h1 with rfl | h1
  · exact ⟨vs, rest, hw, hr.stab im, hroom⟩
  · exact (H.blk k (List.mem_cons_of_mem _ h1)).stab im fun c hc => g5 c (H.lt (mem_keys (List.mem_cons_of_mem _ h1) hc)) (fun e => nd.1 (by cases e; exact mem_keys h1 hc))
end Go.Proofs.YtkfmjjoalkoncaaGreat
