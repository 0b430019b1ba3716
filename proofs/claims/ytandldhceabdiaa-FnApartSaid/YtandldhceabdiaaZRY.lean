/-
  Cells choose apart: plain facts on the rules of one cell alone. No condition.
-/
import Derived.Test.YtandldhceabdiaaZS5l
import Derived.Test.YtandldhceabdiaaZDJ
import Derived.Test.YtandldhceabdiaaZFE
import Derived.Test.YtandldhceabdiaaZG2
import Derived.KernelRfl
namespace Go.Proofs.Ytandldhceabdiaa
open Go.AI
set_option maxRecDepth 8000
set_option maxHeartbeats 1600000

/-- A system with the rules of one cell alone. -/
def partL (c : Int) (rs : List Rule) : List Rule := rs.filter (fun r => decide (r.cell = c))
def System.only (s : System) (c : Int) : System := ⟨s.kinds, s.parents, partL c s.rules⟩
theorem partL_y {c : Int} {rs : List Rule} {k : Nat} (hk : k < rs.length) (h : rs[k].cell = c) : partL c (rs.take (k + 1)) = partL c (rs.take k) ++ [rs[k]] := by
  unfold partL
  rw [List.take_succ_eq_append_getElem hk, List.filter_append, List.filter_cons, if_pos (decide_eq_true h), List.filter_nil]
theorem partL_n {c : Int} {rs : List Rule} {k : Nat} (hk : k < rs.length) (h : ¬ rs[k].cell = c) : partL c (rs.take (k + 1)) = partL c (rs.take k) := by
  unfold partL
  rw [List.take_succ_eq_append_getElem hk, List.filter_append, List.filter_cons, if_neg (by rw [decide_eq_false h]; exact Bool.false_ne_true), List.filter_nil, List.append_nil]
theorem partL_split {c : Int} {rs : List Rule} {k : Nat} (hk : k < rs.length) (h : rs[k].cell = c) : partL c rs = partL c (rs.take k) ++ rs[k] :: partL c (rs.drop (k + 1)) := by
  conv => lhs; rw [← List.take_append_drop (k + 1) rs]
  unfold partL
  rw [List.filter_append]
  have := partL_y hk h
  unfold partL at this
  rw [this, List.append_assoc]; rfl
theorem partL_lt {c : Int} {rs : List Rule} {k : Nat} (hk : k < rs.length) (h : rs[k].cell = c) : (partL c (rs.take k)).length < (partL c rs).length := by
  rw [partL_split hk h, List.length_append, List.length_cons]; omega
theorem partL_at {c : Int} {rs : List Rule} {k : Nat} (hk : k < rs.length) (h : rs[k].cell = c) (h2 : (partL c (rs.take k)).length < (partL c rs).length) : (partL c rs)[(partL c (rs.take k)).length] = rs[k] := by
  have e : (partL c rs)[(partL c (rs.take k)).length]? = some rs[k] := by
    conv => lhs; arg 1; rw [partL_split hk h]
    rw [List.getElem?_append_right (Nat.le_refl _), Nat.sub_self]; rfl
  rw [List.getElem?_eq_getElem h2] at e
  exact Option.some.inj e
theorem partL_cell {c : Int} {rs : List Rule} {r : Rule} (h : r ∈ partL c rs) : r ∈ rs ∧ r.cell = c := by
  have := List.mem_filter.1 h
  exact ⟨this.1, of_decide_eq_true this.2⟩
theorem cntR_all {s : System} (hv : s.Ok) (c : Int) : ∀ k, k ≤ s.rules.length → cntR c (s.rules.take k) ≤ 8
  | 0, _ => by simp [cntR, sumF]
  | k + 1, hk => by
    by_cases e : s.rules[k].cell = c
    · have := (hv.2.2 k hk).2
      rw [e] at this; exact this
    · rw [cntR_succ (by omega), one_f e]
      have := cntR_all hv c k (by omega)
      omega
theorem cntR_len (c : Int) : ∀ rs : List Rule, (∀ r ∈ rs, r.cell = c) → cntR c rs = rs.length
  | [], _ => rfl
  | r :: rs, h => by
    have ih := cntR_len c rs (fun x hx => h x (by simp [hx]))
    unfold cntR at *
    rw [sumF, ih, one_t (h r (by simp)), List.length_cons]; omega
theorem cntR_part (c : Int) : ∀ rs : List Rule, cntR c (partL c rs) = cntR c rs
  | [] => rfl
  | r :: rs => by
    have ih := cntR_part c rs
    unfold partL at *
    rw [List.filter_cons]
    unfold cntR at *
    split
    · rw [sumF, sumF, ih]
    · rename_i h
      rw [sumF, ih, one_f (fun q => h (decide_eq_true q))]; omega
theorem only_ok {s : System} (hv : s.Ok) (c : Int) : (s.only c).Ok := by
  have hl : (partL c s.rules).length ≤ s.rules.length := List.length_filter_le _ _
  refine ⟨hv.1, Nat.le_trans hl hv.2.1, fun i h => ?_⟩
  have hm : (partL c s.rules)[i]'h ∈ partL c s.rules := List.getElem_mem _
  obtain ⟨h1, h2⟩ := partL_cell hm
  obtain ⟨j, hj, e⟩ := List.getElem_of_mem h1
  have hr := (hv.2.2 j hj).1
  rw [e] at hr
  refine ⟨hr, ?_⟩
  change cntR ((partL c s.rules)[i]'h).cell ((partL c s.rules).take (i + 1)) ≤ 8
  rw [h2, cntR_len c _ (fun r hr => (partL_cell (List.mem_of_mem_take hr)).2)]
  have q1 := cntR_part c s.rules
  rw [cntR_len c (partL c s.rules) (fun r hr => (partL_cell hr).2)] at q1
  have q2 := cntR_all hv c s.rules.length (Nat.le_refl _)
  rw [List.take_length] at q2
  rw [List.length_take]; omega
theorem only_state {s : System} {t : State} (ht : s.StateOk t) (c : Int) : (s.only c).StateOk t := ht
theorem app_only {s : System} {t : State} {c : Int} {r : Rule} (hc : r.cell = c) : App (s.only c) t r ↔ App s t r :=
  ⟨fun ⟨h1, h2⟩ => ⟨h1, fun x hx he hxc => h2 x (List.mem_filter.2 ⟨hx, decide_eq_true (hxc.trans hc)⟩) he hxc⟩, fun ⟨h1, h2⟩ => ⟨h1, fun x hx => h2 x (List.mem_filter.1 hx).1⟩⟩
theorem nd_same {s : System} {t : State} {c : Int} : ∀ k, k ≤ s.rules.length → cNd (s.only c) t c (partL c (s.rules.take k)).length = cNd s t c k
  | 0, _ => rfl
  | k + 1, hk => by
    have ih := nd_same (s := s) (t := t) (c := c) k (by omega)
    by_cases e : s.rules[k].cell = c
    · have h1 := partL_lt (c := c) hk e
      have h2 := partL_at hk e h1
      rw [partL_y hk e, List.length_append, List.length_singleton]
      have h3 : (s.only c).rules[(partL c (s.rules.take k)).length]'h1 = s.rules[k] := h2
      by_cases ha : App s t s.rules[k]
      · rw [(cIx_y (s := s.only c) (t := t) (c := c) (k := (partL c (s.rules.take k)).length) h1 (by rw [h3]; exact ⟨(app_only e).2 ha, e⟩)).2, h3, ih, (cIx_y (k := k) hk ⟨ha, e⟩).2]
      · rw [(cIx_n (s := s.only c) (t := t) (c := c) (k := (partL c (s.rules.take k)).length) h1 (by rw [h3]; exact fun q => ha ((app_only e).1 q.1))).2, ih, (cIx_n (k := k) hk (fun q => ha q.1)).2]
    · rw [partL_n hk e, ih, (cIx_n (k := k) hk (fun q => e q.2)).2]
theorem nd_none {s : System} {t : State} {c d : Int} (h : d ≠ c) : ∀ k, cNd (s.only c) t d k = []
  | 0 => rfl
  | k + 1 => by
    have ih := nd_none (s := s) (t := t) h k
    rw [cNd, if_neg (fun ⟨q, _, e⟩ => h (e.symm.trans (partL_cell (List.getElem_mem q)).2)), ih]
theorem ndC_same (s : System) (t : State) (c : Nat) : ndC (s.only (c : Int)) t c = ndC s t c := by
  have := nd_same (s := s) (t := t) (c := (c : Int)) s.rules.length (Nat.le_refl _)
  rw [List.take_length] at this
  exact this
theorem ndC_none (s : System) (t : State) {c d : Nat} (h : d ≠ c) : ndC (s.only (c : Int)) t d = [] := nd_none (by omega) _
theorem cN_same (s : System) (t : State) (c : Nat) : cN (s.only (c : Int)) t c = cN s t c := by unfold cN; rw [ndC_same]
theorem only_big {s : System} {t : State} {c : Nat} {k : Nat} (h : ¬ (Big16 s t k ∨ Big2 s t k)) : ¬ (Big16 (s.only (c : Int)) t k ∨ Big2 (s.only (c : Int)) t k) := by
  rintro (⟨d, h1, h2, h3⟩ | ⟨d, h1, h2, h3⟩)
  · by_cases e : d = c
    · subst e; rw [ndC_same] at h2; exact h (.inl ⟨d, h1, h2, h3⟩)
    · exact h2 (ndC_none s t e)
  · by_cases e : d = c
    · subst e; rw [ndC_same] at h2; rw [cN_same] at h3; exact h (.inr ⟨d, h1, h2, h3⟩)
    · exact h2 (ndC_none s t e)
theorem lens_only (s : System) (t : State) (c : Nat) : ∀ k, lensK (s.only (c : Int)) t k = if k ≤ c then [] else if ndC s t c = [] then [] else [cN s t c]
  | 0 => by rw [if_pos (Nat.zero_le _)]; rfl
  | k + 1 => by
    have ih := lens_only s t c k
    rw [lensK]
    by_cases e : k = c
    · subst e
      rw [ndC_same, cN_same, ih, if_pos (Nat.le_refl _), if_neg (show ¬ k + 1 ≤ k by omega)]
      rfl
    · rw [if_pos (ndC_none s t e), ih]
      by_cases q : k ≤ c
      · rw [if_pos q, if_pos (show k + 1 ≤ c by omega)]
      · rw [if_neg q, if_neg (show ¬ k + 1 ≤ c by omega)]
theorem prodK_le (L : List Nat) (x : Nat) : ∀ k, k ≤ L.length → prodK (L ++ [x]) k = prodK L k
  | 0, _ => rfl
  | k + 1, h => by
    rw [prodK, prodK, prodK_le L x k (by omega)]
    simp only [List.getD_eq_getElem?_getD]
    rw [List.getElem?_append_left (by omega)]
theorem prodK_snoc (L : List Nat) (x : Nat) : prodK (L ++ [x]) (L ++ [x]).length = wrapI (prodK L L.length * (x : Nat)) := by
  rw [List.length_append, List.length_singleton, prodK, prodK_le L x _ (Nat.le_refl _)]
  congr 2
  simp
theorem prodK_in (L : List Nat) : ∀ k, InR (prodK L k)
  | 0 => by unfold prodK InR; omega
  | k + 1 => by rw [prodK]; exact wrapI_in _
/-- The product of what the first c cells have. -/
noncomputable def prA (s : System) (t : State) (c : Nat) : Int := prodK (lensK s t c) (lensK s t c).length
theorem cnt_only {s : System} {t : State} (hv : s.Ok) (ht : s.StateOk t) (hB : ¬ (Big16 s t s.parents.length ∨ Big2 s t s.parents.length)) {c : Nat} (hc : c < s.parents.length) :
    cchR (s.only (c : Int)) t = (if ndC s t c = [] then 1 else (cN s t c : Int)) ∧ cchC (s.only (c : Int)) t = 0 := by
  have h := cnt_t ⟨only_ok hv (c : Int), only_state ht (c : Int)⟩ (only_big (c := c) hB)
  refine ⟨?_, h.2⟩
  rw [h.1]
  have e : lensK (s.only (c : Int)) t (s.only (c : Int)).parents.length = if ndC s t c = [] then [] else [cN s t c] := by
    rw [lens_only]
    exact if_neg (show ¬ s.parents.length ≤ c by omega)
  rw [e]
  by_cases q : ndC s t c = []
  · rw [if_pos q, if_pos q]; rfl
  · rw [if_neg q, if_neg q]
    have e2 := prodK_snoc [] (cN s t c)
    simp only [List.nil_append] at e2
    rw [e2]
    have hn : cN s t c ≤ 2000 := by
      by_cases z : cN s t c ≤ 2000
      · exact z
      · exact absurd (.inr ⟨c, hc, q, by omega⟩) hB
    have : prodK [] ([] : List Nat).length * ((cN s t c : Nat) : Int) = (cN s t c : Int) := by
      change 1 * ((cN s t c : Nat) : Int) = _
      omega
    rw [this]
    exact wrapI_of (by unfold InR; omega)
theorem prA_succ {s : System} {t : State} (hv : s.Ok) (ht : s.StateOk t) (hB : ¬ (Big16 s t s.parents.length ∨ Big2 s t s.parents.length)) {c : Nat} (hc : c < s.parents.length) :
    prA s t (c + 1) = wrapI (prA s t c * cchR (s.only (c : Int)) t) := by
  rw [(cnt_only hv ht hB hc).1]
  unfold prA
  rw [lensK]
  by_cases q : ndC s t c = []
  · rw [if_pos q, if_pos q, Int.mul_one, wrapI_of (prodK_in _ _)]
  · rw [if_neg q, if_neg q, prodK_snoc]
theorem prA_all {s : System} {t : State} (hv : s.Ok) (ht : s.StateOk t) (hB : ¬ (Big16 s t s.parents.length ∨ Big2 s t s.parents.length)) : prA s t s.parents.length = cchR s t := (cnt_t ⟨hv, ht⟩ hB).1.symm

/-! ### The first choice -/
theorem fc_y {s : System} {t : State} {k : Nat} {r : Rule} (hv : s.Ok) (ht : s.StateOk t) (hk : k < s.rules.length) (e : s.rules[k] = r) (ha : App s t r) :
    fcK s t (k + 1) = ((fcK s t k).1.set k (tms r.need ((fcK s t k).2.getD r.cell.toNat [])), (fcK s t k).2.set r.cell.toNat (plusL ((fcK s t k).2.getD r.cell.toNat []) r.need (0 - tms r.need ((fcK s t k).2.getD r.cell.toNat [])))) := by
  subst e
  have hcl := fc_cell hv ht (fcK_ok hv ht k) hk
  rw [fcK_yes hv ht hk ha hcl, getD_get hcl]
theorem fc_n {s : System} {t : State} {k : Nat} {r : Rule} (hk : k < s.rules.length) (e : s.rules[k] = r) (ha : ¬ App s t r) : fcK s t (k + 1) = fcK s t k := by
  subst e; exact fcK_no hk ha
open Classical in
/-- How often the rule k is taken. -/
noncomputable def fcX (s : System) (t : State) (k : Nat) : Int := if ∃ h : k < s.rules.length, App s t s.rules[k] then tms (s.rules.getD k default).need ((fcK s t k).2.getD (s.rules.getD k default).cell.toNat []) else 0
theorem fcX_take {s : System} {t : State} {k : Nat} (hv : s.Ok) (ht : s.StateOk t) (hk : k < s.rules.length) : (fcK s t (k + 1)).1.take (k + 1) = (fcK s t k).1.take k ++ [fcX s t k] := by
  unfold fcX
  by_cases ha : App s t s.rules[k]
  · have hcl := fc_cell hv ht (fcK_ok hv ht k) hk
    rw [if_pos ⟨hk, ha⟩, ← out_yes hv ht hk ha hcl, getD_get hk, getD_get hcl]
  · rw [if_neg (fun ⟨_, q⟩ => ha q), out_no hv ht hk ha]
theorem fcX_stay {s : System} {t : State} (hv : s.Ok) (ht : s.StateOk t) {k : Nat} : ∀ m, m ≤ s.rules.length → k < m → (fcK s t m).1.getD k 0 = fcX s t k
  | 0, _, h => absurd h (Nat.not_lt_zero _)
  | m + 1, hm, h => by
    by_cases e : k = m
    · subst e
      have h1 := fcX_take hv ht hm
      have ok := (fcK_ok hv ht (k + 1)).o
      have ok2 := (fcK_ok hv ht k).o
      have h2 : ((fcK s t (k + 1)).1.take (k + 1))[k]? = some (fcX s t k) := by
        rw [h1, List.getElem?_append_right (by rw [List.length_take]; omega), List.length_take, Nat.min_eq_left (by omega), Nat.sub_self]; rfl
      rw [List.getElem?_take_of_lt (by omega)] at h2
      rw [List.getD_eq_getElem?_getD, h2]; rfl
    · have ih := fcX_stay hv ht (k := k) m (by omega) (by omega)
      by_cases ha : App s t s.rules[m]
      · rw [fc_y hv ht hm rfl ha, ← ih]
        simp only [List.getD_eq_getElem?_getD]
        rw [List.getElem?_set_ne (by omega)]
      · rw [fc_n hm rfl ha, ih]
/-- The numbers of the first choice that belong to a cell, among the first k. -/
noncomputable def ownK (s : System) (F : List Int) (c : Int) : Nat → List Int
  | 0 => []
  | k + 1 => if (s.rules.getD k default).cell = c then ownK s F c k ++ [F.getD k 0] else ownK s F c k
theorem fc_apart {s : System} {t : State} (hv : s.Ok) (ht : s.StateOk t) {c : Int} (h0 : 0 ≤ c) : ∀ k, k ≤ s.rules.length →
    (fcK (s.only c) t (partL c (s.rules.take k)).length).1.take (partL c (s.rules.take k)).length = ownK s (fcK s t s.rules.length).1 c k ∧
    (fcK (s.only c) t (partL c (s.rules.take k)).length).2.getD c.toNat [] = (fcK s t k).2.getD c.toNat []
  | 0, _ => ⟨rfl, rfl⟩
  | k + 1, hk => by
    obtain ⟨i1, i2⟩ := fc_apart hv ht h0 k (by omega)
    have hv' := only_ok hv c
    have ht' : (s.only c).StateOk t := ht
    have gd : s.rules.getD k default = s.rules[k] := getD_get hk
    by_cases e : s.rules[k].cell = c
    · have h1 := partL_lt (c := c) hk e
      have h3 : (s.only c).rules[(partL c (s.rules.take k)).length]'h1 = s.rules[k] := partL_at hk e h1
      have h4 : (s.only c).rules.getD (partL c (s.rules.take k)).length default = s.rules[k] := (getD_get (l := (s.only c).rules) h1).trans h3
      rw [partL_y hk e, List.length_append, List.length_singleton]
      have fx := fcX_take hv' ht' h1
      have st := fcX_stay hv ht (k := k) s.rules.length (Nat.le_refl _) hk
      have l1 := (fcK_ok hv' ht' (partL c (s.rules.take k)).length).r
      have l2 := (fcK_ok hv ht k).r
      have cl := fc_cell hv ht (fcK_ok hv ht k) hk
      rw [e] at cl
      by_cases ha : App s t s.rules[k]
      · have ha' : App (s.only c) t s.rules[k] := (app_only e).2 ha
        have x1 : fcX (s.only c) t (partL c (s.rules.take k)).length = fcX s t k := by
          unfold fcX
          rw [if_pos ⟨h1, by rw [h3]; exact ha'⟩, if_pos ⟨hk, ha⟩, h4, gd, e, i2]
        refine ⟨by rw [fx, x1, i1, ownK, gd, if_pos e, st], ?_⟩
        rw [fc_y hv' ht' h1 h3 ha', fc_y hv ht hk rfl ha, e]
        simp only
        rw [i2]
        simp only [List.getD_eq_getElem?_getD]
        rw [List.getElem?_set_self (by omega), List.getElem?_set_self (by omega)]
      · have ha' : ¬ App (s.only c) t s.rules[k] := fun q => ha ((app_only e).1 q)
        have x1 : fcX (s.only c) t (partL c (s.rules.take k)).length = fcX s t k := by
          unfold fcX
          rw [if_neg (fun ⟨h, q⟩ => ha' (by rw [← h3]; exact q)), if_neg (fun ⟨_, q⟩ => ha q)]
        refine ⟨by rw [fx, x1, i1, ownK, gd, if_pos e, st], ?_⟩
        rw [fc_n h1 h3 ha', fc_n hk rfl ha, i2]
    · rw [partL_n hk e, ownK, gd, if_neg e]
      refine ⟨i1, i2.trans ?_⟩
      by_cases ha : App s t s.rules[k]
      · have hc := (hv.2.2 k hk).1.1
        rw [fc_y hv ht hk rfl ha]
        simp only [List.getD_eq_getElem?_getD]
        rw [List.getElem?_set_ne (by omega)]
      · rw [fc_n hk rfl ha]
theorem first_apart {s : System} {t : State} (hv : s.Ok) (ht : s.StateOk t) {c : Int} (h0 : 0 ≤ c) :
    (fcK (s.only c) t (s.only c).rules.length).1 = ownK s (fcK s t s.rules.length).1 c s.rules.length := by
  have h := (fc_apart hv ht h0 s.rules.length (Nat.le_refl _)).1
  rw [List.take_length] at h
  have o := (fcK_ok (only_ok hv c) (only_state ht c) (s.only c).rules.length).o
  rw [← h]
  exact (List.take_of_length_le (Nat.le_of_eq o)).symm
theorem ownK_len (s : System) (F : List Int) (c : Int) : ∀ k, (ownK s F c k).length ≤ k
  | 0 => Nat.le_refl _
  | k + 1 => by
    have := ownK_len s F c k
    rw [ownK]; split
    · rw [List.length_append, List.length_singleton]; omega
    · omega
theorem ownK_part {s : System} (F : List Int) (c : Int) : ∀ k, k ≤ s.rules.length → (ownK s F c k).length = (partL c (s.rules.take k)).length
  | 0, _ => rfl
  | k + 1, hk => by
    have ih := ownK_part (s := s) F c k (by omega)
    have gd : s.rules.getD k default = s.rules[k] := getD_get hk
    rw [ownK, gd]
    by_cases e : s.rules[k].cell = c
    · rw [if_pos e, partL_y hk e, List.length_append, List.length_append, ih]; rfl
    · rw [if_neg e, partL_n hk e, ih]
end Go.Proofs.Ytandldhceabdiaa

/-
  The law FnApart answers true whatever it reads. No condition.
-/
namespace Go.Proofs.Ytandldhceabdiaa
open Go.AI
set_option maxRecDepth 8000
set_option maxHeartbeats 1600000

theorem c_a2Same (a b : List Int) : Gives Try.prog 25 [.sl (a.map Go.AI.encI), .sl (b.map Go.AI.encI)] (.raw (.bool (dec (a = b)))) := by
  refine fn_of_run tyOk ztOk mix Try.func25 rfl (by decide) Try.ntmps25 (fun w0 h => ?_)
  refine run_len (t := 0) rfl (fun hl => ?_)
  refine run_len (t := 1) rfl (fun hl2 => ?_)
  rw [List.length_map] at hl hl2
  repeat' (first
      | (refine j_go ?_; first
        | refine j_op0 rfl rfl rfl rfl ?_ | (refine j_kLen rfl ?_; first | refine j_len rfl rfl rfl rfl rfl rfl ?_))
      | refine j_nil ?_
      | (refine r_go ?_; first | refine run_seq ?_ | refine run_region ?_ | (refine (run_ifn rfl (fun hb => ?_) (fun hb => ?_)) <;> first | (exfalso; omega) | skip) | refine run_block ?_ | refine run_ret ?_ | refine run_skip ?_)
      | refine seqQ_normal ?_ | refine seqQ_ret ?_)
  · exact end1 rfl (by first | exact List.Sublist.refl _ | exact sub1 | exact sub2 | exact sub3) (rbF (fun q => by rw [q] at hb; omega)) (.inl rfl)
  refine run_loop (fun k : Nat => [(0, .sl (a.map Go.AI.encI)), (1, .sl (b.map Go.AI.encI)), (5, .int (k : Int))]) (fun _ => _) (fun k => k ≤ a.length ∧ (∀ i (h : i < a.length), i < k → some a[i] = b[i]?)) (fun k => a.length - k) 0 ⟨rfl, rfl, rfl, trivial⟩ rfl ⟨Nat.zero_le _, by first | (intros; omega) | (simp; done) | rfl | trivial | exact ⟨by simp [sumF], by intros; omega⟩ | exact ⟨by omega, by simp⟩⟩ (fun k ⟨kl, kp⟩ => ?_)
  repeat' (first
      | (refine j_go ?_; first
        | refine j_op0 rfl rfl rfl rfl ?_ | (refine j_kIdx rfl ?_; first | refine j_idx rfl rfl rfl rfl rfl (by omega) rfl rfl rfl ?_) | (refine j_kBin rfl ?_; first | refine j_in rfl rfl ⟨by omega, by omega⟩ rfl rfl ?_) | (refine j_kLen rfl ?_; first | refine j_len rfl rfl rfl rfl rfl rfl ?_))
      | refine j_nil ?_
      | (refine r_go ?_; first | refine run_seq ?_ | refine run_region ?_ | (refine (run_if rfl (fun hb => ?_) (fun hb => ?_)) <;> first | (exfalso; omega) | skip) | (refine (run_ifn rfl (fun hb => ?_) (fun hb => ?_)) <;> first | (exfalso; omega) | skip) | refine run_block ?_ | refine run_ret ?_ | refine run_exit ?_ | refine run_skip ?_ | refine run_regionD (by kernel_rfl) ?_)
      | refine seqQ_normal ?_ | refine seqQ_ret ?_ | refine seqQ_exit ?_ | refine blockQ_normal ?_ | refine blockQ_ret ?_ | refine blockQ_eq ?_ | refine loopQ_ret ?_ | refine loopQ_exit ?_)
  · exact end1 rfl (by first | exact List.Sublist.refl _ | exact sub1 | exact sub2 | exact sub3) (rbF (fun q => by subst q; exact hb rfl)) (.inl rfl)
  · exact loopQ_nextD (k + 1) ⟨by omega, all_step kp (fun _ => by rw [hb]; simp)⟩ (by omega) (by first | exact List.Sublist.refl _ | exact sub1 | exact sub2 | exact sub3) ⟨rfl, rfl, nx _, trivial⟩
  · exact end1 rfl (by first | exact List.Sublist.refl _ | exact sub1 | exact sub2 | exact sub3) (rbT (List.ext_getElem (by omega) (fun i h1 h2 => by have := kp i h1 (by omega); rw [List.getElem?_eq_getElem h2] at this; exact Option.some.inj this))) (.inl rfl)
/-- A system and a state that are drawn, as data. -/
theorem z_A2System (code : List UInt8) : Does Try.prog 21 [.sl (code.map encY)] [] (fun v h' => (∃ (y : System) (t : State), (y.Ok ∧ y.kinds ≤ 3 ∧ y.parents.length ≤ 3 ∧ y.rules.length ≤ 5 ∧ y.StateOk t ∧ ∀ r ∈ t.bags, ∀ z ∈ r, z ≤ 5) ∧ v = .tup [.agg (encSystem y), .agg (encState t)]) ∧ h' = []) :=
  (o_A2System code).frozenE fun v h1 ⟨y, t, b, cap, k1, k2, hy, y1, y2, y3, ht, ht5, e1, e2⟩ => ⟨_, ⟨y, t, ⟨hy, y1, y2, y3, ht, ht5⟩, rfl⟩, by
    rw [e1, e2]
    exact FrzF.tup (FrzLF.cons (h1 := [rlB b cap y.rules, k1, k2]) (h2 := []) (FrzF.agg (FrzLF.cons (h1 := []) (FrzF.same _ _) (FrzLF.cons (h1 := []) (FrzF.same _ _) (FrzLF.cons (h1 := [rlB b cap y.rules]) (h2 := [k1, k2]) (FrzF.flat (g := encRule) (z := 9) rfl rfl (fun _ => rfl) rfl rfl) FrzLF.nil)))) (FrzLF.cons (h1 := []) (FrzF.same _ _) (FrzLF.nil (h := []))))⟩
theorem c_iFcF {s : System} {t : State} (hv : s.Ok) (ht : s.StateOk t) : Gives Try.prog 24 [.agg (encSystem s), .agg (encState t)] (.tup [.sl ((fcK s t s.rules.length).1.map Go.AI.encI), .int 0]) :=
  (c_iFirstChoice s t).frozen fun v h1 ⟨b, cap, q1, q2⟩ => by
    have e1 : resFirstChoice s t = (fcK s t s.rules.length).1 := ls_t ⟨hv, ht⟩ _
    have e2 : codeFirstChoice s t = 0 := by unfold codeFirstChoice cdP; rw [if_pos ⟨hv, ht⟩]
    rw [e1] at q1 q2
    rw [e2] at q1
    rw [q1, q2]; exact FrzF.tup2 (FrzF.flat rfl rfl (fun _ => rfl) rfl rfl) (Clo.int _)
theorem pm3r {a b c : Blk} {l : Heap} : (a :: b :: c :: l).Perm (c :: b :: a :: l) := by classical exact List.perm_iff_count.2 fun _ => by simp only [List.count_cons]; omega
theorem c_FnApart (a0 a1 : List UInt8) : Gives Try.prog 4 [.sl (a0.map encY), .sl (a1.map encY)] (.raw (.bool true)) := by
  refine fn_of_run tyOk ztOk mix Try.func4 rfl (by decide) Try.ntmps4 (fun w0 h => ?_)
  repeat' (first
      | (refine j_go ?_; first
        | refine j_op0 rfl rfl rfl rfl ?_ | (refine j_kCall rfl rfl rfl rfl ?_; first | refine jc (c_a2Long _ _) (LeL.refl _) rfl rfl ?_))
      | refine j_nil ?_
      | (refine r_go ?_; first | refine run_seq ?_ | refine run_region ?_ | (refine (run_if rfl (fun hb => ?_) (fun hb => ?_)) <;> first | (exfalso; omega) | skip) | refine run_ret ?_ | refine run_skip ?_)
      | refine seqQ_normal ?_ | refine seqQ_ret ?_)
  · exact end1 rfl (List.Sublist.refl _) (rfl) (.inl rfl)
  refine j_kCall rfl rfl rfl rfl ?_
  refine jcp _ (z_A2System a0) (List.Perm.refl _) (LeL.refl _) rfl rfl (fun v h1 hR => ?_)
  obtain ⟨⟨y, t, ⟨hy, y1, y2, y3, ht, ht5⟩, rfl⟩, rfl⟩ := hR
  have cS := c_sCountChoices y t
  have cI := c_iCountChoices y t
  have cF := c_iFcF hy ht
  have oF := (fcK_ok hy ht y.rules.length).o
  by_cases hB : Big16 y t y.parents.length ∨ Big2 y t y.parents.length
  · rw [(cnt_b ⟨hy, ht⟩ hB).1, (cnt_b ⟨hy, ht⟩ hB).2] at cS cI
    generalize (fcK y t y.rules.length).1 = F at cF oF
    repeat' (first
      | (refine j_go ?_; first
        | refine j_op0 rfl rfl rfl rfl ?_ | (refine j_kLen rfl ?_; first | refine j_len rfl rfl rfl rfl rfl rfl ?_) | (refine j_kCall rfl rfl rfl rfl ?_; first | refine jc (cS) (LeL.refl _) rfl rfl ?_ | refine jc (cI) (LeL.refl _) rfl rfl ?_ | refine jc (cF) (LeL.refl _) rfl rfl ?_) | (refine j_kLoad rfl ?_; first | refine j_mload 0 rfl rfl rfl rfl rfl rfl rfl ?_ | refine j_mload 1 rfl rfl rfl rfl rfl rfl rfl ?_) | (refine j_kStore rfl ?_; first | refine j_storeN 0 rfl rfl rfl rfl rfl rfl rfl rfl rfl rfl rfl ?_ | refine j_storeN 1 rfl rfl rfl rfl rfl rfl rfl rfl rfl rfl rfl ?_) | (refine j_kGuard rfl ?_; first | (refine (j_ifn rfl rfl rfl (fun hb => ?_) (fun hb => ?_)) <;> first | (exfalso; omega) | skip)) | refine j_alloc rfl rfl rfl rfl rfl (fun _ => ?_))
      | refine j_nil ?_
      | (refine r_go ?_; first | refine run_seq ?_ | refine run_region ?_ | (refine (run_ifn rfl (fun hb => ?_) (fun hb => ?_)) <;> first | (exfalso; omega) | skip) | refine run_ret ?_ | refine run_skip ?_)
      | refine seqQ_normal ?_ | refine seqQ_ret ?_)
    all_goals first
      | exact end1 rfl sub2 rfl (.inl rfl)
      | (exfalso; omega)
      | trace_state
  rw [(cnt_t ⟨hy, ht⟩ hB).2, ← prA_all hy ht hB] at cS cI
  have hfa := fun c h => first_apart hy ht (c := c) h
  have pS := fun c h => prA_succ hy ht hB (c := c) h
  have pz : prA y t 0 = 1 := rfl
  have pc := fun c h => (cnt_only hy ht hB (c := c) h).2
  have pin := fun c => prodK_in (lensK y t c) (lensK y t c).length
  have cIo : ∀ c : Nat, c < y.parents.length → Gives Try.prog 23 [.agg (encSystem (y.only (c : Int))), .agg (encState t)] (.tup [.int (cchR (y.only (c : Int)) t), .int 0]) := fun c h => by
    have q := c_iCountChoices (y.only (c : Int)) t
    rw [pc c h] at q; exact q
  have cFo : ∀ c : Nat, Gives Try.prog 24 [.agg (encSystem (y.only (c : Int))), .agg (encState t)] (.tup [.sl ((ownK y (fcK y t y.rules.length).1 (c : Int) y.rules.length).map Go.AI.encI), .int 0]) := fun c => by
    have q := c_iFcF (only_ok hy (c : Int)) (only_state ht (c : Int))
    rw [hfa (c : Int) (by omega)] at q; exact q
  generalize (fcK y t y.rules.length).1 = F at cF oF hfa cFo
  have y16 := hy.2.1
  have yk := hy.1.1
  repeat' (first
      | (refine j_go ?_; first
        | refine j_op0 rfl rfl rfl rfl ?_ | (refine j_kLen rfl ?_; first | refine j_len rfl rfl rfl rfl rfl rfl ?_) | (refine j_kCall rfl rfl rfl rfl ?_; first | refine jc (cS) (LeL.refl _) rfl rfl ?_ | refine jc (cI) (LeL.refl _) rfl rfl ?_ | refine jc (cF) (LeL.refl _) rfl rfl ?_) | (refine j_kLoad rfl ?_; first | refine j_mload 0 rfl rfl rfl rfl rfl rfl rfl ?_ | refine j_mload 1 rfl rfl rfl rfl rfl rfl rfl ?_) | (refine j_kStore rfl ?_; first | refine j_storeN 0 rfl rfl rfl rfl rfl rfl rfl rfl rfl rfl rfl ?_ | refine j_storeN 1 rfl rfl rfl rfl rfl rfl rfl rfl rfl rfl rfl ?_) | (refine j_kGuard rfl ?_; first | (refine (j_ifn rfl rfl rfl (fun hb => ?_) (fun hb => ?_)) <;> first | (exfalso; omega) | skip)) | refine j_alloc rfl rfl rfl rfl rfl (fun _ => ?_))
      | refine j_nil ?_
      | (refine r_go ?_; first | refine run_seq ?_ | refine run_region ?_ | (refine (run_ifn rfl (fun hb => ?_) (fun hb => ?_)) <;> first | (exfalso; omega) | skip) | refine run_block ?_ | refine run_skip ?_)
      | refine seqQ_normal ?_)
  all_goals first | (exfalso; omega) | skip
  rename_i b5 b6 _ _ _
  refine run_view (view_freezeP 0 6 rfl rfl) ?_
  refine run_view (view_freezeP 0 5 rfl rfl) ?_
  refine run_loop (fun c : Nat => [(5, .ip (encSystem y)), (6, .ip (encState t)), (9, .int (prA y t y.parents.length)), (11, .sl (F.map Go.AI.encI)), (13, .int (prA y t c)), (14, .int (c : Int))])
    (fun _ => h) (fun c => c ≤ y.parents.length) (fun c => y.parents.length - c) 0 ⟨rfl, rfl, rfl, rfl, rfl, rfl, trivial⟩ rfl (Nat.zero_le _) (fun c cl => ?_)
  by_cases hc : c < y.parents.length
  case neg =>
    obtain rfl : c = y.parents.length := by omega
    repeat' (first
      | (refine j_go ?_; first
        | refine j_op0 rfl rfl rfl rfl ?_ | (refine j_kLen rfl ?_; first | refine j_len rfl rfl rfl rfl rfl rfl ?_))
      | refine j_nil ?_
      | (refine r_go ?_; first | refine run_seq ?_ | refine run_region ?_ | (refine (run_if rfl (fun hb => ?_) (fun hb => ?_)) <;> first | (exfalso; omega) | skip) | refine run_ret ?_ | refine run_exit ?_)
      | refine seqQ_normal ?_ | refine seqQ_exit ?_ | refine blockQ_eq ?_ | refine loopQ_exit ?_)
    exact end1 rfl (List.Sublist.refl _) (rbT rfl).symm (.inl rfl)
  repeat' (first
      | (refine j_go ?_; first
        | refine j_op0 rfl rfl rfl rfl ?_ | (refine j_kLen rfl ?_; first | refine j_len rfl rfl rfl rfl rfl rfl ?_) | (refine j_kStore rfl ?_; first | refine j_storeN 0 rfl rfl rfl rfl rfl rfl rfl rfl rfl rfl rfl ?_) | (refine j_kBsl rfl ?_; first | refine j_bs0 rfl rfl rfl rfl rfl rfl ?_) | refine j_build rfl rfl rfl rfl rfl rfl rfl ?_ | refine j_alloc rfl rfl rfl rfl rfl (fun _ => ?_))
      | refine j_nil ?_
      | (refine r_go ?_; first | refine run_seq ?_ | refine run_region ?_ | (refine (run_if rfl (fun hb => ?_) (fun hb => ?_)) <;> first | (exfalso; omega) | skip) | refine run_block ?_ | refine run_skip ?_)
      | refine seqQ_normal ?_)
  rename_i b15
  refine run_view (view_none 62 (0 * 9) rfl) ?_
  refine run_view (view_none 2 (0 * 1) rfl) ?_
  refine run_loop (fun x : Nat × (Option Nat × Nat) × (Option Nat × Nat) => [(5, .ip (encSystem y)), (6, .ip (encState t)), (9, .int (prA y t y.parents.length)), (11, .sl (F.map Go.AI.encI)), (13, .int (prA y t c)), (14, .int (c : Int)), (15, .op (some b15) 0), (16, .os x.2.2.1 (ownK y F (c : Int) x.1).length x.2.2.2), (17, .int (x.1 : Int))])
    (fun x => lsI 2 x.2.2.1 x.2.2.2 (ownK y F (c : Int) x.1) :: rlB x.2.1.1 x.2.1.2 (partL (c : Int) (y.rules.take x.1)) :: sysB b15 [.int y.kinds, .sl (y.parents.map Go.AI.encI), .os x.2.1.1 (partL (c : Int) (y.rules.take x.1)).length x.2.1.2] :: h)
    (fun x => x.1 ≤ y.rules.length) (fun x => y.rules.length - x.1) (0, (none, 0), (none, 0)) ⟨rfl, rfl, rfl, rfl, rfl, rfl, rfl, rfl, rfl, trivial⟩ rfl (Nat.zero_le _) (fun ⟨k, ⟨ob, cap⟩, ⟨oo, oc⟩⟩ kl => ?_)
  dsimp only at kl ⊢
  by_cases hk : k < y.rules.length
  case pos =>
    have pl := ownK_part (s := y) F (c : Int) k kl
    have pl2 := ownK_len y F (c : Int) k
    have gd : y.rules.getD k default = y.rules[k] := getD_get hk
    have hkF : k < F.length := by omega
    repeat' (first
      | (refine j_go ?_; first
        | refine j_op0 rfl rfl rfl rfl ?_ | (refine j_kIdx rfl ?_; first | refine j_idx rfl rfl rfl rfl rfl (by omega) rfl rfl rfl ?_) | (refine j_kBin rfl ?_; first | refine j_in rfl rfl ⟨by omega, by omega⟩ rfl rfl ?_) | (refine j_kLen rfl ?_; first | refine j_len rfl rfl rfl rfl rfl rfl ?_))
      | refine j_nil ?_
      | (refine j_goO ?_; first
        | refine j_op0O rfl rfl rfl rfl ?_ | (refine j_kIdxO rfl ?_; first | refine j_idxO rfl rfl rfl rfl rfl (by omega) rfl rfl rfl ?_) | (refine j_kLoadO rfl ?_; first | refine j_mloadO 2 rfl rfl rfl rfl rfl rfl rfl rfl ?_) | (refine j_kBslO rfl ?_; first | refine j_bslO rfl rfl rfl rfl rfl rfl rfl rfl rfl rfl rfl ?_))
      | (refine r_go ?_; first | refine run_seq ?_ | refine run_region ?_ | (refine (run_if rfl (fun hb => ?_) (fun hb => ?_)) <;> first | (exfalso; omega) | skip) | refine run_block ?_ | refine run_skip ?_ | refine run_opn 21 [⟨0, true, false, 0⟩, ⟨1, true, false, 0⟩, ⟨2, true, false, 0⟩, ⟨3, true, false, 0⟩, ⟨4, true, false, 0⟩, ⟨5, true, false, 0⟩, ⟨6, true, false, 0⟩, ⟨7, true, false, 0⟩, ⟨8, false, true, 0⟩, ⟨9, true, false, 0⟩, ⟨10, false, true, 0⟩] rfl rfl (by kernel_rfl) ?_)
      | refine seqQ_normal ?_ | refine blockQ_normal ?_)
    · have hcell : y.rules[k].cell = (c : Int) := hb
      have e1 := partL_y hk hcell
      have e2 : ownK y F (c : Int) (k + 1) = ownK y F (c : Int) k ++ [F[k]] := by rw [ownK, gd, if_pos hcell, getD_get hkF]
      refine j_appendO 1 (g := encRule) (ys := partL (c : Int) (y.rules.take k)) [y.rules[k]] rfl (fun _ hk => nomatch hk) rfl rfl rfl rfl rfl rfl rfl rfl rfl rfl rfl rfl (fun _ => rfl) (fun _ hy => by simp only [List.mem_singleton] at hy; subst hy; rfl) ⟨by simp only [List.length_cons, List.length_nil]; omega, by simp only [List.length_cons, List.length_nil]; omega⟩ rfl rfl (fun b' cap' => ?_)
      rw [← e1]
      repeat' (first
      | (refine j_go ?_; first
        | refine j_op0 rfl rfl rfl rfl ?_ | (refine j_kIdx rfl ?_; first | refine j_idx rfl rfl rfl rfl rfl (by omega) rfl rfl rfl ?_) | (refine j_kBsl rfl ?_; first | refine j_bsl rfl rfl rfl rfl rfl rfl rfl rfl rfl rfl rfl ?_))
      | (refine j_goO ?_; first
        | refine j_op0O rfl rfl rfl rfl ?_ | (refine j_kStoreO rfl ?_; first | refine j_storeO 2 rfl rfl rfl rfl rfl rfl rfl rfl rfl rfl rfl rfl (by first | (intro _ hk; exact absurd hk List.not_mem_nil) | (intro k hk; simp at hk ⊢; try simp [hk])) ?_))
      | refine j_nilO ?_
      | (refine r_go ?_; first | refine run_region ?_)
      | refine seqQ_normal ?_)
      refine j_append 0 (g := Go.AI.encI) (ys := ownK y F (c : Int) k) [F[k]] rfl rfl rfl rfl rfl rfl rfl rfl rfl rfl rfl rfl (fun _ => rfl) (fun _ _ => rfl) ⟨by simp only [List.length_cons, List.length_nil]; omega, by simp only [List.length_cons, List.length_nil]; omega⟩ rfl rfl (fun b2 cap2 => ?_)
      rw [← e2]
      repeat' (first
      | (refine j_go ?_; first
        | refine j_op0 rfl rfl rfl rfl ?_ | (refine j_kBin rfl ?_; first | refine j_in rfl rfl ⟨by omega, by omega⟩ rfl rfl ?_))
      | refine j_nil ?_
      | (refine r_go ?_; first | refine run_region ?_)
      | refine seqQ_normal ?_ | refine blockQ_normal ?_)
      exact loopQ_next (k + 1, (b', cap'), (b2, cap2)) (by dsimp only; omega) (by dsimp only; omega) rfl ⟨rfl, rfl, rfl, rfl, rfl, rfl, rfl, rfl, nx _, trivial⟩
    · have hcell : ¬ y.rules[k].cell = (c : Int) := hb
      have e1 := partL_n hk hcell
      have e2 : ownK y F (c : Int) (k + 1) = ownK y F (c : Int) k := by rw [ownK, gd, if_neg hcell]
      rw [← e1, ← e2]
      exact loopQ_next (k + 1, (ob, cap), (oo, oc)) (by dsimp only; omega) (by dsimp only; omega) rfl ⟨rfl, rfl, rfl, rfl, rfl, rfl, rfl, by dsimp only; rw [e2]; rfl, nx _, trivial⟩
  obtain rfl : k = y.rules.length := by omega
  rw [List.take_length]
  have ol := ownK_len y F (c : Int) y.rules.length
  have wr := pS c hc
  refine run_view (view_cellF (k := 2) (b := some b15) (h1 := [rlB ob cap (partL (c : Int) y.rules)]) (F := _ :: h) pm3r rfl (FrzF.flat (g := encRule) (ys := partL (c : Int) y.rules) (z := 9) rfl rfl (fun _ => rfl) rfl rfl)) ?_
  refine run_view (view_freezeP 0 15 rfl rfl) ?_
  change Run _ _ _ _ ((15, .ip (encSystem (y.only (c : Int)))) :: _) _
  refine run_view (view_freeze 0 16 (ys := ownK y F (c : Int) y.rules.length) (g := Go.AI.encI) (z := 1) rfl rfl rfl (fun _ => rfl) rfl rfl) ?_
  repeat' (first
      | (refine j_go ?_; first
        | refine j_op0 rfl rfl rfl rfl ?_ | (refine j_kLen rfl ?_; first | refine j_len rfl rfl rfl rfl rfl rfl ?_) | (refine j_kCall rfl rfl rfl rfl ?_; first | refine jc (cIo c hc) (LeL.refl _) rfl rfl ?_ | refine jc (cFo c) (LeL.refl _) rfl rfl ?_ | refine jc (c_a2Same _ _) (LeL.refl _) rfl rfl ?_) | (refine j_kGuard rfl ?_; first | (refine (j_ifn rfl rfl rfl (fun hb => ?_) (fun hb => ?_)) <;> first | (exfalso; omega) | skip)))
      | refine j_nil ?_
      | (refine r_go ?_; first | refine run_seq ?_ | refine run_region ?_ | (refine (run_if rfl (fun hb => ?_) (fun hb => ?_)) <;> first | (exfalso; omega) | skip) | (refine (run_ifn rfl (fun hb => ?_) (fun hb => ?_)) <;> first | (exfalso; omega) | skip) | refine run_ret ?_ | refine run_exit ?_ | refine run_skip ?_)
      | refine seqQ_normal ?_ | refine seqQ_ret ?_ | refine seqQ_exit ?_ | refine blockQ_ret ?_ | refine blockQ_eq ?_ | refine loopQ_ret ?_ | refine loopQ_exit ?_)
  all_goals first | (exfalso; omega) | exact absurd rfl (by assumption) | skip
  refine j_op rfl rfl rfl rfl ?_
  repeat' (first
      | (refine j_go ?_; first
        | refine j_op0 rfl rfl rfl rfl ?_ | (refine j_kBin rfl ?_; first | refine j_in rfl rfl ⟨by omega, by omega⟩ rfl rfl ?_))
      | refine j_nil ?_
      | (refine r_go ?_; first | refine run_region ?_)
      | refine seqQ_normal ?_ | refine blockQ_normal ?_)
  exact loopQ_next (c + 1) (by omega) (by omega) rfl ⟨rfl, rfl, rfl, rfl, si (by rw [wr]), nx _, trivial⟩
end Go.Proofs.Ytandldhceabdiaa

/-
  Bytes read as data, and the program's own laws of layout. No condition.
-/
namespace Go.Proofs.Ytandldhceabdiaa
open Go.AI Go.RowKit
theorem rd_u8 {H : Type} {enc : TypeId × Value → H} {P : Program} {W : World} {t : TypeId} (ht : P.underlying t = some (.int .u8)) : Rd enc P W t encY := fun fuel cs x h => by
  obtain ⟨n, rfl, _, hw⟩ := DataW.trod_int ht h
  have := hw
  simp [Lit.wf, IntKind.min, IntKind.max, IntKind.signed, IntKind.bits] at this
  have e : n = ((UInt8.ofNat n.toNat).toNat : Int) := by
    rw [UInt8.toNat_ofNat']
    omega
  refine ⟨UInt8.ofNat n.toNat, RelL.cons ?_ RelL.nil⟩
  have r : Rel (Im W []) W (.u8 (UInt8.ofNat n.toNat)) (.int .u8 ((UInt8.ofNat n.toNat).toNat : Int)) := .u8 _
  rw [← e] at r
  exact r
theorem own : ownKnob Try.prog.godebug = none := by kernel_rfl
theorem laidOut : laidOutB Try.prog = true := by kernel_rfl
end Go.Proofs.Ytandldhceabdiaa
