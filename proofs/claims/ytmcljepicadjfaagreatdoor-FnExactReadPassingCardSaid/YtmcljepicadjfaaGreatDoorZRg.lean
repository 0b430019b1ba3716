/-
  Bags read from texts: plain facts. No condition.
-/
import Derived.Test.YtmcljepicadjfaaGreatDoorZRd
import Derived.Test.YtmcljepicadjfaaGreatDoorZRf
import Derived.Test.YtmcljepicadjfaaGreatDoorZH6
import Derived.Test.YtmcljepicadjfaaGreatDoorZE3
namespace Go.AI
open Go.RowKit
theorem kind_nat {k : Nat} (h : k ≤ 7) : (UInt8.ofNat (97 + k)).toNat = 97 + k := by
  rw [UInt8.toNat_ofNat_of_lt' (by have : UInt8.size = 256 := rfl; omega)]
theorem kindW_head (k : Nat) (n : Int) : ∃ r, kindW k n = UInt8.ofNat (97 + k) :: r := ⟨_, rfl⟩
theorem kindW_no {k : Nat} {n : Int} (h : k ≤ 7) {c : UInt8} (hc : c.toNat < 48 ∧ c.toNat ≠ 45) : c ∉ kindW k n := fun q => by
  unfold kindW at q
  rcases List.mem_cons.1 q with q | q
  · have := kind_nat h
    rw [← q] at this; omega
  · split at q
    · exact dcm_no (by omega) (.inl (by omega)) q
    · cases q
theorem bagWs_mem2 {b : List Int} : ∀ k, ∀ w ∈ bagWs b k, ∃ i, i < k ∧ w = kindW i (b.getD i 0)
  | 0, w, hw => by cases hw
  | k + 1, w, hw => by
    rw [bagWs] at hw
    split at hw
    · rcases List.mem_append.1 hw with hw | hw
      · obtain ⟨i, h1, h2⟩ := bagWs_mem2 k w hw
        exact ⟨i, by omega, h2⟩
      · rw [List.mem_singleton] at hw
        exact ⟨k, by omega, hw⟩
    · obtain ⟨i, h1, h2⟩ := bagWs_mem2 k w hw
      exact ⟨i, by omega, h2⟩
theorem bagT_no {b : List Int} (hb : b.length ≤ 8) {c : UInt8} (hc : c.toNat < 48 ∧ c.toNat ≠ 45) (h32 : c ≠ 32) : c ∉ bagT b := fun q => by
  unfold bagT at q
  split at q
  · rw [List.mem_singleton] at q
    subst q
    revert hc; decide
  · unfold bagTk at q
    have : ∀ (ws : List (List UInt8)), (∀ w ∈ ws, c ∉ w) → c ∉ Lib.join ws [32] := fun ws => by
      cases ws with
      | nil => intro _ q; simp [Lib.join_nil] at q
      | cons x r =>
        intro hw q
        rw [Lib.join_cons] at q
        rcases List.mem_append.1 q with q | q
        · exact hw x (by simp) q
        · have h2 : ∀ r : List (List UInt8), (∀ w ∈ r, c ∉ w) → c ∉ Lib.joinTail [32] r := fun r => by
            induction r with
            | nil => intro _ q; simp [Lib.joinTail] at q
            | cons y r ih =>
              intro hr q
              simp only [Lib.joinTail, List.map_cons, List.flatten_cons, List.mem_append, List.mem_singleton] at q
              rcases q with (q | q) | q
              · exact h32 q
              · exact hr y (by simp) q
              · exact ih (fun w hw => hr w (by simp [hw])) (by simpa [Lib.joinTail] using q)
          exact h2 r (fun w hw' => hw w (by simp [hw'])) q
    refine this _ (fun w hw => ?_) q
    obtain ⟨i, h1, rfl⟩ := bagWs_mem2 _ w hw
    exact kindW_no (by omega) hc
/-- What has been read of a bag when its first m kinds are. -/
def pf (c : List Int) (m : Nat) : List Int := (List.range c.length).map fun i => if i < m then c.getD i 0 else 0
theorem pf_zero (c : List Int) : pf c 0 = List.replicate c.length 0 := by
  unfold pf
  simp only [Nat.not_lt_zero, if_false, List.map_const', List.length_range]
theorem pf_all (c : List Int) : pf c c.length = c := by
  refine List.ext_getElem (by simp [pf]) fun i h1 h2 => ?_
  simp [pf, h2]
theorem pf_skip {c : List Int} {m : Nat} (h : c.getD m 0 = 0) : pf c (m + 1) = pf c m := by
  refine List.ext_getElem (by simp [pf]) fun i h1 h2 => ?_
  simp only [pf, List.getElem_map, List.getElem_range]
  by_cases q : i < m
  · rw [if_pos q, if_pos (by omega)]
  · rw [if_neg q]
    by_cases z : i < m + 1
    · have : i = m := by omega
      subst this
      rw [if_pos z, h]
    · rw [if_neg z]
theorem pf_set {c : List Int} {j : Nat} (hj : j < c.length) : (pf c j).set j (c.getD j 0) = pf c (j + 1) := by
  refine List.ext_getElem (by simp [pf]) fun i h1 h2 => ?_
  rw [List.getElem_set]
  simp only [pf, List.getElem_map, List.getElem_range]
  by_cases q : j = i
  · subst q; rw [if_pos rfl, if_pos (by omega)]
  · rw [if_neg q]
    by_cases z : i < j
    · rw [if_pos z, if_pos (by omega)]
    · rw [if_neg z, if_neg (by omega)]
theorem bagWs_next (c : List Int) (hn : ∀ x ∈ c, 0 ≤ x) : ∀ (d m : Nat), c.length = m + d → (bagWs c m).length < (bagWs c c.length).length →
    ∃ j, m ≤ j ∧ j < c.length ∧ 0 < c.getD j 0 ∧ (bagWs c j).length = (bagWs c m).length ∧ (∃ r, bagWs c c.length = bagWs c j ++ kindW j (c.getD j 0) :: r) ∧ pf c j = pf c m
  | 0, m, h, hl => by rw [show m = c.length by omega] at hl; exact absurd hl (Nat.lt_irrefl _)
  | d + 1, m, h, hl => by
    have hm : m < c.length := by omega
    by_cases h0 : 0 < c.getD m 0
    · refine ⟨m, Nat.le_refl _, hm, h0, rfl, ?_, rfl⟩
      have : ∀ (e k : Nat), ∃ r, bagWs c (m + 1 + e) = bagWs c m ++ kindW m (c.getD m 0) :: r := fun e _ => by
        induction e with
        | zero => exact ⟨[], by rw [Nat.add_zero, bagWs, if_pos h0]⟩
        | succ e ih =>
          obtain ⟨r, hr⟩ := ih
          rw [← Nat.add_assoc, bagWs]
          split
          · exact ⟨r ++ [kindW (m + 1 + e) (c.getD (m + 1 + e) 0)], by rw [hr]; simp⟩
          · exact ⟨r, hr⟩
      obtain ⟨r, hr⟩ := this d 0
      exact ⟨r, by rw [← hr]; congr 1; omega⟩
    · have hz : c.getD m 0 = 0 := by
        rw [getD_at hm] at h0 ⊢
        have := hn _ (List.getElem_mem hm)
        omega
      have e1 : bagWs c (m + 1) = bagWs c m := by rw [bagWs, if_neg h0]
      obtain ⟨j, h1, h2, h3, h4, h5, h6⟩ := bagWs_next c hn d (m + 1) (by omega) (by rw [e1]; exact hl)
      exact ⟨j, by omega, h2, h3, by rw [h4, e1], h5, by rw [h6, pf_skip hz]⟩
theorem bagWs_end (c : List Int) (hn : ∀ x ∈ c, 0 ≤ x) : ∀ (d m : Nat), c.length = m + d → (bagWs c m).length = (bagWs c c.length).length → pf c m = c
  | 0, m, h, _ => by rw [show m = c.length by omega]; exact pf_all c
  | d + 1, m, h, hl => by
    have hm : m < c.length := by omega
    have mono : ∀ e k : Nat, (bagWs c k).length ≤ (bagWs c (k + e)).length := fun e k => by
      induction e with
      | zero => exact Nat.le_refl _
      | succ e ih =>
        rw [← Nat.add_assoc, bagWs]
        split
        · rw [List.length_append]; omega
        · exact ih
    by_cases h0 : 0 < c.getD m 0
    · have e1 : (bagWs c (m + 1)).length = (bagWs c m).length + 1 := by rw [bagWs, if_pos h0]; simp
      have := mono d (m + 1)
      rw [show m + 1 + d = c.length by omega] at this
      omega
    · have hz : c.getD m 0 = 0 := by
        rw [getD_at hm] at h0 ⊢
        have := hn _ (List.getElem_mem hm)
        omega
      have e1 : bagWs c (m + 1) = bagWs c m := by rw [bagWs, if_neg h0]
      rw [← pf_skip hz]
      exact bagWs_end c hn d (m + 1) (by omega) (by rw [e1]; exact hl)
theorem join_head {w : List UInt8} {ws : List (List UInt8)} {x : UInt8} {r : List UInt8} (h : w = x :: r) (sep : List UInt8) : ∃ r2, Lib.join (w :: ws) sep = x :: r2 := by
  rw [Lib.join_cons, h]; exact ⟨_, rfl⟩
theorem bag_dash {c : List Int} (hn : ∀ x ∈ c, 0 ≤ x) (h8 : c.length ≤ 8) (h : bagT c = [45]) : List.replicate c.length 0 = c := by
  have hw : bagWs c c.length = [] := by
    unfold bagT at h
    split at h
    · assumption
    · cases hb : bagWs c c.length with
      | nil => rfl
      | cons w ws =>
        obtain ⟨i, h1, h2⟩ := bagWs_mem2 (b := c) c.length w (by rw [hb]; simp)
        obtain ⟨r, hr⟩ := kindW_head i (c.getD i 0)
        obtain ⟨r2, h3⟩ := join_head (ws := ws) (h2.trans hr) [32]
        unfold bagTk at h
        rw [hb, h3] at h
        have q := (List.cons.inj h).1
        have := kind_nat (k := i) (by omega)
        rw [q] at this
        simp at this; omega
  rw [← pf_zero]
  exact bagWs_end c hn c.length 0 (by omega) (by rw [hw]; rfl)
theorem bag_words {c : List Int} (h8 : c.length ≤ 8) (h : bagT c ≠ [45]) : spl 32 (bagT c) = bagWs c c.length := by
  have hw : bagWs c c.length ≠ [] := fun q => h (by unfold bagT; rw [if_pos q])
  have e : bagT c = Lib.join (bagWs c c.length) [32] := by unfold bagT bagTk; rw [if_neg hw]
  rw [e]
  cases hb : bagWs c c.length with
  | nil => exact absurd hb hw
  | cons w ws =>
    refine spl_join 32 w ws fun x hx => ?_
    obtain ⟨i, h1, rfl⟩ := bagWs_mem2 (b := c) c.length x (by rw [hb]; exact hx)
    exact kindW_no (by omega) (by decide)
/-- One word read. -/
def stepB (b : List Int) (w : List UInt8) : List Int := b.set ((w.headD 0).toNat - 97) (if 1 < w.length then pIv (w.drop 1) else 1)
def rdB (n : Nat) (t : List UInt8) : List Int := if t = [45] then List.replicate n 0 else (spl 32 t).foldl stepB (List.replicate n 0)
theorem stepB_len (b : List Int) (w : List UInt8) : (stepB b w).length = b.length := by simp [stepB]
theorem foldB_len : ∀ (ws : List (List UInt8)) (b : List Int), (ws.foldl stepB b).length = b.length
  | [], _ => rfl
  | w :: ws, b => by rw [List.foldl_cons, foldB_len ws, stepB_len]
theorem rdB_len (n : Nat) (t : List UInt8) : (rdB n t).length = n := by
  unfold rdB
  split
  · simp
  · rw [foldB_len]; simp
theorem kindW_len1 {k : Nat} {n : Int} : 1 < (kindW k n).length ↔ 1 < n := by
  unfold kindW
  split
  · rename_i h
    have := dcm_ne n
    have : 0 < (dcm n).length := List.length_pos_iff.2 this
    simp only [List.length_cons]
    omega
  · simp only [List.length_cons, List.length_nil]; omega
theorem kindW_drop {k : Nat} {n : Int} (h : 1 < n) : (kindW k n).drop 1 = dcm n := by unfold kindW; rw [if_pos h]; rfl
theorem stepB_kind {c : List Int} {j : Nat} (hj : j < c.length) (h8 : c.length ≤ 8) (h0 : 0 < c.getD j 0) (hb : c.getD j 0 ≤ 1000) : stepB (pf c j) (kindW j (c.getD j 0)) = pf c (j + 1) := by
  unfold stepB
  have e1 : ((kindW j (c.getD j 0)).headD 0).toNat - 97 = j := by
    show (UInt8.ofNat (97 + j)).toNat - 97 = j
    rw [kind_nat (by omega)]; omega
  rw [e1]
  have e2 : (if 1 < (kindW j (c.getD j 0)).length then pIv ((kindW j (c.getD j 0)).drop 1) else 1) = c.getD j 0 := by
    by_cases h : 1 < c.getD j 0
    · rw [if_pos (kindW_len1.2 h), kindW_drop h, pIv_dcm (by omega)]
    · rw [if_neg (fun q => h (kindW_len1.1 q))]; omega
  rw [e2]
  exact pf_set hj
theorem fold_bag {c : List Int} (hb : ∀ x ∈ c, 0 ≤ x ∧ x ≤ 1000) (h8 : c.length ≤ 8) : ∀ k, k ≤ c.length → (bagWs c k).foldl stepB (pf c 0) = pf c k
  | 0, _ => rfl
  | k + 1, hk => by
    have hk' : k < c.length := by omega
    have := hb _ (List.getElem_mem hk')
    rw [bagWs]
    split
    · rename_i h0
      rw [List.foldl_append, fold_bag hb h8 k (by omega), List.foldl_cons, List.foldl_nil]
      exact stepB_kind hk' h8 h0 (by rw [getD_at hk']; omega)
    · rename_i h0
      rw [fold_bag hb h8 k (by omega), pf_skip (by rw [getD_at hk'] at h0 ⊢; omega)]
theorem rdB_bag {c : List Int} (hb : Bag c) : rdB c.length (bagT c) = c := by
  have h8 := hb.2.2
  unfold rdB
  split
  · rename_i h
    exact bag_dash (fun x hx => (hb.1 x hx).1) h8 h
  · rename_i h
    rw [bag_words h8 h, ← pf_zero, fold_bag hb.1 h8 _ (Nat.le_refl _), pf_all]
/-- A text is that of a bag of so many kinds. -/
def IsBagT (n : Nat) (t : List UInt8) : Prop := ∃ c : List Int, Bag c ∧ c.length = n ∧ bagT c = t
theorem isBagT_iff {n : Nat} {t : List UInt8} : IsBagT n t ↔ Bag (rdB n t) ∧ bagT (rdB n t) = t := by
  constructor
  · rintro ⟨c, h1, rfl, rfl⟩
    rw [rdB_bag h1]; exact ⟨h1, rfl⟩
  · rintro ⟨h1, h2⟩
    exact ⟨_, h1, rdB_len n t, h2⟩
theorem isBagT_of {n : Nat} {t : List UInt8} (h : IsBagT n t) : ∃ c : List Int, rdB n t = c ∧ Bag c ∧ c.length = n ∧ bagT c = t := by
  obtain ⟨c, h1, rfl, rfl⟩ := h
  exact ⟨c, rdB_bag h1, h1, rfl, rfl⟩
end Go.AI
namespace Go.Proofs.YtmcljepicadjfaaGreatDoor
open Go.AI Go.RowKit
set_option maxRecDepth 8000
set_option maxHeartbeats 1600000
/-! ### Numbers of one to nine digits -/
def numL (s : List UInt8) : Int × Bool := if (s.length < 1 ∨ 9 < s.length) ∨ (s.headD 0 = 48 ∧ 1 < s.length) then (0, false) else if numA 0 s = -1 then (0, false) else (numA 0 s, true)
theorem numA_snoc : ∀ (l : List UInt8) (acc : Int) (d : UInt8), (∀ x ∈ l, 48 ≤ x.toNat ∧ x.toNat ≤ 57) → numA acc (l ++ [d]) = numA (numA acc l) [d]
  | [], _, _, _ => rfl
  | c :: r, acc, d, h => by
    have hc := h c (by simp)
    have h1 : ¬ (c < 48 ∨ 57 < c) := by
      simp only [not_or, UInt8.not_lt]
      exact ⟨UInt8.le_iff_toNat_le.2 hc.1, UInt8.le_iff_toNat_le.2 hc.2⟩
    have e : numA acc (c :: r) = numA (acc * 10 + ((c - 48).toNat : Int)) r := by rw [numA, if_neg h1]
    rw [e, List.cons_append, numA, if_neg h1]
    exact numA_snoc r _ d (fun x hx => h x (by simp [hx]))
theorem numA_digit {a : Int} {u : Nat} (h : u < 10) : numA a [UInt8.ofNat (48 + u)] = a * 10 + (u : Int) := by
  have e := digit_nat h
  have h1 : ¬ (UInt8.ofNat (48 + u) < 48 ∨ 57 < UInt8.ofNat (48 + u)) := by
    simp only [not_or, UInt8.not_lt]
    exact ⟨UInt8.le_iff_toNat_le.2 (by rw [e]; show 48 ≤ 48 + u; omega), UInt8.le_iff_toNat_le.2 (by rw [e]; show 48 + u ≤ 57; omega)⟩
  have e2 : (UInt8.ofNat (48 + u) - 48).toNat = u := by
    rw [UInt8.toNat_sub_of_le _ _ (UInt8.le_iff_toNat_le.2 (by rw [e]; show 48 ≤ 48 + u; omega)), e]
    show 48 + u - 48 = u
    omega
  rw [numA, if_neg h1, numA, e2]
theorem numA_dec : ∀ (k u : Nat), u < k → numA 0 (Lib.decDigits u) = (u : Int)
  | 0, _, h => absurd h (by omega)
  | k + 1, u, h => by
    rw [Lib.decDigits]
    split
    · rename_i hs
      rw [numA_digit hs]; omega
    · rename_i hs
      rw [numA_snoc _ _ _ (decDigits_mem (u / 10 + 1) (u / 10) (by omega)), numA_dec k (u / 10) (by omega), numA_digit (by omega)]
      omega
theorem decDigits_pos (k : Nat) : ∀ u : Nat, u < k → 0 < u → ∃ d r, Lib.decDigits u = UInt8.ofNat (48 + d) :: r ∧ 0 < d ∧ d < 10 := by
  induction k with
  | zero => intro u h; omega
  | succ k ih =>
    intro u h h0
    rw [Lib.decDigits]
    split
    · rename_i hs; exact ⟨u, [], rfl, h0, hs⟩
    · rename_i hs
      obtain ⟨d, r, e, hd⟩ := ih (u / 10) (by omega) (by omega)
      exact ⟨d, r ++ [UInt8.ofNat (48 + u % 10)], by rw [e]; rfl, hd⟩
theorem numL_dcm {n : Int} (h : 1 < n ∧ n ≤ 1000) : numL (dcm n) = (n, true) := by
  have e : dcm n = Lib.decDigits n.toNat := by unfold dcm Lib.itoa; rw [if_neg (by omega)]
  obtain ⟨d, r, e1, h0, h9⟩ := decDigits_pos (n.toNat + 1) n.toNat (by omega) (by omega)
  have el := decDigits_len 4 n.toNat (by omega) (by decide)
  have ea := numA_dec (n.toNat + 1) n.toNat (by omega)
  have eh : (Lib.decDigits n.toNat).headD 0 = UInt8.ofNat (48 + d) := by rw [e1]; rfl
  have ep : 0 < (Lib.decDigits n.toNat).length := by rw [e1]; simp
  unfold numL
  rw [e, if_neg, if_neg, ea]
  · congr 1; omega
  · rw [ea]; omega
  · rintro (q | ⟨q, _⟩)
    · omega
    · rw [eh] at q
      have := digit_nat h9
      rw [q] at this
      simp at this; omega
end Go.Proofs.YtmcljepicadjfaaGreatDoor

/-
  Copies of lists in memory of the call's own, their marks, and what is held. No condition but that the sizes are bounded.
-/
namespace Go.Proofs.YtmcljepicadjfaaGreatDoor
open Go.AI
set_option maxRecDepth 8000
set_option maxHeartbeats 1600000
/-- .. whatever stood there. -/
theorem x_markInt64S (b : Option Nat) (cap room k0 : Nat) (cs : List A) (hk : k0 + cs.length ≤ 4611686018427387904) :
    Does Tryz.prog 62 [.os b cs.length cap, .int (k0 : Int)] [⟨b, 2, room, (cs.map fun a => [a]).flatten⟩] (fun v h' => v = .int ((k0 + cs.length : Nat) : Int) ∧ h' = [⟨b, 2, room, (((List.range cs.length).map fun i => A.int ((k0 + i : Nat) : Int)).map fun a => [a]).flatten⟩]) := by
  refine fn_of_runD tyOk ztOk mix Tryz.func62 rfl (by decide) Tryz.ntmps62 (fun w0 F => ?_)
  repeat' (first
      | (refine j_go ?_; first
        | refine j_op0 rfl rfl rfl rfl ?_)
      | refine j_nil ?_
      | (refine r_go ?_; first | refine run_seq ?_ | refine run_region ?_ | refine run_block ?_)
      | refine seqQ_normal ?_)
  refine run_loop (fun i : Nat => [(0, .os b cs.length cap), (1, .int ((k0 + i : Nat) : Int)), (5, .int (i : Int))]) (fun i => ⟨b, 2, room, ((((List.range i).map fun q => A.int ((k0 + q : Nat) : Int)) ++ cs.drop i).map fun a => [a]).flatten⟩ :: F)
      (fun i => i ≤ cs.length) (fun i => cs.length - i) 0 ⟨rfl, rfl, rfl, trivial⟩ (by simp) (by omega) ?_
  intro i g1
  by_cases hi : i < cs.length
  · refine run_some 0 rfl (by rw [sing_flat]; intro q; have := congrArg List.length q; simp at this; omega) (fun b' hb' => ?_)
    subst hb'
    repeat' (first
      | (refine j_go ?_; first
        | refine j_op0 rfl rfl rfl rfl ?_ | (refine j_kIdx rfl ?_; first | refine j_midx rfl rfl rfl rfl rfl (by first | omega | (simp only [List.length_append, List.length_cons, List.length_nil]; omega)) rfl rfl ?_) | (refine j_kLen rfl ?_; first | refine j_op rfl rfl rfl rfl ?_))
      | refine j_nil ?_
      | (refine r_go ?_; first | refine run_seq ?_ | refine run_region ?_ | (refine (run_if rfl (fun hb => ?_) (fun hb => ?_)) <;> first | (exfalso; omega) | skip) | refine run_block ?_ | refine run_skip ?_)
      | refine seqQ_normal ?_)
    refine j_storeE 0 i (g := fun a => [a]) (A.int ((k0 + i : Nat) : Int)) rfl rfl rfl rfl rfl rfl rfl rfl rfl (fun _ => rfl : ∀ y, ([y] : List A).length = 1) rfl (by simp; omega) ?_
    repeat' (first
      | (refine j_go ?_; first
        | refine j_op0 rfl rfl rfl rfl ?_ | (refine j_kBin rfl ?_; first | refine j_in rfl rfl ⟨by omega, by omega⟩ rfl rfl ?_))
      | refine j_nil ?_
      | (refine r_go ?_; first | refine run_region ?_)
      | refine seqQ_normal ?_ | refine blockQ_normal ?_)
    exact loopQ_next (i + 1) (by omega) (by omega) (by rw [← range_set (f := fun q => A.int ((k0 + q : Nat) : Int)) _ rfl hi]; rfl) ⟨rfl, nx (k0 + i), nx _, trivial⟩
  · repeat' (first
      | (refine j_go ?_; first
        | refine j_op0 rfl rfl rfl rfl ?_ | (refine j_kLen rfl ?_; first | refine j_op rfl rfl rfl rfl ?_))
      | refine j_nil ?_
      | (refine r_go ?_; first | refine run_seq ?_ | refine run_region ?_ | (refine (run_if rfl (fun hb => ?_) (fun hb => ?_)) <;> first | (exfalso; omega) | skip) | refine run_ret ?_ | refine run_exit ?_)
      | refine seqQ_normal ?_ | refine seqQ_exit ?_ | refine blockQ_eq ?_ | refine loopQ_exit ?_)
    have : i = cs.length := by omega
    subst this
    exact endD_ret (h1 := [_]) rfl (.cons (.tmp rfl) .nil) (Le.refl _) ⟨rfl, by rw [List.drop_length, List.append_nil]⟩ (.inl rfl)
theorem c_heldInt64S (L : List Int) (k0 : Nat) (hL : ∀ i (h : i < L.length), L[i] = ((k0 + i : Nat) : Int)) (hk : k0 + L.length ≤ 4611686018427387904) : Gives Tryz.prog 65 [.sl (L.map Go.AI.encI), .int (k0 : Int)] (.int ((k0 + L.length : Nat) : Int)) := by
  refine fn_of_run tyOk ztOk mix Tryz.func65 rfl (by decide) Tryz.ntmps65 (fun w0 h => ?_)
  repeat' (first
      | (refine j_go ?_; first
        | refine j_op0 rfl rfl rfl rfl ?_)
      | refine j_nil ?_
      | (refine r_go ?_; first | refine run_seq ?_ | refine run_region ?_ | refine run_block ?_)
      | refine seqQ_normal ?_)
  refine run_loop (fun i : Nat => [(0, .sl (L.map Go.AI.encI)), (1, .int ((k0 + i : Nat) : Int)), (5, .int (i : Int))]) (fun _ => h) (fun i => i ≤ L.length) (fun i => L.length - i) 0 ⟨rfl, rfl, rfl, trivial⟩ rfl (by omega) ?_
  intro i g1
  by_cases hi : i < L.length
  · have hLi := hL i hi
    repeat' (first
      | (refine j_go ?_; first
        | refine j_op0 rfl rfl rfl rfl ?_ | (refine j_kIdx rfl ?_; first | refine j_idx rfl rfl rfl rfl rfl (by omega) rfl rfl rfl ?_) | (refine j_kBin rfl ?_; first | refine j_in rfl rfl ⟨by omega, by omega⟩ rfl rfl ?_) | (refine j_kLen rfl ?_; first | refine j_len rfl rfl rfl rfl rfl rfl ?_))
      | refine j_nil ?_
      | (refine r_go ?_; first | refine run_seq ?_ | refine run_region ?_ | (refine (run_if rfl (fun hb => ?_) (fun hb => ?_)) <;> first | (exfalso; omega) | skip) | (refine (run_ifn rfl (fun hb => ?_) (fun hb => ?_)) <;> first | (exfalso; omega) | skip) | refine run_block ?_ | refine run_skip ?_)
      | refine seqQ_normal ?_ | refine blockQ_normal ?_)
    all_goals first | exact loopQ_next (i + 1) (by omega) (by omega) rfl ⟨rfl, nx (k0 + i), nx _, trivial⟩ | exact absurd hLi hb
  · repeat' (first
      | (refine j_go ?_; first
        | refine j_op0 rfl rfl rfl rfl ?_ | (refine j_kLen rfl ?_; first | refine j_len rfl rfl rfl rfl rfl rfl ?_))
      | refine j_nil ?_
      | (refine r_go ?_; first | refine run_seq ?_ | refine run_region ?_ | (refine (run_if rfl (fun hb => ?_) (fun hb => ?_)) <;> first | (exfalso; omega) | skip) | refine run_ret ?_ | refine run_exit ?_)
      | refine seqQ_normal ?_ | refine seqQ_exit ?_ | refine blockQ_eq ?_ | refine loopQ_exit ?_)
    have : i = L.length := by omega
    subst this
    exact end1 rfl (List.Sublist.refl _) rfl (.inl rfl)
def marked (k0 n : Nat) : List Int := (List.range n).map fun i => ((k0 + i : Nat) : Int)
theorem x_markI (b : Option Nat) (cap k0 : Nat) (r : List Int) (hk : k0 + r.length ≤ 4611686018427387904) :
    Does Tryz.prog 62 [.os b r.length cap, .int (k0 : Int)] [⟨b, 2, cap * 1, (r.map Go.AI.encI).flatten⟩] (fun v h' => v = .int ((k0 + r.length : Nat) : Int) ∧ h' = [⟨b, 2, cap * 1, ((marked k0 r.length).map Go.AI.encI).flatten⟩]) := by
  have := x_markInt64S b cap (cap * 1) k0 (r.map A.int) (by simpa using hk)
  have e1 : ((r.map A.int).map fun a => [a]) = r.map Go.AI.encI := by simp [Go.AI.encI]
  have e2 : (((List.range r.length).map fun i => A.int ((k0 + i : Nat) : Int)).map fun a => [a]) = (marked k0 r.length).map Go.AI.encI := by simp [Go.AI.encI, marked]
  rw [e1, List.length_map, e2] at this
  exact this
/-- .. whatever stood there. -/
theorem x_markBoolS (b : Option Nat) (cap room k0 : Nat) (cs : List A) (hk : k0 + cs.length ≤ 4611686018427387904) :
    Does Tryz.prog 63 [.os b cs.length cap, .int (k0 : Int)] [⟨b, 4, room, (cs.map fun a => [a]).flatten⟩] (fun v h' => v = .int ((k0 + cs.length : Nat) : Int) ∧ h' = [⟨b, 4, room, (((List.range cs.length).map fun i => A.raw (.bool (dec (((k0 + i : Nat) : Int) % 3 = 0)))).map fun a => [a]).flatten⟩]) := by
  refine fn_of_runD tyOk ztOk mix Tryz.func63 rfl (by decide) Tryz.ntmps63 (fun w0 F => ?_)
  repeat' (first
      | (refine j_go ?_; first
        | refine j_op0 rfl rfl rfl rfl ?_)
      | refine j_nil ?_
      | (refine r_go ?_; first | refine run_seq ?_ | refine run_region ?_ | refine run_block ?_)
      | refine seqQ_normal ?_)
  refine run_loop (fun i : Nat => [(0, .os b cs.length cap), (1, .int ((k0 + i : Nat) : Int)), (5, .int (i : Int))]) (fun i => ⟨b, 4, room, ((((List.range i).map fun q => A.raw (.bool (dec (((k0 + q : Nat) : Int) % 3 = 0)))) ++ cs.drop i).map fun a => [a]).flatten⟩ :: F)
      (fun i => i ≤ cs.length) (fun i => cs.length - i) 0 ⟨rfl, rfl, rfl, trivial⟩ (by simp) (by omega) ?_
  intro i g1
  by_cases hi : i < cs.length
  · refine run_some 0 rfl (by rw [sing_flat]; intro q; have := congrArg List.length q; simp at this; omega) (fun b' hb' => ?_)
    subst hb'
    repeat' (first
      | (refine j_go ?_; first
        | refine j_op0 rfl rfl rfl rfl ?_ | (refine j_kIdx rfl ?_; first | refine j_midx rfl rfl rfl rfl rfl (by first | omega | (simp only [List.length_append, List.length_cons, List.length_nil]; omega)) rfl rfl ?_) | (refine j_kBin rfl ?_; first | refine j_rem rfl rfl rfl rfl (by omega) rfl rfl ?_) | (refine j_kLen rfl ?_; first | refine j_op rfl rfl rfl rfl ?_))
      | refine j_nil ?_
      | (refine r_go ?_; first | refine run_seq ?_ | refine run_region ?_ | (refine (run_if rfl (fun hb => ?_) (fun hb => ?_)) <;> first | (exfalso; omega) | skip) | refine run_block ?_ | refine run_skip ?_)
      | refine seqQ_normal ?_)
    refine j_storeE 0 i (g := fun a => [a]) (A.raw (.bool (dec (((k0 + i : Nat) : Int) % 3 = 0)))) rfl rfl rfl rfl rfl rfl rfl rfl rfl (fun _ => rfl : ∀ y, ([y] : List A).length = 1) rfl (by simp; omega) ?_
    repeat' (first
      | (refine j_go ?_; first
        | refine j_op0 rfl rfl rfl rfl ?_ | (refine j_kBin rfl ?_; first | refine j_in rfl rfl ⟨by omega, by omega⟩ rfl rfl ?_))
      | refine j_nil ?_
      | (refine r_go ?_; first | refine run_region ?_)
      | refine seqQ_normal ?_ | refine blockQ_normal ?_)
    exact loopQ_next (i + 1) (by omega) (by omega) (by rw [← range_set (f := fun q => A.raw (.bool (dec (((k0 + q : Nat) : Int) % 3 = 0)))) _ rfl hi]; rfl) ⟨rfl, nx (k0 + i), nx _, trivial⟩
  · repeat' (first
      | (refine j_go ?_; first
        | refine j_op0 rfl rfl rfl rfl ?_ | (refine j_kLen rfl ?_; first | refine j_op rfl rfl rfl rfl ?_))
      | refine j_nil ?_
      | (refine r_go ?_; first | refine run_seq ?_ | refine run_region ?_ | (refine (run_if rfl (fun hb => ?_) (fun hb => ?_)) <;> first | (exfalso; omega) | skip) | refine run_ret ?_ | refine run_exit ?_)
      | refine seqQ_normal ?_ | refine seqQ_exit ?_ | refine blockQ_eq ?_ | refine loopQ_exit ?_)
    have : i = cs.length := by omega
    subst this
    exact endD_ret (h1 := [_]) rfl (.cons (.tmp rfl) .nil) (Le.refl _) ⟨rfl, by rw [List.drop_length, List.append_nil]⟩ (.inl rfl)
end Go.Proofs.YtmcljepicadjfaaGreatDoor

/-
  Results in memory of the call's own: their marks, and what is held of them. No condition but that the sizes are bounded.
-/
namespace Go.Proofs.YtmcljepicadjfaaGreatDoor
open Go.AI
set_option maxRecDepth 8000
set_option maxHeartbeats 1600000
def ROI (l : List Int) (a : A) (h : Heap) : Prop := OwnF Go.AI.encI 2 1 l a h
def ROB (l : List Bool) (a : A) (h : Heap) : Prop := OwnF encB 4 1 l a h
def ROII (L : List (List Int)) (a : A) (h : Heap) : Prop := OwnLL ROI 24 L a h
theorem ROI.frz {l : List Int} {a : A} {h : Heap} (o : ROI l a h) : Frz h a (.sl (l.map Go.AI.encI)) := OwnF.frz (fun _ => rfl) rfl o
theorem ROB.frz {l : List Bool} {a : A} {h : Heap} (o : ROB l a h) : Frz h a (.sl (l.map encB)) := OwnF.frz (fun _ => rfl) rfl o
theorem ROII.frz {l : List (List Int)} {a : A} {h : Heap} (o : ROII l a h) : Frz h a (.sl (l.map (encS Go.AI.encI))) := OwnLL.frz (enc := fun x => (x.map Go.AI.encI)) (fun _ _ _ q => q.frz) o (fun _ => rfl)
theorem ROI.clo {l : List Int} {a : A} {h : Heap} (o : ROI l a h) : Clo a ∧ CloH h := OwnF.clo (fun _ => CloL.cons (Clo.int _) CloL.nil) o
theorem ROB.clo {l : List Bool} {a : A} {h : Heap} (o : ROB l a h) : Clo a ∧ CloH h := OwnF.clo (fun _ => CloL.cons (Clo.raw _) CloL.nil) o
theorem ROII.clo {l : List (List Int)} {a : A} {h : Heap} (o : ROII l a h) : Clo a ∧ CloH h := OwnLL.clo (fun _ _ _ q => q.clo) o
noncomputable def markedB (k n : Nat) : List Bool := (List.range n).map fun i => dec (((k + i : Nat) : Int) % 3 = 0)
theorem markedB_len {k n : Nat} : (markedB k n).length = n := by simp [markedB]
theorem markedB_get {k n i : Nat} (h : i < (markedB k n).length) : (markedB k n)[i] = dec (((k + i : Nat) : Int) % 3 = 0) := by simp [markedB]
theorem r_markI (r : List Int) (a : A) (h : Heap) (k0 : Nat) (o : ROI r a h) (hk : k0 + r.length ≤ 4611686018427387904) :
    Does Tryz.prog 62 [a, .int (k0 : Int)] h (fun v h' => v = .int ((k0 + r.length : Nat) : Int) ∧ ROI (markedI k0 r.length) a h') := by
  rcases o with ⟨b, cap, rfl, rfl⟩ | ⟨rfl, rfl, rfl⟩
  case inr =>
    refine fn_of_runD tyOk ztOk mix Tryz.func62 rfl (by decide) Tryz.ntmps62 (fun w0 F => ?_)
    change Run _ _ _ _ _ F
    repeat' (first
      | (refine j_go ?_; first
        | refine j_op0 rfl rfl rfl rfl ?_)
      | refine j_nil ?_
      | (refine r_go ?_; first | refine run_seq ?_ | refine run_region ?_ | refine run_block ?_)
      | refine seqQ_normal ?_)
    refine run_loop (fun _ : Unit => [(0, .sl []), (1, .int (k0 : Int)), (5, .int 0)]) (fun _ => F) (fun _ => True) (fun _ => 0) () ⟨rfl, rfl, rfl, trivial⟩ rfl trivial (fun _ _ => ?_)
    repeat' (first
      | (refine j_go ?_; first
        | refine j_op0 rfl rfl rfl rfl ?_ | (refine j_kLen rfl ?_; first | refine j_op rfl rfl rfl rfl ?_))
      | refine j_nil ?_
      | (refine r_go ?_; first | refine run_seq ?_ | refine run_region ?_ | (refine (run_if rfl (fun hb => ?_) (fun hb => ?_)) <;> first | (exfalso; omega) | skip) | refine run_block ?_ | refine run_ret ?_ | refine run_exit ?_ | refine run_skip ?_)
      | refine seqQ_normal ?_ | refine seqQ_exit ?_ | refine blockQ_eq ?_ | refine loopQ_exit ?_)
    · exact absurd hb (by simp)
    exact endD_ret (h1 := []) rfl (vs := [_]) (.cons (.tmp rfl) .nil) (Le.refl _) ⟨rfl, .inr ⟨rfl, rfl, rfl⟩⟩ (.inl rfl)
  have := x_markI b cap k0 r hk
  exact this.drop fun v h' ⟨q1, q2⟩ => ⟨h', h', .refl _, List.Sublist.refl _, q1, .inl ⟨b, cap, by rw [markedI_len], q2⟩⟩
theorem r_markB (r : List Bool) (a : A) (h : Heap) (k0 : Nat) (o : ROB r a h) (hk : k0 + r.length ≤ 4611686018427387904) :
    Does Tryz.prog 63 [a, .int (k0 : Int)] h (fun v h' => v = .int ((k0 + r.length : Nat) : Int) ∧ ROB (markedB k0 r.length) a h') := by
  rcases o with ⟨b, cap, rfl, rfl⟩ | ⟨rfl, rfl, rfl⟩
  case inr =>
    refine fn_of_runD tyOk ztOk mix Tryz.func63 rfl (by decide) Tryz.ntmps63 (fun w0 F => ?_)
    change Run _ _ _ _ _ F
    repeat' (first
      | (refine j_go ?_; first
        | refine j_op0 rfl rfl rfl rfl ?_)
      | refine j_nil ?_
      | (refine r_go ?_; first | refine run_seq ?_ | refine run_region ?_ | refine run_block ?_)
      | refine seqQ_normal ?_)
    refine run_loop (fun _ : Unit => [(0, .sl []), (1, .int (k0 : Int)), (5, .int 0)]) (fun _ => F) (fun _ => True) (fun _ => 0) () ⟨rfl, rfl, rfl, trivial⟩ rfl trivial (fun _ _ => ?_)
    repeat' (first
      | (refine j_go ?_; first
        | refine j_op0 rfl rfl rfl rfl ?_ | (refine j_kBin rfl ?_; first | refine j_rem rfl rfl rfl rfl (by omega) rfl rfl ?_) | (refine j_kLen rfl ?_; first | refine j_op rfl rfl rfl rfl ?_))
      | refine j_nil ?_
      | (refine r_go ?_; first | refine run_seq ?_ | refine run_region ?_ | (refine (run_if rfl (fun hb => ?_) (fun hb => ?_)) <;> first | (exfalso; omega) | skip) | refine run_block ?_ | refine run_ret ?_ | refine run_exit ?_ | refine run_skip ?_)
      | refine seqQ_normal ?_ | refine seqQ_exit ?_ | refine blockQ_eq ?_ | refine loopQ_exit ?_)
    · exact absurd hb (by simp)
    exact endD_ret (h1 := []) rfl (vs := [_]) (.cons (.tmp rfl) .nil) (Le.refl _) ⟨rfl, .inr ⟨rfl, rfl, rfl⟩⟩ (.inl rfl)
  have := x_markBoolS b cap (cap * 1) k0 (r.map fun x => A.raw (.bool x)) (by simpa using hk)
  have e1 : ((r.map fun x => A.raw (.bool x)).map fun a => [a]) = r.map encB := by simp [encB]
  have e2 : (((List.range r.length).map fun i => A.raw (.bool (dec (((k0 + i : Nat) : Int) % 3 = 0)))).map fun a => [a]) = (markedB k0 r.length).map encB := by simp [encB, markedB]
  rw [e1, List.length_map, e2] at this
  exact this.drop fun v h' ⟨q1, q2⟩ => ⟨h', h', .refl _, List.Sublist.refl _, q1, .inl ⟨b, cap, by rw [markedB_len], q2⟩⟩
theorem c_heldBoolS (k0 n : Nat) (hk : k0 + n ≤ 4611686018427387904) : Gives Tryz.prog 66 [.sl ((markedB k0 n).map encB), .int (k0 : Int)] (.int ((k0 + n : Nat) : Int)) := by
  have hn : (markedB k0 n).length = n := markedB_len
  refine fn_of_run tyOk ztOk mix Tryz.func66 rfl (by decide) Tryz.ntmps66 (fun w0 h => ?_)
  repeat' (first
      | (refine j_go ?_; first
        | refine j_op0 rfl rfl rfl rfl ?_)
      | refine j_nil ?_
      | (refine r_go ?_; first | refine run_seq ?_ | refine run_region ?_ | refine run_block ?_)
      | refine seqQ_normal ?_)
  refine run_loop (fun i : Nat => [(0, .sl ((markedB k0 n).map encB)), (1, .int ((k0 + i : Nat) : Int)), (5, .int (i : Int))]) (fun _ => h) (fun i => i ≤ n) (fun i => n - i) 0 ⟨rfl, rfl, rfl, trivial⟩ rfl (by omega) ?_
  intro i g1
  by_cases hi : i < n
  · have hLi := markedB_get (k := k0) (n := n) (i := i) (by omega)
    repeat' (first
      | (refine j_go ?_; first
        | refine j_op0 rfl rfl rfl rfl ?_ | (refine j_kIdx rfl ?_; first | refine j_idx rfl rfl rfl rfl rfl (by omega) rfl rfl rfl ?_) | (refine j_kBin rfl ?_; first | refine j_in rfl rfl ⟨by omega, by omega⟩ rfl rfl ?_ | refine j_rem rfl rfl rfl rfl (by omega) rfl rfl ?_) | (refine j_kLen rfl ?_; first | refine j_len rfl rfl rfl rfl rfl rfl ?_))
      | refine j_nil ?_
      | (refine r_go ?_; first | refine run_seq ?_ | refine run_region ?_ | (refine (run_if rfl (fun hb => ?_) (fun hb => ?_)) <;> first | (exfalso; omega) | skip) | (refine (run_ifn rfl (fun hb => ?_) (fun hb => ?_)) <;> first | (exfalso; omega) | skip) | refine run_block ?_ | refine run_ret ?_ | refine run_skip ?_)
      | refine seqQ_normal ?_ | refine seqQ_ret ?_ | refine blockQ_normal ?_ | refine blockQ_ret ?_ | refine loopQ_ret ?_)
    all_goals first | exact loopQ_next (i + 1) (by omega) (by omega) rfl ⟨rfl, nx (k0 + i), nx _, trivial⟩ | exact absurd hLi hb | trace_state
  · repeat' (first
      | (refine j_go ?_; first
        | refine j_op0 rfl rfl rfl rfl ?_ | (refine j_kLen rfl ?_; first | refine j_len rfl rfl rfl rfl rfl rfl ?_))
      | refine j_nil ?_
      | (refine r_go ?_; first | refine run_seq ?_ | refine run_region ?_ | (refine (run_if rfl (fun hb => ?_) (fun hb => ?_)) <;> first | (exfalso; omega) | skip) | refine run_ret ?_ | refine run_exit ?_)
      | refine seqQ_normal ?_ | refine seqQ_exit ?_ | refine blockQ_eq ?_ | refine loopQ_exit ?_)
    have : i = n := by omega
    subst this
    exact end1 rfl (List.Sublist.refl _) rfl (.inl rfl)
theorem OwnF.okc {α : Type} {g : α → List A} {T z : Nat} {l : List α} {a : A} {h : Heap} (o : OwnF g T z l a h) : okCell a = true := by
  rcases o with ⟨b, cap, rfl, rfl⟩ | ⟨rfl, rfl, rfl⟩ <;> rfl
theorem OwnLL.okc {β : Type} {O : β → A → Heap → Prop} {T : Nat} {L : List β} {a : A} {h : Heap} (o : OwnLL O T L a h) : okCell a = true := by
  rcases o with ⟨b, cap, vs, hs, _, _, _, rfl, rfl⟩ | ⟨rfl, rfl, rfl⟩ <;> rfl

theorem ROI.frzF {l : List Int} {a : A} {h : Heap} (o : ROI l a h) : FrzF h a (.sl (l.map Go.AI.encI)) := OwnF.frzF (fun _ => rfl) rfl o
theorem ROB.frzF {l : List Bool} {a : A} {h : Heap} (o : ROB l a h) : FrzF h a (.sl (l.map encB)) := OwnF.frzF (fun _ => rfl) rfl o
theorem ROII.frzF {l : List (List Int)} {a : A} {h : Heap} (o : ROII l a h) : FrzF h a (.sl (l.map (encS Go.AI.encI))) := OwnLL.frzF (enc := fun x => (x.map Go.AI.encI)) (fun _ _ _ q => q.frzF) o (fun _ => rfl)
end Go.Proofs.YtmcljepicadjfaaGreatDoor

/-
  Formulas in memory of the call's own: their marks, and what is held of them. No condition but that the sizes are bounded.
-/
namespace Go.Proofs.YtmcljepicadjfaaGreatDoor
open Go.AI
set_option maxRecDepth 8000
set_option maxHeartbeats 1600000
end Go.Proofs.YtmcljepicadjfaaGreatDoor

/-
  Formulas read from texts: ReadCnf of the reference. No condition but that the text is not longer than a machine holds.
-/
namespace Go.Proofs.YtmcljepicadjfaaGreatDoor
open Go.AI Go.RowKit
set_option maxRecDepth 8000
set_option maxHeartbeats 1600000
/-- Where a text is cut so far. -/
structure SplAt (c : UInt8) (s : List UInt8) (i fr : Nat) (ws : List (List UInt8)) : Prop where
  le : fr ≤ i
  il : i ≤ s.length
  eq : spl c (s.take i) = ws ++ [(s.take i).drop fr]
theorem SplAt.nil (c : UInt8) (s : List UInt8) : SplAt c s 0 0 [] := ⟨Nat.le_refl _, Nat.zero_le _, by simp [spl]⟩
theorem SplAt.hit {c : UInt8} {s : List UInt8} {i fr : Nat} {ws : List (List UInt8)} (h : SplAt c s i fr ws) (hi : i < s.length) (hc : s[i] = c) : SplAt c s (i + 1) (i + 1) (ws ++ [(s.take i).drop fr]) := by
  refine ⟨Nat.le_refl _, hi, ?_⟩
  rw [List.take_succ_eq_append_getElem hi, hc, spl_snoc_eq, h.eq]
  congr 2
  rw [List.drop_of_length_le (by rw [List.length_append, List.length_take, List.length_singleton]; omega)]
theorem SplAt.miss {c : UInt8} {s : List UInt8} {i fr : Nat} {ws : List (List UInt8)} (h : SplAt c s i fr ws) (hi : i < s.length) (hc : ¬ s[i] = c) : SplAt c s (i + 1) fr ws := by
  refine ⟨Nat.le_succ_of_le h.le, hi, ?_⟩
  obtain ⟨vs, w, q1, q2⟩ := spl_snoc_ne c s[i] hc (s.take i)
  have q3 := q1.symm.trans h.eq
  have e1 : vs = ws := by
    have := congrArg List.dropLast q3
    simpa using this
  have e2 : w = (s.take i).drop fr := by
    have := congrArg List.getLast? q3
    simpa using this
  rw [List.take_succ_eq_append_getElem hi, q2, e1, e2, List.drop_append_of_le_length (by rw [List.length_take]; have := h.le; omega)]
theorem SplAt.len {c : UInt8} {s : List UInt8} {i fr : Nat} {ws : List (List UInt8)} (h : SplAt c s i fr ws) : ws.length ≤ i := by
  have q := spl_len c (s.take i)
  rw [h.eq, List.length_append, List.length_singleton, List.length_take] at q
  omega
theorem SplAt.all {c : UInt8} {s : List UInt8} {fr : Nat} {ws : List (List UInt8)} (h : SplAt c s s.length fr ws) : spl c s = ws ++ [s.drop fr] := by
  have := h.eq
  rwa [List.take_length] at this

theorem c_l06Lines (s : List UInt8) (hs : s.length ≤ 1048576) : Gives Tryz.prog 52 [.str s] (.tup [.sl ((lnW s).map encW), .raw (.bool (dec (lnE s = [])))]) := by
  refine fn_of_run tyOk ztOk mix Tryz.func52 rfl (by decide) Tryz.ntmps52 (fun w0 h => ?_)
  repeat' (first
      | (refine j_go ?_; first
        | refine j_op0 rfl rfl rfl rfl ?_ | (refine j_kBsl rfl ?_; first | refine j_bs0 rfl rfl rfl rfl rfl rfl ?_))
      | refine j_nil ?_
      | (refine r_go ?_; first | refine run_seq ?_ | refine run_region ?_ | refine run_block ?_)
      | refine seqQ_normal ?_)
  refine run_view (view_none 9 0 rfl) ?_
  refine run_loop (fun x : (Nat × Nat × List (List UInt8)) × Option Nat × Nat => [(0, .str s), (4, .os x.2.1 x.1.2.2.length x.2.2), (5, .int (x.1.2.1 : Int)), (6, .int (x.1.1 : Int))]) (fun x => ⟨x.2.1, 9, x.2.2 * 1, (x.1.2.2.map encW).flatten⟩ :: h) (fun x => SplAt 10 s x.1.1 x.1.2.1 x.1.2.2) (fun x => s.length - x.1.1) ((0, 0, []), none, 0) ⟨rfl, rfl, rfl, rfl, trivial⟩ rfl (SplAt.nil 10 s) (fun ⟨⟨k, fr, ws⟩, ob, cp⟩ sp => ?_)
  dsimp only at sp ⊢
  have kl := sp.il
  have fl := sp.le
  have wl := sp.len
  by_cases hk : k < s.length
  · repeat' (first
      | (refine j_go ?_; first
        | refine j_op0 rfl rfl rfl rfl ?_ | (refine j_kBin rfl ?_; first | refine j_in rfl rfl ⟨by omega, by omega⟩ rfl rfl ?_) | (refine j_kLen rfl ?_; first | refine j_op rfl rfl rfl rfl ?_) | (refine j_kBsl rfl ?_; first | refine j_bsl rfl rfl rfl rfl rfl rfl rfl rfl rfl rfl rfl ?_) | (refine j_kSlice rfl ?_; first | refine j_ss rfl rfl rfl rfl rfl rfl (by omega) rfl rfl ?_) | refine j_si rfl rfl rfl rfl rfl (by omega) rfl rfl ?_)
      | refine j_nil ?_
      | (refine r_go ?_; first | refine run_seq ?_ | refine run_region ?_ | (refine (run_if rfl (fun hb => ?_) (fun hb => ?_)) <;> first | (exfalso; omega) | skip) | refine run_block ?_ | refine run_skip ?_)
      | refine seqQ_normal ?_ | refine blockQ_normal ?_)
    · have hc : s[k] = 10 := by assumption
      refine j_append 0 (g := encW) [(s.take k).drop fr] rfl rfl rfl rfl rfl rfl rfl rfl rfl rfl rfl rfl (fun _ => rfl) (fun _ _ => rfl) ⟨by simp only [List.length_cons, List.length_nil]; omega, by simp only [List.length_cons, List.length_nil]; omega⟩ rfl rfl (fun b' cap' => ?_)
      repeat' (first
      | (refine j_go ?_; first
        | refine j_op0 rfl rfl rfl rfl ?_ | (refine j_kBin rfl ?_; first | refine j_in rfl rfl ⟨by omega, by omega⟩ rfl rfl ?_))
      | refine j_nil ?_
      | (refine r_go ?_; first | refine run_region ?_)
      | refine seqQ_normal ?_ | refine blockQ_normal ?_)
      exact loopQ_next ((k + 1, k + 1, ws ++ [(s.take k).drop fr]), b', cap') (sp.hit hk hc) (by dsimp only; omega) rfl ⟨rfl, rfl, nx _, nx _, trivial⟩
    · have hc : ¬ s[k] = 10 := by assumption
      exact loopQ_next ((k + 1, fr, ws), ob, cp) (sp.miss hk hc) (by dsimp only; omega) rfl ⟨rfl, rfl, rfl, nx _, trivial⟩
  · have hke : k = s.length := by omega
    subst hke
    have hall := sp.all
    have e1 : lnW s = ws := by unfold lnW; rw [hall]; simp
    have e2 : lnE s = s.drop fr := by unfold lnE; simp only [hall]; simp
    have e3 : lnE s = [] ↔ ((fr : Nat) : Int) = (s.length : Int) := by
      rw [e2, List.drop_eq_nil_iff]; omega
    repeat' (first
      | (refine j_go ?_; first
        | refine j_op0 rfl rfl rfl rfl ?_ | (refine j_kLen rfl ?_; first | refine j_op rfl rfl rfl rfl ?_))
      | refine j_nil ?_
      | (refine r_go ?_; first | refine run_seq ?_ | refine run_region ?_ | (refine (run_if rfl (fun hb => ?_) (fun hb => ?_)) <;> first | (exfalso; omega) | skip) | refine run_ret ?_ | refine run_exit ?_)
      | refine seqQ_normal ?_ | refine seqQ_exit ?_ | refine blockQ_eq ?_ | refine loopQ_exit ?_)
    refine end_view (view_freeze (g := encW) (z := 1) (ys := ws) 0 2 rfl rfl rfl (fun _ => rfl) rfl rfl) ?_
    exact end2 rfl rfl (List.Sublist.refl _) (by rw [e1, dec_congr e3]) (.inl rfl)

theorem c_l06Cut (s p : List UInt8) (hs : s.length ≤ 1048576) (hp : p.length ≤ 100) (hp0 : p ≠ []) : Gives Tryz.prog 71 [.str s, .str p] (.tup [.str (cutR p s).1, .str (cutR p s).2.1, .raw (.bool (cutR p s).2.2)]) := by
  refine fn_of_run tyOk ztOk mix Tryz.func71 rfl (by decide) Tryz.ntmps71 (fun w0 h => ?_)
  have hp1 : 0 < p.length := List.length_pos_iff.2 hp0
  repeat' (first
      | (refine j_go ?_; first
        | refine j_op0 rfl rfl rfl rfl ?_)
      | refine j_nil ?_
      | (refine r_go ?_; first | refine run_seq ?_ | refine run_region ?_ | refine run_block ?_)
      | refine seqQ_normal ?_)
  refine run_loop (fun k : Nat => [(0, .str s), (1, .str p), (7, .int (k : Int))]) (fun _ => _) (fun k => k ≤ s.length ∧ (∀ i (_ : i < s.length + 1), i < k → ¬ p.isPrefixOf (s.drop i) = true)) (fun k => s.length - k) 0 ⟨rfl, rfl, rfl, trivial⟩ rfl ⟨Nat.zero_le _, by first | (intros; omega) | (simp; done) | rfl | trivial | exact ⟨by simp [sumF], by intros; omega⟩ | exact ⟨by omega, by simp⟩⟩ (fun k ⟨kl, kp⟩ => ?_)
  by_cases hk : k + p.length ≤ s.length
  · have e0 : (s.take ((k : Int) + (p.length : Int)).toNat).drop (k : Int).toNat = (s.drop k).take p.length := by
      rw [show ((k : Int) + (p.length : Int)).toNat = k + p.length from by omega, Int.toNat_natCast, List.drop_take, Nat.add_sub_cancel_left]
    have e1 : (s.drop k).take p.length = p ↔ p.isPrefixOf (s.drop k) = true := by
      rw [List.isPrefixOf_iff_prefix]
      exact ⟨fun q => by rw [← q]; exact List.take_prefix _ _, fun ⟨t, q⟩ => by rw [← q]; simp⟩
    repeat' (first
      | (refine j_go ?_; first
        | refine j_op0 rfl rfl rfl rfl ?_ | (refine j_kBin rfl ?_; first | refine j_in rfl rfl ⟨by omega, by omega⟩ rfl rfl ?_) | (refine j_kLen rfl ?_; first | refine j_op rfl rfl rfl rfl ?_) | (refine j_kSlice rfl ?_; first | refine j_ss rfl rfl rfl rfl rfl rfl (by omega) rfl rfl ?_))
      | refine j_nil ?_
      | (refine r_go ?_; first | refine run_seq ?_ | refine run_region ?_ | (refine (run_if rfl (fun hb => ?_) (fun hb => ?_)) <;> first | (exfalso; omega) | skip) | refine run_block ?_ | refine run_ret ?_ | refine run_skip ?_ | refine run_regionD (by kernel_rfl) ?_)
      | refine seqQ_normal ?_ | refine seqQ_ret ?_ | refine blockQ_normal ?_ | refine blockQ_ret ?_ | refine loopQ_ret ?_)
    · have q := e1.1 (e0.symm.trans (by assumption))
      rw [cutR_at (by omega) q (fun i h => kp i (by omega) h)]
      exact end_ret (List.Sublist.refl _) (.cons (.tmp rfl) (.cons (.tmp rfl) (.cons (.tmp rfl) .nil))) (by rw [show ((k : Int) + (p.length : Int)).toNat = k + p.length from by omega, Int.toNat_natCast, Int.toNat_natCast, List.take_length]; rfl) (.inl rfl)
    · exact loopQ_nextD (k + 1) ⟨by omega, all_step kp (fun _ q => hb (e0.trans (e1.2 q)))⟩ (by omega) (by first | exact List.Sublist.refl _ | exact sub1 | exact sub2 | exact sub3) ⟨rfl, rfl, nx _, trivial⟩
  · repeat' (first
      | (refine j_go ?_; first
        | refine j_op0 rfl rfl rfl rfl ?_ | (refine j_kBin rfl ?_; first | refine j_in rfl rfl ⟨by omega, by omega⟩ rfl rfl ?_) | (refine j_kLen rfl ?_; first | refine j_op rfl rfl rfl rfl ?_))
      | refine j_nil ?_
      | (refine r_go ?_; first | refine run_seq ?_ | refine run_region ?_ | (refine (run_if rfl (fun hb => ?_) (fun hb => ?_)) <;> first | (exfalso; omega) | skip) | refine run_ret ?_ | refine run_exit ?_)
      | refine seqQ_normal ?_ | refine seqQ_exit ?_ | refine blockQ_eq ?_ | refine loopQ_exit ?_)
    rw [cutR_no (fun i hi q => by
      by_cases hik : i < k
      · exact kp i (by omega) hik q
      · have := (List.isPrefixOf_iff_prefix.1 q).length_le
        rw [List.length_drop] at this
        omega)]
    exact end_ret (List.Sublist.refl _) (.cons (.tmp rfl) (.cons (.tmp rfl) (.cons (.tmp rfl) .nil))) rfl (.inl rfl)



end Go.Proofs.YtmcljepicadjfaaGreatDoor
