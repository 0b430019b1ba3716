/-
  Bags read from texts: plain facts. No condition.
-/
import Derived.Test.YtmcljepicadjfaaGreatDoorZRd
import Derived.Test.YtmcljepicadjfaaGreatDoorZRf
import Derived.Test.YtmcljepicadjfaaGreatDoorZG6
import Derived.Test.YtmcljepicadjfaaGreatDoorZE4
namespace Go.AI
open Go.RowKit
theorem kind_nat {k : Nat} (h : k ≤ 7) : (UInt8.ofNat (97 + k)).toNat = 97 + k := by
  rw [UInt8.toNat_ofNat_of_lt' (by have : UInt8.size = 256 := rfl; omega)]
theorem kindW_head (k : Nat) (n : Int) : ∃ r, kindW k n = UInt8.ofNat (97 + k) :: r := ⟨_, rfl⟩
theorem kindW_no {k : Nat} {n : Int} (h : k ≤ 7) {c : UInt8} (hc : c.toNat < 48 ∧ c.toNat ≠ 45) : c ∉ kindW k n := fun q => by
  unfold kindW at q
  rcases List.mem_cons.1 q with q | q
  · have := kind_nat h
    rw [← q] at this; omega
  · split at q
    · exact dcm_no (by omega) (.inl (by omega)) q
    · cases q
theorem bagWs_mem2 {b : List Int} : ∀ k, ∀ w ∈ bagWs b k, ∃ i, i < k ∧ w = kindW i (b.getD i 0)
  | 0, w, hw => by cases hw
  | k + 1, w, hw => by
    rw [bagWs] at hw
    split at hw
    · rcases List.mem_append.1 hw with hw | hw
      · obtain ⟨i, h1, h2⟩ := bagWs_mem2 k w hw
        exact ⟨i, by omega, h2⟩
      · rw [List.mem_singleton] at hw
        exact ⟨k, by omega, hw⟩
    · obtain ⟨i, h1, h2⟩ := bagWs_mem2 k w hw
      exact ⟨i, by omega, h2⟩
theorem bagT_no {b : List Int} (hb : b.length ≤ 8) {c : UInt8} (hc : c.toNat < 48 ∧ c.toNat ≠ 45) (h32 : c ≠ 32) : c ∉ bagT b := fun q => by
  unfold bagT at q
  split at q
  · rw [List.mem_singleton] at q
    subst q
    revert hc; decide
  · unfold bagTk at q
    have : ∀ (ws : List (List UInt8)), (∀ w ∈ ws, c ∉ w) → c ∉ Lib.join ws [32] := fun ws => by
      cases ws with
      | nil => intro _ q; simp [Lib.join_nil] at q
      | cons x r =>
        intro hw q
        rw [Lib.join_cons] at q
        rcases List.mem_append.1 q with q | q
        · exact hw x (by simp) q
        · have h2 : ∀ r : List (List UInt8), (∀ w ∈ r, c ∉ w) → c ∉ Lib.joinTail [32] r := fun r => by
            induction r with
            | nil => intro _ q; simp [Lib.joinTail] at q
            | cons y r ih =>
              intro hr q
              simp only [Lib.joinTail, List.map_cons, List.flatten_cons, List.mem_append, List.mem_singleton] at q
              rcases q with (q | q) | q
              · exact h32 q
              · exact hr y (by simp) q
              · exact ih (fun w hw => hr w (by simp [hw])) (by simpa [Lib.joinTail] using q)
          exact h2 r (fun w hw' => hw w (by simp [hw'])) q
    refine this _ (fun w hw => ?_) q
    obtain ⟨i, h1, rfl⟩ := bagWs_mem2 _ w hw
    exact kindW_no (by omega) hc
/-- What has been read of a bag when its first m kinds are. -/
def pf (c : List Int) (m : Nat) : List Int := (List.range c.length).map fun i => if i < m then c.getD i 0 else 0
theorem pf_zero (c : List Int) : pf c 0 = List.replicate c.length 0 := by
  unfold pf
  simp only [Nat.not_lt_zero, if_false, List.map_const', List.length_range]
theorem pf_all (c : List Int) : pf c c.length = c := by
  refine List.ext_getElem (by simp [pf]) fun i h1 h2 => ?_
  simp [pf, h2]
theorem pf_skip {c : List Int} {m : Nat} (h : c.getD m 0 = 0) : pf c (m + 1) = pf c m := by
  refine List.ext_getElem (by simp [pf]) fun i h1 h2 => ?_
  simp only [pf, List.getElem_map, List.getElem_range]
  by_cases q : i < m
  · rw [if_pos q, if_pos (by omega)]
  · rw [if_neg q]
    by_cases z : i < m + 1
    · have : i = m := by omega
      subst this
      rw [if_pos z, h]
    · rw [if_neg z]
theorem pf_set {c : List Int} {j : Nat} (hj : j < c.length) : (pf c j).set j (c.getD j 0) = pf c (j + 1) := by
  refine List.ext_getElem (by simp [pf]) fun i h1 h2 => ?_
  rw [List.getElem_set]
  simp only [pf, List.getElem_map, List.getElem_range]
  by_cases q : j = i
  · subst q; rw [if_pos rfl, if_pos (by omega)]
  · rw [if_neg q]
    by_cases z : i < j
    · rw [if_pos z, if_pos (by omega)]
    · rw [if_neg z, if_neg (by omega)]
theorem bagWs_next (c : List Int) (hn : ∀ x ∈ c, 0 ≤ x) : ∀ (d m : Nat), c.length = m + d → (bagWs c m).length < (bagWs c c.length).length →
    ∃ j, m ≤ j ∧ j < c.length ∧ 0 < c.getD j 0 ∧ (bagWs c j).length = (bagWs c m).length ∧ (∃ r, bagWs c c.length = bagWs c j ++ kindW j (c.getD j 0) :: r) ∧ pf c j = pf c m
  | 0, m, h, hl => by rw [show m = c.length by omega] at hl; exact absurd hl (Nat.lt_irrefl _)
  | d + 1, m, h, hl => by
    have hm : m < c.length := by omega
    by_cases h0 : 0 < c.getD m 0
    · refine ⟨m, Nat.le_refl _, hm, h0, rfl, ?_, rfl⟩
      have : ∀ (e k : Nat), ∃ r, bagWs c (m + 1 + e) = bagWs c m ++ kindW m (c.getD m 0) :: r := fun e _ => by
        induction e with
        | zero => exact ⟨[], by rw [Nat.add_zero, bagWs, if_pos h0]⟩
        | succ e ih =>
          obtain ⟨r, hr⟩ := ih
          rw [← Nat.add_assoc, bagWs]
          split
          · exact ⟨r ++ [kindW (m + 1 + e) (c.getD (m + 1 + e) 0)], by rw [hr]; simp⟩
          · exact ⟨r, hr⟩
      obtain ⟨r, hr⟩ := this d 0
      exact ⟨r, by rw [← hr]; congr 1; omega⟩
    · have hz : c.getD m 0 = 0 := by
        rw [getD_at hm] at h0 ⊢
        have := hn _ (List.getElem_mem hm)
        omega
      have e1 : bagWs c (m + 1) = bagWs c m := by rw [bagWs, if_neg h0]
      obtain ⟨j, h1, h2, h3, h4, h5, h6⟩ := bagWs_next c hn d (m + 1) (by omega) (by rw [e1]; exact hl)
      exact ⟨j, by omega, h2, h3, by rw [h4, e1], h5, by rw [h6, pf_skip hz]⟩
theorem bagWs_end (c : List Int) (hn : ∀ x ∈ c, 0 ≤ x) : ∀ (d m : Nat), c.length = m + d → (bagWs c m).length = (bagWs c c.length).length → pf c m = c
  | 0, m, h, _ => by rw [show m = c.length by omega]; exact pf_all c
  | d + 1, m, h, hl => by
    have hm : m < c.length := by omega
    have mono : ∀ e k : Nat, (bagWs c k).length ≤ (bagWs c (k + e)).length := fun e k => by
      induction e with
      | zero => exact Nat.le_refl _
      | succ e ih =>
        rw [← Nat.add_assoc, bagWs]
        split
        · rw [List.length_append]; omega
        · exact ih
    by_cases h0 : 0 < c.getD m 0
    · have e1 : (bagWs c (m + 1)).length = (bagWs c m).length + 1 := by rw [bagWs, if_pos h0]; simp
      have := mono d (m + 1)
      rw [show m + 1 + d = c.length by omega] at this
      omega
    · have hz : c.getD m 0 = 0 := by
        rw [getD_at hm] at h0 ⊢
        have := hn _ (List.getElem_mem hm)
        omega
      have e1 : bagWs c (m + 1) = bagWs c m := by rw [bagWs, if_neg h0]
      rw [← pf_skip hz]
      exact bagWs_end c hn d (m + 1) (by omega) (by rw [e1]; exact hl)
theorem join_head {w : List UInt8} {ws : List (List UInt8)} {x : UInt8} {r : List UInt8} (h : w = x :: r) (sep : List UInt8) : ∃ r2, Lib.join (w :: ws) sep = x :: r2 := by
  rw [Lib.join_cons, h]; exact ⟨_, rfl⟩
theorem bag_dash {c : List Int} (hn : ∀ x ∈ c, 0 ≤ x) (h8 : c.length ≤ 8) (h : bagT c = [45]) : List.replicate c.length 0 = c := by
  have hw : bagWs c c.length = [] := by
    unfold bagT at h
    split at h
    · assumption
    · cases hb : bagWs c c.length with
      | nil => rfl
      | cons w ws =>
        obtain ⟨i, h1, h2⟩ := bagWs_mem2 (b := c) c.length w (by rw [hb]; simp)
        obtain ⟨r, hr⟩ := kindW_head i (c.getD i 0)
        obtain ⟨r2, h3⟩ := join_head (ws := ws) (h2.trans hr) [32]
        unfold bagTk at h
        rw [hb, h3] at h
        have q := (List.cons.inj h).1
        have := kind_nat (k := i) (by omega)
        rw [q] at this
        simp at this; omega
  rw [← pf_zero]
  exact bagWs_end c hn c.length 0 (by omega) (by rw [hw]; rfl)
theorem bag_words {c : List Int} (h8 : c.length ≤ 8) (h : bagT c ≠ [45]) : spl 32 (bagT c) = bagWs c c.length := by
  have hw : bagWs c c.length ≠ [] := fun q => h (by unfold bagT; rw [if_pos q])
  have e : bagT c = Lib.join (bagWs c c.length) [32] := by unfold bagT bagTk; rw [if_neg hw]
  rw [e]
  cases hb : bagWs c c.length with
  | nil => exact absurd hb hw
  | cons w ws =>
    refine spl_join 32 w ws fun x hx => ?_
    obtain ⟨i, h1, rfl⟩ := bagWs_mem2 (b := c) c.length x (by rw [hb]; exact hx)
    exact kindW_no (by omega) (by decide)
/-- One word read. -/
def stepB (b : List Int) (w : List UInt8) : List Int := b.set ((w.headD 0).toNat - 97) (if 1 < w.length then pIv (w.drop 1) else 1)
def rdB (n : Nat) (t : List UInt8) : List Int := if t = [45] then List.replicate n 0 else (spl 32 t).foldl stepB (List.replicate n 0)
theorem stepB_len (b : List Int) (w : List UInt8) : (stepB b w).length = b.length := by simp [stepB]
theorem foldB_len : ∀ (ws : List (List UInt8)) (b : List Int), (ws.foldl stepB b).length = b.length
  | [], _ => rfl
  | w :: ws, b => by rw [List.foldl_cons, foldB_len ws, stepB_len]
theorem rdB_len (n : Nat) (t : List UInt8) : (rdB n t).length = n := by
  unfold rdB
  split
  · simp
  · rw [foldB_len]; simp
theorem kindW_len1 {k : Nat} {n : Int} : 1 < (kindW k n).length ↔ 1 < n := by
  unfold kindW
  split
  · rename_i h
    have := dcm_ne n
    have : 0 < (dcm n).length := List.length_pos_iff.2 this
    simp only [List.length_cons]
    omega
  · simp only [List.length_cons, List.length_nil]; omega
theorem kindW_drop {k : Nat} {n : Int} (h : 1 < n) : (kindW k n).drop 1 = dcm n := by unfold kindW; rw [if_pos h]; rfl
theorem stepB_kind {c : List Int} {j : Nat} (hj : j < c.length) (h8 : c.length ≤ 8) (h0 : 0 < c.getD j 0) (hb : c.getD j 0 ≤ 1000) : stepB (pf c j) (kindW j (c.getD j 0)) = pf c (j + 1) := by
  unfold stepB
  have e1 : ((kindW j (c.getD j 0)).headD 0).toNat - 97 = j := by
    show (UInt8.ofNat (97 + j)).toNat - 97 = j
    rw [kind_nat (by omega)]; omega
  rw [e1]
  have e2 : (if 1 < (kindW j (c.getD j 0)).length then pIv ((kindW j (c.getD j 0)).drop 1) else 1) = c.getD j 0 := by
    by_cases h : 1 < c.getD j 0
    · rw [if_pos (kindW_len1.2 h), kindW_drop h, pIv_dcm (by omega)]
    · rw [if_neg (fun q => h (kindW_len1.1 q))]; omega
  rw [e2]
  exact pf_set hj
theorem fold_bag {c : List Int} (hb : ∀ x ∈ c, 0 ≤ x ∧ x ≤ 1000) (h8 : c.length ≤ 8) : ∀ k, k ≤ c.length → (bagWs c k).foldl stepB (pf c 0) = pf c k
  | 0, _ => rfl
  | k + 1, hk => by
    have hk' : k < c.length := by omega
    have := hb _ (List.getElem_mem hk')
    rw [bagWs]
    split
    · rename_i h0
      rw [List.foldl_append, fold_bag hb h8 k (by omega), List.foldl_cons, List.foldl_nil]
      exact stepB_kind hk' h8 h0 (by rw [getD_at hk']; omega)
    · rename_i h0
      rw [fold_bag hb h8 k (by omega), pf_skip (by rw [getD_at hk'] at h0 ⊢; omega)]
theorem rdB_bag {c : List Int} (hb : Bag c) : rdB c.length (bagT c) = c := by
  have h8 := hb.2.2
  unfold rdB
  split
  · rename_i h
    exact bag_dash (fun x hx => (hb.1 x hx).1) h8 h
  · rename_i h
    rw [bag_words h8 h, ← pf_zero, fold_bag hb.1 h8 _ (Nat.le_refl _), pf_all]
/-- A text is that of a bag of so many kinds. -/
def IsBagT (n : Nat) (t : List UInt8) : Prop := ∃ c : List Int, Bag c ∧ c.length = n ∧ bagT c = t
theorem isBagT_iff {n : Nat} {t : List UInt8} : IsBagT n t ↔ Bag (rdB n t) ∧ bagT (rdB n t) = t := by
  constructor
  · rintro ⟨c, h1, rfl, rfl⟩
    rw [rdB_bag h1]; exact ⟨h1, rfl⟩
  · rintro ⟨h1, h2⟩
    exact ⟨_, h1, rdB_len n t, h2⟩
theorem isBagT_of {n : Nat} {t : List UInt8} (h : IsBagT n t) : ∃ c : List Int, rdB n t = c ∧ Bag c ∧ c.length = n ∧ bagT c = t := by
  obtain ⟨c, h1, rfl, rfl⟩ := h
  exact ⟨c, rdB_bag h1, h1, rfl, rfl⟩
end Go.AI
namespace Go.Proofs.YtmcljepicadjfaaGreatDoor
open Go.AI Go.RowKit
set_option maxRecDepth 8000
set_option maxHeartbeats 1600000
/-! ### Numbers of one to nine digits -/
end Go.Proofs.YtmcljepicadjfaaGreatDoor

/-
  Copies of lists in memory of the call's own, their marks, and what is held. No condition but that the sizes are bounded.
-/
namespace Go.Proofs.YtmcljepicadjfaaGreatDoor
open Go.AI
set_option maxRecDepth 8000
set_option maxHeartbeats 1600000
end Go.Proofs.YtmcljepicadjfaaGreatDoor

/-
  Results in memory of the call's own: their marks, and what is held of them. No condition but that the sizes are bounded.
-/
namespace Go.Proofs.YtmcljepicadjfaaGreatDoor
open Go.AI
set_option maxRecDepth 8000
set_option maxHeartbeats 1600000
def ROI (l : List Int) (a : A) (h : Heap) : Prop := OwnF Go.AI.encI 2 1 l a h
def ROB (l : List Bool) (a : A) (h : Heap) : Prop := OwnF encB 4 1 l a h
def ROII (L : List (List Int)) (a : A) (h : Heap) : Prop := OwnLL ROI 24 L a h
theorem ROI.frz {l : List Int} {a : A} {h : Heap} (o : ROI l a h) : Frz h a (.sl (l.map Go.AI.encI)) := OwnF.frz (fun _ => rfl) rfl o
theorem ROB.frz {l : List Bool} {a : A} {h : Heap} (o : ROB l a h) : Frz h a (.sl (l.map encB)) := OwnF.frz (fun _ => rfl) rfl o
theorem ROII.frz {l : List (List Int)} {a : A} {h : Heap} (o : ROII l a h) : Frz h a (.sl (l.map (encS Go.AI.encI))) := OwnLL.frz (enc := fun x => (x.map Go.AI.encI)) (fun _ _ _ q => q.frz) o (fun _ => rfl)
theorem ROI.clo {l : List Int} {a : A} {h : Heap} (o : ROI l a h) : Clo a ∧ CloH h := OwnF.clo (fun _ => CloL.cons (Clo.int _) CloL.nil) o
theorem ROB.clo {l : List Bool} {a : A} {h : Heap} (o : ROB l a h) : Clo a ∧ CloH h := OwnF.clo (fun _ => CloL.cons (Clo.raw _) CloL.nil) o
theorem ROII.clo {l : List (List Int)} {a : A} {h : Heap} (o : ROII l a h) : Clo a ∧ CloH h := OwnLL.clo (fun _ _ _ q => q.clo) o
theorem OwnF.okc {α : Type} {g : α → List A} {T z : Nat} {l : List α} {a : A} {h : Heap} (o : OwnF g T z l a h) : okCell a = true := by
  rcases o with ⟨b, cap, rfl, rfl⟩ | ⟨rfl, rfl, rfl⟩ <;> rfl
theorem OwnLL.okc {β : Type} {O : β → A → Heap → Prop} {T : Nat} {L : List β} {a : A} {h : Heap} (o : OwnLL O T L a h) : okCell a = true := by
  rcases o with ⟨b, cap, vs, hs, _, _, _, rfl, rfl⟩ | ⟨rfl, rfl, rfl⟩ <;> rfl

theorem ROI.frzF {l : List Int} {a : A} {h : Heap} (o : ROI l a h) : FrzF h a (.sl (l.map Go.AI.encI)) := OwnF.frzF (fun _ => rfl) rfl o
theorem ROB.frzF {l : List Bool} {a : A} {h : Heap} (o : ROB l a h) : FrzF h a (.sl (l.map encB)) := OwnF.frzF (fun _ => rfl) rfl o
theorem ROII.frzF {l : List (List Int)} {a : A} {h : Heap} (o : ROII l a h) : FrzF h a (.sl (l.map (encS Go.AI.encI))) := OwnLL.frzF (enc := fun x => (x.map Go.AI.encI)) (fun _ _ _ q => q.frzF) o (fun _ => rfl)
end Go.Proofs.YtmcljepicadjfaaGreatDoor

/-
  Formulas in memory of the call's own: their marks, and what is held of them. No condition but that the sizes are bounded.
-/
namespace Go.Proofs.YtmcljepicadjfaaGreatDoor
open Go.AI
set_option maxRecDepth 8000
set_option maxHeartbeats 1600000
end Go.Proofs.YtmcljepicadjfaaGreatDoor

/-
  Formulas read from texts: ReadCnf of the reference. No condition but that the text is not longer than a machine holds.
-/
namespace Go.Proofs.YtmcljepicadjfaaGreatDoor
open Go.AI Go.RowKit
set_option maxRecDepth 8000
set_option maxHeartbeats 1600000
/-- Where a text is cut so far. -/
structure SplAt (c : UInt8) (s : List UInt8) (i fr : Nat) (ws : List (List UInt8)) : Prop where
  le : fr ≤ i
  il : i ≤ s.length
  eq : spl c (s.take i) = ws ++ [(s.take i).drop fr]
theorem SplAt.nil (c : UInt8) (s : List UInt8) : SplAt c s 0 0 [] := ⟨Nat.le_refl _, Nat.zero_le _, by simp [spl]⟩
theorem SplAt.len {c : UInt8} {s : List UInt8} {i fr : Nat} {ws : List (List UInt8)} (h : SplAt c s i fr ws) : ws.length ≤ i := by
  have q := spl_len c (s.take i)
  rw [h.eq, List.length_append, List.length_singleton, List.length_take] at q
  omega
theorem SplAt.all {c : UInt8} {s : List UInt8} {fr : Nat} {ws : List (List UInt8)} (h : SplAt c s s.length fr ws) : spl c s = ws ++ [s.drop fr] := by
  have := h.eq
  rwa [List.take_length] at this

end Go.Proofs.YtmcljepicadjfaaGreatDoor

/-
  Steps: which rules are enabled, what the reference and the program compute. No condition.
-/
namespace Go.Proofs.YtmcljepicadjfaaGreatDoor
open Go.AI
set_option maxRecDepth 8000
set_option maxHeartbeats 1600000

def Within (a b : List Int) : Prop := ∀ i (ha : i < a.length) (hb : i < b.length), a[i] ≤ b[i]


def bagOf (t : State) (c : Int) : List Int := t.bags.getD c.toNat []
def IntoNow (s : System) (t : State) (r : Rule) (x : Into) : Prop := t.Lives x.cell ∧ pnow s t x.cell = r.cell
/-- A rule is enabled. -/
def EnP (s : System) (t : State) (r : Rule) : Prop := t.Lives r.cell ∧ Within r.need (bagOf t r.cell) ∧ Within r.have_ (bagOf t r.cell) ∧ ¬ (0 < tot r.lack ∧ Within r.lack (bagOf t r.cell)) ∧ ∀ i (h : i < r.into.length), IntoNow s t r r.into[i]
end Go.Proofs.YtmcljepicadjfaaGreatDoor

/-
  Steps: which rules are applicable, what the reference and the program compute; IsHalted. No condition.
-/
namespace Go.Proofs.YtmcljepicadjfaaGreatDoor
open Go.AI
set_option maxRecDepth 8000
set_option maxHeartbeats 1600000

open Classical in
/-- The greatest rank among those of some rules that are so and that have a cell. -/
noncomputable def bst (init : Int) (en : Rule → Prop) (c : Int) : List Rule → Int
  | [] => init
  | r :: rs => bst (if en r ∧ r.cell = c then max init r.rank else init) en c rs
/-- A rule is applicable. -/
def App (s : System) (t : State) (r : Rule) : Prop := EnP s t r ∧ ∀ x ∈ s.rules, EnP s t x → x.cell = r.cell → x.rank ≤ r.rank
end Go.Proofs.YtmcljepicadjfaaGreatDoor

/-
  Steps: the program's list of applicable rules; IsHalted. No condition.
-/
namespace Go.Proofs.YtmcljepicadjfaaGreatDoor
open Go.AI
set_option maxRecDepth 8000
set_option maxHeartbeats 1600000

end Go.Proofs.YtmcljepicadjfaaGreatDoor

/-
  States: what WeighState of the reference and of the program compute. No condition.
-/
namespace Go.Proofs.YtmcljepicadjfaaGreatDoor
open Go.AI
set_option maxRecDepth 8000
set_option maxHeartbeats 1600000

end Go.Proofs.YtmcljepicadjfaaGreatDoor

/-
  Choices: what is left of the bags; IsChoice. No condition.
-/
namespace Go.Proofs.YtmcljepicadjfaaGreatDoor
open Go.AI
set_option maxRecDepth 8000
set_option maxHeartbeats 1600000

/-- The sum of a list and another one m times. -/
def plusL (a b : List Int) (m : Int) : List Int := List.zipWith (fun x y => x + y * m) a b
/-- What is left of all bags behind the first k counts. -/
def restK (s : System) (t : State) (cs : List Int) : Nat → List (List Int)
  | 0 => t.bags
  | k + 1 => (restK s t cs k).set (s.rules.getD k default).cell.toNat (plusL ((restK s t cs k).getD (s.rules.getD k default).cell.toNat []) (s.rules.getD k default).need (0 - cs.getD k 0))
def Cnts (s : System) (cs : List Int) : Prop := (∀ x ∈ cs, 0 ≤ x ∧ x ≤ 1000) ∧ (cs.length : Int) = s.rules.length
/-- Counts are a choice. -/
def Ch (s : System) (t : State) (cs : List Int) : Prop := (∀ i (h : i < s.rules.length) (h2 : i < cs.length), 0 < cs[i] → App s t s.rules[i]) ∧ ∀ b ∈ restK s t cs s.rules.length, ∀ x ∈ b, 0 ≤ x
open Classical in
noncomputable def restA (s : System) (t : State) (cs : List Int) : A := if Ch s t cs then .sl ((restK s t cs s.rules.length).map (encS Go.AI.encI)) else .any (fun _ => True)
theorem Le.tup2 {a b c : A} (h : Le a c) : Le (.tup [a, b]) (.tup [c, b]) := fun S w x r => by
  cases r with
  | tup cs vs hl hr =>
    refine .tup _ vs hl (fun j hj hj' => ?_)
    cases j with
    | zero => exact h _ _ _ (hr 0 (by simp) hj')
    | succ j => exact hr (j + 1) (by simpa using hj) hj'
end Go.Proofs.YtmcljepicadjfaaGreatDoor

/-
  Choices: what the program computes of them; IsChoice, IsMaximal. No condition.
-/
namespace Go.Proofs.YtmcljepicadjfaaGreatDoor
open Go.AI
set_option maxRecDepth 8000
set_option maxHeartbeats 1600000

/-- All rules that are counted are applicable. -/
def AllApp (s : System) (t : State) (cs : List Int) : Prop := ∀ i (h : i < s.rules.length) (h2 : i < cs.length), 0 < cs[i] → App s t s.rules[i]
open Classical in
noncomputable def restI (s : System) (t : State) (cs : List Int) : A := if AllApp s t cs then .sl ((restK s t cs s.rules.length).map (encS Go.AI.encI)) else .os none 0 0
end Go.Proofs.YtmcljepicadjfaaGreatDoor

/-
  Lists of numbers that hold what a condition picks, and answers in memory of the call's own. No condition.
-/
namespace Go.Proofs.YtmcljepicadjfaaGreatDoor
open Go.AI

open Classical in
/-- A list where a condition holds, else the empty one. -/
noncomputable def lsP (p : Prop) (l : List Int) : List Int := if p then l else []
end Go.Proofs.YtmcljepicadjfaaGreatDoor

/-
  The bag of all objects, on both sides: TotalBag. No condition.
-/
namespace Go.Proofs.YtmcljepicadjfaaGreatDoor
open Go.AI
set_option maxRecDepth 8000
set_option maxHeartbeats 1600000

/-- A list in memory of the call's own. -/
def OwnL (l : List Int) : A → Heap → Prop := fun v h' => ∃ b cap, v = .os b l.length cap ∧ h' = [⟨b, 2, cap * 1, (l.map Go.AI.encI).flatten⟩]
theorem OwnL.clo {l : List Int} {v : A} {h1 : Heap} (q : OwnL l v h1) : Clo v ∧ CloH h1 := by
  obtain ⟨b, cap, rfl, rfl⟩ := q
  exact ⟨Clo.os _ _ _, CloH.cons (CloL.mapInt _ _) CloH.nil⟩

theorem bagk_self {l : List Int} : BagK (l.length : Int) l ↔ Bag l := ⟨fun q => q.1, fun q => ⟨q, rfl⟩⟩
theorem c_isBag (l : List Int) : Gives Tryz.prog 92 [.sl (l.map Go.AI.encI)] (.raw (.bool (dec (Bag l)))) := by
  refine fn_of_run tyOk ztOk mix Tryz.func92 rfl (by decide) Tryz.ntmps92 (fun w0 h => ?_)
  repeat' (first
      | (refine j_go ?_; first
        | refine j_op0 rfl rfl rfl rfl ?_ | (refine j_kCall rfl rfl rfl rfl ?_; first | refine jc (c_sizeI _) (LeL.refl _) rfl rfl ?_ | refine jc (c_ValidBag _ _) (LeL.refl _) rfl rfl ?_))
      | refine j_nil ?_
      | (refine r_go ?_; first | refine run_seq ?_ | refine run_region ?_ | refine run_ret ?_)
      | refine seqQ_normal ?_)
  exact end1 rfl (List.Sublist.refl _) (rbD bagk_self) (.inl rfl)

open Classical in
noncomputable def cdL (p : Prop) : Int := if p then 0 else 3
/-- All objects of what is around and of the first k cells. -/
def totK (t : State) : Nat → List Int
  | 0 => t.around
  | k + 1 => plusL (totK t k) (t.bags.getD k []) 1
open Classical in
noncomputable def codeTotalBag (s : System) (t : State) : Int := if s.Ok ∧ s.StateOk t then cdL (Bag (totK t t.bags.length)) else 1
end Go.Proofs.YtmcljepicadjfaaGreatDoor

/-
  Copies of the data of theme 6 in memory of the call's own, and their marks. No condition but that the sizes are bounded.
-/
namespace Go.Proofs.YtmcljepicadjfaaGreatDoor
open Go.AI
set_option maxRecDepth 8000
set_option maxHeartbeats 1600000

end Go.Proofs.YtmcljepicadjfaaGreatDoor

/-
  Stocks in memory of the call's own: their marks, and what is held of them. No condition but that the sizes are bounded.
-/
namespace Go.Proofs.YtmcljepicadjfaaGreatDoor
open Go.AI
set_option maxRecDepth 8000
set_option maxHeartbeats 1600000
def ROStock (x : Stock) (a : A) (h : Heap) : Prop := ∃ (a1 : A) (h1 : Heap), ROII x.cells a1 h1 ∧ ∃ (a2 : A) (h2 : Heap), ROI x.around a2 h2 ∧ a = .agg [a1, a2] ∧ h = h1 ++ h2
theorem ROStock.frz {x : Stock} {a : A} {h : Heap} (o : ROStock x a h) : Frz h a (.agg (encStock x)) := by
  obtain ⟨a1, h1, o1, a2, h2, o2, rfl, rfl⟩ := o
  exact Frz.agg (FrzL.cons (Frz.mono (fun _ hk => by simp [hk]) o1.frz) (FrzL.cons (Frz.mono (fun _ hk => by simp [hk]) o2.frz) (FrzL.nil _)))
theorem ROStock.frzF {x : Stock} {a : A} {h : Heap} (o : ROStock x a h) : FrzF h a (.agg (encStock x)) := by
  obtain ⟨a1, h1, o1, a2, h2, o2, rfl, rfl⟩ := o
  have q := FrzLF.cons o1.frzF (FrzLF.cons o2.frzF (FrzLF.nil (h := [])))
  rw [List.append_nil] at q
  exact FrzF.agg q
theorem ROStock.clo {x : Stock} {a : A} {h : Heap} (o : ROStock x a h) : Clo a ∧ CloH h := by
  obtain ⟨a1, h1, o1, a2, h2, o2, rfl, rfl⟩ := o
  exact ⟨Clo.agg (CloL.cons o1.clo.1 (CloL.cons o2.clo.1 CloL.nil)), o1.clo.2.append o2.clo.2⟩
theorem ROStock.cells {x : Stock} {a : A} {h : Heap} (o : ROStock x a h) : ∃ a0 a1, a = .agg [a0, a1] ∧ [a0, a1].all okCell = true := by
  obtain ⟨a1, h1, o1, a2, h2, o2, rfl, rfl⟩ := o
  exact ⟨a1, a2, rfl, by simp only [List.all_cons, List.all_nil, OwnLL.okc o1, OwnF.okc o2]; rfl⟩
end Go.Proofs.YtmcljepicadjfaaGreatDoor

/-
  Lists of structs with memory of their own. No condition.
-/
namespace Go.Proofs.YtmcljepicadjfaaGreatDoor
open Go.AI
set_option maxRecDepth 8000
set_option maxHeartbeats 1600000
/-- A list of elements with memory of their own: a block, or none at all. -/
def OwnS {α : Type} (E : α → List A → Heap → Prop) (T z : Nat) (L : List α) (a : A) (h : Heap) : Prop := OwnC E T z L a h ∨ (L = [] ∧ a = .sl [] ∧ h = [])
theorem OwnS.frz {α : Type} {E : α → List A → Heap → Prop} {enc : α → List A} {T z : Nat} {L : List α} {a : A} {h : Heap} (hz : ∀ x, (enc x).length = z) (hz0 : Nat.blt 0 z = true) (hE : ∀ x cs h, E x cs h → FrzL h cs (enc x)) (o : OwnS E T z L a h) : Frz h a (.sl (L.map enc)) := by
  rcases o with o | ⟨rfl, rfl, rfl⟩
  · exact o.frz hz hz0 hE
  · exact Frz.same _ _
theorem OwnS.frzF {α : Type} {E : α → List A → Heap → Prop} {enc : α → List A} {T z : Nat} {L : List α} {a : A} {h : Heap} (hz : ∀ x, (enc x).length = z) (hz0 : Nat.blt 0 z = true) (hE : ∀ x cs h, E x cs h → FrzLF h cs (enc x)) (o : OwnS E T z L a h) : FrzF h a (.sl (L.map enc)) := by
  rcases o with o | ⟨rfl, rfl, rfl⟩
  · exact o.frzF hz hz0 hE
  · exact FrzF.same _ _
theorem OwnS.clo {α : Type} {E : α → List A → Heap → Prop} {T z : Nat} {L : List α} {a : A} {h : Heap} (hE : ∀ x cs h, E x cs h → CloL cs ∧ CloH h) (o : OwnS E T z L a h) : Clo a ∧ CloH h := by
  rcases o with o | ⟨rfl, rfl, rfl⟩
  · exact o.clo hE
  · exact ⟨Clo.nil, CloH.nil⟩
theorem OwnS.okc {α : Type} {E : α → List A → Heap → Prop} {T z : Nat} {L : List α} {a : A} {h : Heap} (o : OwnS E T z L a h) : okCell a = true := by
  rcases o with ⟨b, cap, css, hs, _, _, _, rfl, rfl⟩ | ⟨rfl, rfl, rfl⟩ <;> rfl
end Go.Proofs.YtmcljepicadjfaaGreatDoor

/-
  Passing systems in memory of the call's own: their marks, and what is held of them. No condition but that the sizes are bounded.
-/
namespace Go.Proofs.YtmcljepicadjfaaGreatDoor
open Go.AI
set_option maxRecDepth 8000
set_option maxHeartbeats 1600000
def ERPassRule (x : PassRule) (cs : List A) (h : Heap) : Prop := ∃ (a0 : A) (h0 : Heap), ROI x.out a0 h0 ∧ ∃ (a1 : A) (h1 : Heap), ROI x.in_ a1 h1 ∧ cs = [.int x.cell, a0, a1] ∧ h = h0 ++ h1
theorem ERPassRule.frz {x : PassRule} {cs : List A} {h : Heap} (q : ERPassRule x cs h) : FrzL h cs (encPassRule x) := by
  obtain ⟨a0, h0, o0, a1, h1, o1, rfl, rfl⟩ := q
  exact FrzL.cons (Frz.same _ _) (FrzL.cons (Frz.mono (fun _ hk => by simp [hk]) o0.frz) (FrzL.cons (Frz.mono (fun _ hk => by simp [hk]) o1.frz) (FrzL.nil _)))
theorem ERPassRule.frzF {x : PassRule} {cs : List A} {h : Heap} (q : ERPassRule x cs h) : FrzLF h cs (encPassRule x) := by
  obtain ⟨a0, h0, o0, a1, h1, o1, rfl, rfl⟩ := q
  have := FrzLF.cons (FrzF.same [] (.int x.cell)) (FrzLF.cons o0.frzF (FrzLF.cons o1.frzF (FrzLF.nil (h := []))))
  simp only [List.append_nil, List.nil_append] at this
  exact this
theorem ERPassRule.clo {x : PassRule} {cs : List A} {h : Heap} (q : ERPassRule x cs h) : CloL cs ∧ CloH h := by
  obtain ⟨a0, h0, o0, a1, h1, o1, rfl, rfl⟩ := q
  exact ⟨CloL.cons (Clo.int _) (CloL.cons o0.clo.1 (CloL.cons o1.clo.1 CloL.nil)), o0.clo.2.append o1.clo.2⟩
def ROPassRules (L : List PassRule) (a : A) (h : Heap) : Prop := OwnS ERPassRule 75 3 L a h
def ROPassing (x : Passing) (a : A) (h : Heap) : Prop := ∃ (a1 : A) (h1 : Heap), ROI x.parents a1 h1 ∧ ∃ (a2 : A) (h2 : Heap), ROB x.free a2 h2 ∧ ∃ (a3 : A) (h3 : Heap), ROPassRules x.rules a3 h3 ∧ a = .agg [.int x.kinds, a1, a2, a3] ∧ h = h1 ++ (h2 ++ h3)
theorem ROPassing.frz {x : Passing} {a : A} {h : Heap} (o : ROPassing x a h) : Frz h a (.agg (encPassing x)) := by
  obtain ⟨a1, h1, o1, a2, h2, o2, a3, h3, o3, rfl, rfl⟩ := o
  exact Frz.agg (FrzL.cons (Frz.same _ _) (FrzL.cons (Frz.mono (fun _ hk => by simp [hk]) o1.frz) (FrzL.cons (Frz.mono (fun _ hk => by simp [hk]) o2.frz) (FrzL.cons (Frz.mono (fun _ hk => by simp [hk]) (OwnS.frz (enc := encPassRule) (fun _ => rfl) rfl (fun _ _ _ q => q.frz) o3)) (FrzL.nil _)))))
theorem ROPassing.frzF {x : Passing} {a : A} {h : Heap} (o : ROPassing x a h) : FrzF h a (.agg (encPassing x)) := by
  obtain ⟨a1, h1, o1, a2, h2, o2, a3, h3, o3, rfl, rfl⟩ := o
  have q := FrzLF.cons (FrzF.same [] (.int x.kinds)) (FrzLF.cons o1.frzF (FrzLF.cons o2.frzF (FrzLF.cons (OwnS.frzF (enc := encPassRule) (fun _ => rfl) rfl (fun _ _ _ q => q.frzF) o3) (FrzLF.nil (h := [])))))
  simp only [List.append_nil, List.nil_append] at q
  exact FrzF.agg q
theorem ROPassing.clo {x : Passing} {a : A} {h : Heap} (o : ROPassing x a h) : Clo a ∧ CloH h := by
  obtain ⟨a1, h1, o1, a2, h2, o2, a3, h3, o3, rfl, rfl⟩ := o
  have q := OwnS.clo (fun _ _ _ q => ERPassRule.clo q) o3
  exact ⟨Clo.agg (CloL.cons (Clo.int _) (CloL.cons o1.clo.1 (CloL.cons o2.clo.1 (CloL.cons q.1 CloL.nil)))), o1.clo.2.append (o2.clo.2.append q.2)⟩
theorem ROPassing.cells {x : Passing} {a : A} {h : Heap} (o : ROPassing x a h) : ∃ a0 a1 a2 a3, a = .agg [a0, a1, a2, a3] ∧ [a0, a1, a2, a3].all okCell = true := by
  obtain ⟨a1, h1, o1, a2, h2, o2, a3, h3, o3, rfl, rfl⟩ := o
  exact ⟨_, a1, a2, a3, rfl, by simp only [List.all_cons, List.all_nil, OwnF.okc o1, OwnF.okc o2, OwnS.okc o3]; rfl⟩
end Go.Proofs.YtmcljepicadjfaaGreatDoor
