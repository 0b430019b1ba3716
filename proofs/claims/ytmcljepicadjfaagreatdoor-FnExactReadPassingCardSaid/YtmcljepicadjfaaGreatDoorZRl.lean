/-
  Texts of passing systems, read back: plain facts. No condition.
-/
import Derived.Test.YtmcljepicadjfaaGreatDoorZRp
import Derived.Test.YtmcljepicadjfaaGreatDoorZRk
import Derived.Lib.IndexMore
import Derived.Test.YtmcljepicadjfaaGreatDoorZRe
import Derived.Test.YtmcljepicadjfaaGreatDoorZRf
import Derived.Test.YtmcljepicadjfaaGreatDoorZRg
import Derived.Test.YtmcljepicadjfaaGreatDoorZE3
import Derived.Test.YtmcljepicadjfaaGreatDoorZJN
import Derived.Test.YtmcljepicadjfaaGreatDoorZPSA
namespace Go.Proofs.YtmcljepicadjfaaGreatDoor
open Go.AI Go.RowKit
set_option maxRecDepth 8000
set_option maxHeartbeats 3200000
/-- No earlier place. -/
def NoE (a p b : List UInt8) : Prop := ∀ j, j < a.length → ¬ p.isPrefixOf ((a ++ (p ++ b)).drop j) = true
theorem noE_nil (p b : List UInt8) : NoE [] p b := fun j h => absurd h (Nat.not_lt_zero _)
theorem noE_one {a b : List UInt8} {c : UInt8} (h : c ∉ a) : NoE a [c] b := fun j hj q => by
  obtain ⟨r, hr⟩ := List.isPrefixOf_iff_prefix.1 q
  have e : (a ++ ([c] ++ b))[j]? = some c := by
    rw [← List.head?_drop, ← hr]; rfl
  rw [List.getElem?_append_left hj] at e
  exact h (List.mem_of_getElem? e)
theorem noE_sl {a b : List UInt8} (h : (47 : UInt8) ∉ a) : NoE a [32, 47, 32] b := fun j hj q => by
  obtain ⟨r, hr⟩ := List.isPrefixOf_iff_prefix.1 q
  have e : (a ++ ([32, 47, 32] ++ b))[j + 1]? = some 47 := by
    have : ((a ++ ([32, 47, 32] ++ b)).drop j)[1]? = some 47 := by rw [← hr]; rfl
    rwa [List.getElem?_drop] at this
  by_cases hq : j + 1 < a.length
  · rw [List.getElem?_append_left hq] at e
    exact h (List.mem_of_getElem? e)
  · rw [List.getElem?_append_right (by omega), show j + 1 - a.length = 0 by omega] at e
    simp at e
theorem pre_self (p b : List UInt8) : p.isPrefixOf (p ++ b) = true := by simp
theorem cutL_at {a p b : List UInt8} (h : NoE a p b) : Lib.cut (a ++ (p ++ b)) p = (a, b, true) := by
  have e : Lib.index (a ++ (p ++ b)) p = (a.length : Int) := Lib.index_first (by simp) (by unfold Lib.occAt; rw [List.drop_left]; exact pre_self p b) (fun j hj => by
    unfold Lib.occAt
    exact Bool.eq_false_iff.mpr (h j hj))
  unfold Lib.cut
  rw [e, if_pos (by omega), Int.toNat_natCast, List.take_left]
  congr 2
  rw [← List.drop_drop, List.drop_left, List.drop_left]
theorem cutR_at2 {a p b : List UInt8} (h : NoE a p b) : cutR p (a ++ (p ++ b)) = (a, b, true) := by
  rw [cutR_at (k := a.length) (by simp) (by rw [List.drop_left]; exact pre_self p b) h, List.take_left]
  congr 2
  rw [← List.drop_drop, List.drop_left, List.drop_left]
def pas8 : List UInt8 := [112, 97, 115, 115, 105, 110, 103, 32]
def pass5 : List UInt8 := [112, 97, 115, 115, 32]
def sl3 : List UInt8 := [32, 47, 32]
def line0 (p : Passing) : List UInt8 := pas8 ++ dcm p.kinds
def line1 (p : Passing) : List UInt8 := [99, 101, 108, 108, 115, 32, 45] ++ ((p.parents.drop 1).map vT).flatten
def line2 (p : Passing) : List UInt8 := [102, 114, 101, 101, 32] ++ frT p.free
def lineR (r : PassRule) : List UInt8 := pass5 ++ (dcm r.cell ++ ([32] ++ (bagT r.out ++ (sl3 ++ bagT r.in_))))
theorem ruleT_line (r : PassRule) : ruleT r = lineR r ++ [10] := by
  unfold ruleT lineR pass5 sl3
  simp only [List.append_assoc]
theorem passT_lines (p : Passing) : passT p = ((line0 p :: line1 p :: line2 p :: p.rules.map lineR).map fun w => w ++ [10]).flatten := by
  unfold passT pasH pasF line0 line1 line2 pas8
  rw [catK_all, catK_all]
  simp only [List.map_cons, List.flatten_cons, List.map_map]
  rw [show ((fun w : List UInt8 => w ++ [10]) ∘ lineR) = ruleT from funext fun r => (ruleT_line r).symm]
  simp only [List.append_assoc]
  rfl
theorem frK_mem {l : List Bool} {c : UInt8} : ∀ k, c ∈ frK l k ↔ ∃ i, i < k ∧ l.getD i false = true ∧ c = UInt8.ofNat (97 + i)
  | 0 => by simp [frK]
  | k + 1 => by
    rw [frK]
    have ih := frK_mem (l := l) (c := c) k
    split
    · rename_i h
      rw [List.mem_append, ih, List.mem_singleton]
      constructor
      · rintro (⟨i, h1, h2, h3⟩ | rfl)
        · exact ⟨i, by omega, h2, h3⟩
        · exact ⟨k, by omega, h, rfl⟩
      · rintro ⟨i, h1, h2, h3⟩
        by_cases q : i < k
        · exact .inl ⟨i, q, h2, h3⟩
        · have : i = k := by omega
          subst this
          exact .inr h3
    · rename_i h
      rw [ih]
      constructor
      · rintro ⟨i, h1, h2, h3⟩; exact ⟨i, by omega, h2, h3⟩
      · rintro ⟨i, h1, h2, h3⟩
        by_cases q : i < k
        · exact ⟨i, q, h2, h3⟩
        · have : i = k := by omega
          subst this
          exact absurd h2 h
theorem frT_mem {l : List Bool} (h8 : l.length ≤ 8) {k : Nat} (hk : k < l.length) : UInt8.ofNat (97 + k) ∈ frT l ↔ l[k] = true := by
  have e := kind_nat (k := k) (by omega)
  have key : UInt8.ofNat (97 + k) ∈ frK l l.length ↔ l[k] = true := by
    rw [frK_mem]
    constructor
    · rintro ⟨i, h1, h2, h3⟩
      have := kind_nat (k := i) (by omega)
      rw [← h3, e] at this
      have : i = k := by omega
      subst this
      rwa [getD_at hk] at h2
    · intro h; exact ⟨k, hk, by rw [getD_at hk]; exact h, rfl⟩
  unfold frT
  split
  · rename_i h
    rw [h] at key
    rw [← key, List.mem_singleton]
    constructor
    · intro q; rw [q] at e; revert e; show (45 : UInt8).toNat = 97 + k → _; intro e; exfalso; have : (45 : UInt8).toNat = 45 := rfl; omega
    · intro q; cases q
  · exact key
theorem frT_no {l : List Bool} (h8 : l.length ≤ 8) {c : UInt8} (hc : c.toNat < 45) : c ∉ frT l := fun q => by
  unfold frT at q
  split at q
  · rw [List.mem_singleton] at q; subst q; revert hc; decide
  · obtain ⟨i, h1, _, rfl⟩ := (frK_mem _).1 q
    have := kind_nat (k := i) (by omega)
    omega
theorem app_no {c : UInt8} {a b : List UInt8} (h1 : c ∉ a) (h2 : c ∉ b) : c ∉ a ++ b := fun q => (List.mem_append.1 q).elim h1 h2
theorem lineR_no {p : Passing} (hv : p.Ok) {r : PassRule} (hr : r ∈ p.rules) : (10 : UInt8) ∉ lineR r := by
  have R := hv.2 r hr
  exact app_no (by decide) (app_no (no10 _) (app_no (by decide) (app_no (no10b R.2.1.1) (app_no (by decide) (no10b R.2.2.1.1)))))
theorem pass_ln {p : Passing} (hv : p.Ok) : lnW (passT p) = line0 p :: line1 p :: line2 p :: p.rules.map lineR ∧ lnE (passT p) = [] := ln_lines (fun x hx => by
  have h1 := hv.1.1
  have hf := hv.1.2.2.2.1
  rcases List.mem_cons.1 hx with rfl | hx
  · exact app_no (by decide) (no10 _)
  rcases List.mem_cons.1 hx with rfl | hx
  · refine app_no (by decide) fun q => ?_
    obtain ⟨l, h1, h2⟩ := List.mem_flatten.1 q
    obtain ⟨v, _, rfl⟩ := List.mem_map.1 h1
    exact app_no (by decide) (no10 _) h2
  rcases List.mem_cons.1 hx with rfl | hx
  · exact app_no (by decide) (frT_no (by omega) (by decide))
  · obtain ⟨r, hr, rfl⟩ := List.mem_map.1 hx
    exact lineR_no hv hr) (passT_lines p)
/-! ### The program's reader -/
def wP (w : List UInt8) : Int := if pIok w then pIv w else -1
def parI (l : List UInt8) : List Int := ((spl 32 l).drop 1).map wP
def frI (K : Nat) (l : List UInt8) : List Bool := (List.range K).map fun k => decide (UInt8.ofNat (97 + k) ∈ l.drop 5)
def cu0 (l : List UInt8) := Lib.cut l pass5
def cu1 (l : List UInt8) := Lib.cut (cu0 l).2.1 [32]
def cu2 (l : List UInt8) := Lib.cut (cu1 l).2.1 sl3
def rulI (K : Nat) (l : List UInt8) : PassRule := ⟨pIv (cu1 l).1, rdB K (cu2 l).1, rdB K (cu2 l).2.1⟩
def okI (K : Nat) (l : List UInt8) : Prop := (cu0 l).2.2 = true ∧ (cu1 l).2.2 = true ∧ pIok (cu1 l).1 = true ∧ (cu2 l).2.2 = true ∧ IsBagT K (cu2 l).1 ∧ IsBagT K (cu2 l).2.1
theorem parI_line {p : Passing} (hv : p.Ok) : parI (line1 p) = p.parents := by
  obtain ⟨l, hl⟩ := vT_head hv
  have e : spl 32 (line1 p) = [99, 101, 108, 108, 115] :: [45] :: (p.parents.drop 1).map dcm := by
    unfold line1
    rw [show [99, 101, 108, 108, 115, 32, 45] ++ ((p.parents.drop 1).map vT).flatten = [99, 101, 108, 108, 115] ++ 32 :: ([45] ++ ((p.parents.drop 1).map vT).flatten) from rfl,
      spl_cut 32 _ _ (by decide), spl_vT _ _ (by decide)]
  unfold parI
  rw [e, List.drop_one, List.tail_cons, List.map_cons, List.map_map]
  have hp : ∀ x ∈ p.parents.drop 1, (wP ∘ dcm) x = x := fun x hx => by
    obtain ⟨i, hi, rfl⟩ := List.getElem_of_mem hx
    have := par_in hv hi
    show wP (dcm _) = _
    unfold wP
    rw [if_pos (pIok_dcm (by omega)), pIv_dcm (by omega)]
  rw [map_id2 hp, hl]
  rfl
theorem frI_line {p : Passing} (hv : p.Ok) : frI p.kinds.toNat (line2 p) = p.free := by
  have h1 := hv.1.1
  have hf := hv.1.2.2.2.1
  have e : (line2 p).drop 5 = frT p.free := rfl
  refine List.ext_getElem (by simp [frI]; omega) fun i h2 h3 => ?_
  simp only [frI, List.getElem_map, List.getElem_range, e]
  have := frT_mem (l := p.free) (by omega) h3
  cases hb : p.free[i] with
  | true => exact decide_eq_true (this.2 hb)
  | false => exact decide_eq_false (fun q => by rw [this.1 q] at hb; cases hb)
theorem no47b {b : List Int} (h : Bag b) : (47 : UInt8) ∉ bagT b := bagT_no h.2.2 (by decide) (by decide)
theorem rule_cuts {p : Passing} (hv : p.Ok) {r : PassRule} (hr : r ∈ p.rules) : cu0 (lineR r) = ([], dcm r.cell ++ ([32] ++ (bagT r.out ++ (sl3 ++ bagT r.in_))), true) ∧ cu1 (lineR r) = (dcm r.cell, bagT r.out ++ (sl3 ++ bagT r.in_), true) ∧ cu2 (lineR r) = (bagT r.out, bagT r.in_, true) := by
  have R := hv.2 r hr
  have e0 : cu0 (lineR r) = ([], dcm r.cell ++ ([32] ++ (bagT r.out ++ (sl3 ++ bagT r.in_))), true) := cutL_at (noE_nil pass5 _)
  have e1 : cu1 (lineR r) = (dcm r.cell, bagT r.out ++ (sl3 ++ bagT r.in_), true) := by
    unfold cu1; rw [e0]; exact cutL_at (noE_one (no32 _))
  refine ⟨e0, e1, ?_⟩
  unfold cu2
  rw [e1]
  exact cutL_at (noE_sl (no47b R.2.1.1))
theorem rule_read {p : Passing} (hv : p.Ok) {r : PassRule} (hr : r ∈ p.rules) : rulI p.kinds.toNat (lineR r) = r ∧ okI p.kinds.toNat (lineR r) := by
  have R := hv.2 r hr
  have h4 := hv.1.2.1
  have c5 := R.1
  obtain ⟨e0, e1, e2⟩ := rule_cuts hv hr
  constructor
  · unfold rulI
    rw [e1, e2]
    simp only [pIv_dcm (n := r.cell) (by omega), rdB_k R.2.1, rdB_k R.2.2.1]
  · unfold okI
    rw [e0, e1, e2]
    exact ⟨rfl, rfl, pIok_dcm (by omega), rfl, ⟨r.out, R.2.1.1, bagK_n R.2.1, rfl⟩, r.in_, R.2.2.1.1, bagK_n R.2.2.1, rfl⟩
def IsPaT (t : List UInt8) : Prop := ∃ p : Passing, p.Ok ∧ passT p = t
def cPI (t : List UInt8) : Passing :=
  ⟨pIv (trimP pas8 ((lnW t).getD 0 [])), parI ((lnW t).getD 1 []), frI (pIv (trimP pas8 ((lnW t).getD 0 []))).toNat ((lnW t).getD 2 []), ((lnW t).drop 3).map (rulI (pIv (trimP pas8 ((lnW t).getD 0 []))).toNat)⟩
theorem cPI_text {p : Passing} (hv : p.Ok) : cPI (passT p) = p := by
  have h1 := hv.1.1
  have e1 : pIv (trimP pas8 ((lnW (passT p)).getD 0 [])) = p.kinds := by
    rw [(pass_ln hv).1]
    show pIv (trimP pas8 (pas8 ++ dcm p.kinds)) = _
    rw [trimP_app, pIv_dcm (by omega)]
  unfold cPI
  rw [e1, (pass_ln hv).1]
  have e2 : (line0 p :: line1 p :: line2 p :: p.rules.map lineR).getD 1 [] = line1 p := rfl
  have e3 : (line0 p :: line1 p :: line2 p :: p.rules.map lineR).getD 2 [] = line2 p := rfl
  have e4 : (line0 p :: line1 p :: line2 p :: p.rules.map lineR).drop 3 = p.rules.map lineR := rfl
  rw [e2, e3, e4, parI_line hv, frI_line hv, List.map_map, map_id2 (l := p.rules) (g := rulI p.kinds.toNat ∘ lineR) (fun r hr => (rule_read hv hr).1)]
theorem isPaT_ln {t : List UInt8} (h : IsPaT t) : lnE t = [] ∧ 3 ≤ (lnW t).length ∧ (1 ≤ (cPI t).kinds ∧ (cPI t).kinds ≤ 8) ∧ (∀ l ∈ (lnW t).drop 3, okI (cPI t).kinds.toNat l) ∧ t.length ≤ 4000 := by
  obtain ⟨p, hv, rfl⟩ := h
  rw [cPI_text hv]
  refine ⟨(pass_ln hv).2, by rw [(pass_ln hv).1]; simp, hv.1.1, fun l hl => ?_, passT_len hv⟩
  rw [(pass_ln hv).1] at hl
  obtain ⟨r, hr, rfl⟩ := List.mem_map.1 (show l ∈ p.rules.map lineR from hl)
  exact (rule_read hv hr).2
open Classical in
noncomputable def resReadPassing (t : List UInt8) : Passing := if IsPaT t then cPI t else ⟨0, [], [], []⟩
open Classical in
noncomputable def codeReadPassing (t : List UInt8) : Int := if 4000 < t.length then 2 else if IsPaT t then 0 else 5
theorem rp_yes {t : List UInt8} (h : IsPaT t) : resReadPassing t = cPI t ∧ codeReadPassing t = 0 := by
  have := (isPaT_ln h).2.2.2.2
  unfold resReadPassing codeReadPassing; rw [if_pos h, if_neg (by omega), if_pos h]; exact ⟨rfl, rfl⟩
theorem rp_no {t : List UInt8} (hl : ¬ 4000 < t.length) (h : ¬ IsPaT t) : resReadPassing t = ⟨0, [], [], []⟩ ∧ codeReadPassing t = 5 := by unfold resReadPassing codeReadPassing; rw [if_neg h, if_neg hl, if_neg h]; exact ⟨rfl, rfl⟩
theorem rp_big {t : List UInt8} (hl : 4000 < t.length) : resReadPassing t = ⟨0, [], [], []⟩ ∧ codeReadPassing t = 2 := by
  have h : ¬ IsPaT t := fun q => by have := (isPaT_ln q).2.2.2.2; omega
  unfold resReadPassing codeReadPassing; rw [if_neg h, if_pos hl]; exact ⟨rfl, rfl⟩
end Go.Proofs.YtmcljepicadjfaaGreatDoor

/-
  Rows of the call's own; lines and what stands behind a word. No condition.
-/
namespace Go.Proofs.YtmcljepicadjfaaGreatDoor
open Go.AI Go.RowKit
set_option maxRecDepth 8000
set_option maxHeartbeats 1600000
/-- Rows of the call's own. -/
def RowsC (L : List (List Int)) (vs : List A) (hs : List Heap) : Prop := vs.length = L.length ∧ hs.length = L.length ∧ ∀ i (h0 : i < L.length) (h1 : i < vs.length) (h2 : i < hs.length), ROI L[i] vs[i] hs[i]
theorem RowsC.nil : RowsC [] [] [] := ⟨rfl, rfl, fun i h => absurd h (Nat.not_lt_zero _)⟩
theorem RowsC.snoc {L : List (List Int)} {vs : List A} {hs : List Heap} (o : RowsC L vs hs) {l : List Int} {v : A} {h : Heap} (q : ROI l v h) : RowsC (L ++ [l]) (vs ++ [v]) (hs ++ [h]) := by
  obtain ⟨r1, r2, r3⟩ := o
  refine ⟨by rw [List.length_append, List.length_append, r1]; rfl, by rw [List.length_append, List.length_append, r2]; rfl, fun i q1 q2 q3 => ?_⟩
  by_cases z : i < L.length
  · simp only [List.getElem_append_left z, List.getElem_append_left (show i < vs.length by omega), List.getElem_append_left (show i < hs.length by omega)]
    exact r3 i z _ _
  · have e : i = L.length := by rw [List.length_append, List.length_singleton] at q1; omega
    subst e
    simp only [List.getElem_append_right (Nat.le_refl _), List.getElem_append_right (show vs.length ≤ L.length by omega), List.getElem_append_right (show hs.length ≤ L.length by omega), List.getElem_singleton]
    simpa [r1, r2] using q
theorem pre_take {p s : List UInt8} : (s.take p.length).drop 0 = p ↔ p.isPrefixOf s = true := by
  rw [List.drop_zero, List.isPrefixOf_iff_prefix]
  exact ⟨fun q => by rw [← q]; exact List.take_prefix _ _, fun ⟨t, q⟩ => by rw [← q]; simp⟩
theorem c_HasPrefix (s p : List UInt8) : Gives Tryz.prog 106 [.str s, .str p] (.raw (.bool (dec (p.isPrefixOf s = true)))) := by
  refine fn_of_run tyOk ztOk mix Tryz.func106 rfl (by decide) Tryz.ntmps106 (fun w0 h => ?_)
  repeat' (first
      | (refine j_go ?_; first
        | refine j_op0 rfl rfl rfl rfl ?_ | refine j_off rfl rfl rfl ?_ | (refine j_kLen rfl ?_; first | refine j_op rfl rfl rfl rfl ?_) | (refine j_kSlice rfl ?_; first | refine j_ss rfl rfl rfl rfl rfl rfl (by omega) rfl rfl ?_) | (refine j_kGuard rfl ?_; first | (refine (j_if rfl rfl rfl (fun hb => ?_) (fun hb => ?_)) <;> first | (exfalso; omega) | skip)))
      | refine j_nil ?_
      | (refine r_go ?_; first | refine run_seq ?_ | refine run_region ?_ | refine run_ret ?_)
      | refine seqQ_normal ?_)
  · exact end1 rfl (List.Sublist.refl _) (by rw [Int.toNat_natCast, dec_congr (show (s.take p.length).drop (Int.toNat 0) = p ↔ _ from pre_take)]) (.inl rfl)
  · exact end1 rfl (List.Sublist.refl _) (rbF fun q => by have := (List.isPrefixOf_iff_prefix.1 q).length_le; omega) (.inl rfl)
theorem c_CutPrefix0 (s p : List UInt8) : Gives Tryz.prog 84 [.str s, .str p] (.tup [.str (trimP p s), .raw (.bool (dec (p.isPrefixOf s = true)))]) := by
  refine fn_of_run tyOk ztOk mix Tryz.func84 rfl (by decide) Tryz.ntmps84 (fun w0 h => ?_)
  repeat' (first
      | (refine j_go ?_; first
        | refine j_op0 rfl rfl rfl rfl ?_ | (refine j_kLen rfl ?_; first | refine j_op rfl rfl rfl rfl ?_) | (refine j_kCall rfl rfl rfl rfl ?_; first | refine jc (c_HasPrefix s p) (LeL.refl _) rfl rfl ?_))
      | refine j_nil ?_
      | (refine r_go ?_; first | refine run_seq ?_ | refine run_region ?_ | (refine (run_ifn rfl (fun hb => ?_) (fun hb => ?_)) <;> first | (exfalso; omega) | skip) | refine run_ret ?_ | refine run_skip ?_)
      | refine seqQ_normal ?_ | refine seqQ_ret ?_)
  · have q : ¬ p.isPrefixOf s = true := by assumption
    exact end2 rfl rfl (List.Sublist.refl _) (by rw [dec_f q]; unfold trimP; rw [if_neg q]; rfl) (.inl rfl)
  · have q : p.isPrefixOf s = true := by assumption
    have ql := (List.isPrefixOf_iff_prefix.1 q).length_le
    repeat' (first
      | (refine j_go ?_; first
        | refine j_op0 rfl rfl rfl rfl ?_ | (refine j_kSlice rfl ?_; first | refine j_ss rfl rfl rfl rfl rfl rfl (by omega) rfl rfl ?_))
      | refine j_nil ?_
      | (refine r_go ?_; first | refine run_ret ?_)
      | refine seqQ_normal ?_)
    exact end2 rfl rfl (List.Sublist.refl _) (by rw [dec_t q]; unfold trimP; rw [if_pos q, Int.toNat_natCast, Int.toNat_natCast, List.take_length]; rfl) (.inl rfl)
theorem c_CutPrefix (s p : List UInt8) : Gives Tryz.prog 30 [.str s, .str p] (.tup [.str (trimP p s), .raw (.bool (dec (p.isPrefixOf s = true)))]) := by
  refine fn_of_run tyOk ztOk mix Tryz.func30 rfl (by decide) Tryz.ntmps30 (fun w0 h => ?_)
  repeat' (first
      | (refine j_go ?_; first
        | refine j_op0 rfl rfl rfl rfl ?_ | (refine j_kCall rfl rfl rfl rfl ?_; first | refine jc (c_CutPrefix0 s p) (LeL.refl _) rfl rfl ?_))
      | refine j_nil ?_
      | (refine r_go ?_; first | refine run_seq ?_ | refine run_region ?_ | refine run_ret ?_)
      | refine seqQ_normal ?_)
  exact end2 rfl rfl (List.Sublist.refl _) rfl (.inl rfl)
theorem c_linesOf (s : List UInt8) (hs : s.length ≤ 1048576) : Gives Tryz.prog 29 [.str s] (.tup [.sl ((lnW s).map encW), .raw (.bool (dec (lnE s = [])))]) := by
  refine fn_of_run tyOk ztOk mix Tryz.func29 rfl (by decide) Tryz.ntmps29 (fun w0 h => ?_)
  have cS := c_Split s 10 (by omega)
  rw [ln_eq] at cS
  have ll := lnW_len s
  have hl : (lnW s ++ [lnE s]).length = (lnW s).length + 1 := by simp
  repeat' (first
      | (refine j_go ?_; first
        | refine j_op0 rfl rfl rfl rfl ?_ | (refine j_kIdx rfl ?_; first | refine j_idxz rfl rfl rfl rfl rfl ⟨by omega, by omega⟩ rfl rfl rfl ?_) | (refine j_kBin rfl ?_; first | refine j_in rfl rfl ⟨by omega, by omega⟩ rfl rfl ?_) | (refine j_kLen rfl ?_; first | refine j_len rfl rfl rfl rfl rfl rfl ?_) | (refine j_kCall rfl rfl rfl rfl ?_; first | refine jc (cS) (LeL.refl _) rfl rfl ?_) | (refine j_kSlice rfl ?_; first | refine j_slice rfl rfl rfl rfl rfl rfl (by omega) (fun _ => rfl) rfl rfl ?_))
      | refine j_nil ?_
      | (refine r_go ?_; first | refine run_seq ?_ | refine run_region ?_ | refine run_ret ?_ | refine run_regionD (by kernel_rfl) ?_)
      | refine seqQ_normal ?_)
  have e1 : ((lnW s ++ [lnE s]).take (((lnW s ++ [lnE s]).length : Int) - 1).toNat).drop (Int.toNat 0) = lnW s := by
    rw [hl, show (((lnW s).length + 1 : Nat) : Int) - 1 = ((lnW s).length : Int) from by omega, Int.toNat_natCast]; simp
  have e2 : ∀ (q : (((lnW s ++ [lnE s]).length : Int) - 1).toNat < (lnW s ++ [lnE s]).length), (lnW s ++ [lnE s])[(((lnW s ++ [lnE s]).length : Int) - 1).toNat] = lnE s := fun q => by
    have e : (((lnW s ++ [lnE s]).length : Int) - 1).toNat = (lnW s).length := by rw [hl]; omega
    simp only [e]; simp
  exact end2 rfl rfl (List.Sublist.refl _) (by rw [e1, e2]) (.inl rfl)

end Go.Proofs.YtmcljepicadjfaaGreatDoor

/-
  The program's reader of parts of a text; ReadPassing of the program. No condition but that the text is not longer than a machine holds.
-/
namespace Go.Proofs.YtmcljepicadjfaaGreatDoor
open Go.AI Go.RowKit
set_option maxRecDepth 8000
set_option maxHeartbeats 3200000
theorem cut_len (s p : List UInt8) : (Lib.cut s p).1.length ≤ s.length ∧ (Lib.cut s p).2.1.length ≤ s.length := by
  unfold Lib.cut
  split <;> simp only [List.length_take, List.length_drop, List.length_nil] <;> omega
theorem c_Cut (s p : List UInt8) (hs : s.length < 4294967281) : Gives Tryz.prog 89 [.str s, .str p] (.tup [.str (Lib.cut s p).1, .str (Lib.cut s p).2.1, .raw (.bool (Lib.cut s p).2.2)]) := by
  refine ⟨⟨Tryz.f89, Tryz.func89, by decide, by rfl⟩, fun h w vs hrel hh => ?_⟩
  obtain ⟨v1, us, rfl, h1, h2⟩ := hrel.uncons
  obtain ⟨v2, us2, rfl, h3, h4⟩ := h2.uncons
  have hnl : us2 = [] := List.eq_nil_of_length_eq_zero h4.1
  subst hnl
  obtain ⟨rfl, _⟩ := h1.str_inv
  obtain ⟨rfl, _⟩ := h3.str_inv
  obtain ⟨_, m, hm⟩ := hh.tab.max
  have big : (4294967281 : Nat) ≤ maxLn := by decide
  have cl := cut_len s p
  refine (Tryz.strings_Cut ⟨s.toArray⟩ ⟨p.toArray⟩ m w (by rw [str_size]; exact hs) hm).mono fun e w' ⟨e1, k, e2⟩ => ⟨_, e1, ?_, ?_⟩
  · subst e2
    exact Chg.ofExt hh ⟨rfl, rfl, rfl, Nat.le_refl _, fun _ _ _ => rfl⟩
  · exact .tup [.str (Lib.cut s p).1, .str (Lib.cut s p).2.1, .raw (.bool (Lib.cut s p).2.2)] [_, _, _] rfl fun j hj hj' => by
      match j, hj with
      | 0, _ => exact .str _ (by omega)
      | 1, _ => exact .str _ (by omega)
      | 2, _ => exact .raw _
theorem mem_indexByte (c : UInt8) : ∀ s : List UInt8, 0 ≤ Lib.indexByte s c ↔ c ∈ s
  | [] => by simp [Lib.indexByte]
  | b :: s => by
    have ih := mem_indexByte c s
    have hg := Lib.indexByte_ge s c
    rw [Lib.indexByte]
    by_cases hb : b = c
    · subst hb; simp
    · have hb2 : (b == c) = false := by simpa using hb
      have hc : ¬ c = b := fun q => hb q.symm
      rw [hb2]
      simp only [Bool.false_eq_true, if_false, List.mem_cons, hc, false_or]
      by_cases hi : Lib.indexByte s c = -1
      · have h2 : (Lib.indexByte s c == -1) = true := by simpa using hi
        rw [if_pos h2, ← ih]; omega
      · have h2 : ¬ (Lib.indexByte s c == -1) = true := by simpa using hi
        rw [if_neg h2, ← ih]; omega
theorem c_Contains (s : List UInt8) (c : UInt8) : Gives Tryz.prog 34 [.str s, .str [c]] (.raw (.bool (decide (c ∈ s)))) := by
  refine ⟨⟨Tryz.f34, Tryz.func34, by decide, by rfl⟩, fun h w vs hrel hh => ?_⟩
  obtain ⟨v1, us, rfl, h1, h2⟩ := hrel.uncons
  obtain ⟨v2, us2, rfl, h3, h4⟩ := h2.uncons
  have hnl : us2 = [] := List.eq_nil_of_length_eq_zero h4.1
  subst hnl
  obtain ⟨rfl, _⟩ := h1.str_inv
  obtain ⟨rfl, _⟩ := h3.str_inv
  refine (Tryz.strings_Contains_one ⟨s.toArray⟩ c w).mono fun e w' ⟨e1, e2⟩ => ⟨_, e1, ?_, ?_⟩
  · subst e2; exact Chg.refl hh
  · rw [show decide (c ∈ s) = decide (0 ≤ Lib.indexByte s c) from decide_eq_decide.2 (mem_indexByte c s).symm]
    exact .raw _
/-- A reader's block. -/
abbrev rdrB (b : Nat) (rest : List UInt8) (bad : Bool) : Blk := ⟨some b, 71, 2, [.str rest, .raw (.bool bad)]⟩
theorem o_upTo (b : Nat) (rest p : List UInt8) (bad : Bool) (hs : rest.length < 4294967281) : Does Tryz.prog 35 [.op (some b) 0, .str p] [rdrB b rest bad]
    (fun v h' => v = .str (Lib.cut rest p).1 ∧ h' = [rdrB b (Lib.cut rest p).2.1 (bad || !(Lib.cut rest p).2.2)]) := by
  refine fn_of_runD tyOk ztOk mix Tryz.func35 rfl (by decide) Tryz.ntmps35 (fun w0 F => ?_)
  change Run _ _ _ _ _ (rdrB b rest bad :: F)
  cases bad
  all_goals
    repeat' (first
      | (refine j_go ?_; first
        | refine j_op0 rfl rfl rfl rfl ?_ | refine j_off rfl rfl rfl ?_ | (refine j_kCall rfl rfl rfl rfl ?_; first | refine jc (c_Cut rest p hs) (LeL.refl _) rfl rfl ?_) | (refine j_kLoad rfl ?_; first | refine j_mload 0 rfl rfl rfl rfl rfl rfl rfl ?_) | (refine j_kStore rfl ?_; first | refine j_store 0 rfl rfl rfl rfl rfl rfl rfl rfl rfl rfl rfl ?_))
      | refine j_nil ?_
      | (refine r_go ?_; first | refine run_seq ?_ | refine run_region ?_ | refine run_ret ?_)
      | refine seqQ_normal ?_)
    all_goals exact endD_ret (h1 := [_]) rfl (.cons (.tmp rfl) .nil) (Le.refl _) ⟨rfl, rfl⟩ (.inl rfl)
theorem o_number (b : Nat) (rest p : List UInt8) (bad : Bool) (hs : rest.length ≤ 1048576) : Does Tryz.prog 36 [.op (some b) 0, .str p] [rdrB b rest bad]
    (fun v h' => v = .int (pIv (Lib.cut rest p).1) ∧ h' = [rdrB b (Lib.cut rest p).2.1 ((bad || !(Lib.cut rest p).2.2) || !pIok (Lib.cut rest p).1)]) := by
  refine fn_of_runD tyOk ztOk mix Tryz.func36 rfl (by decide) Tryz.ntmps36 (fun w0 F => ?_)
  change Run _ _ _ _ _ (rdrB b rest bad :: F)
  have cl := cut_len rest p
  repeat' (first
      | (refine j_go ?_; first
        | refine j_op0 rfl rfl rfl rfl ?_)
      | refine j_nil ?_
      | (refine r_go ?_; first | refine run_seq ?_ | refine run_region ?_)
      | refine seqQ_normal ?_)
  refine j_kCall rfl rfl rfl rfl ?_
  refine jcp F (o_upTo b rest p bad (by omega)) (List.Perm.refl _) (LeL.refl _) rfl rfl (fun v h1 hR => ?_)
  obtain ⟨rfl, rfl⟩ := hR
  generalize (bad || !(Lib.cut rest p).2.2) = bd
  cases hp : pIok (Lib.cut rest p).1
  case false =>
    cases bd
    all_goals
      repeat' (first
      | (refine j_go ?_; first
        | refine j_op0 rfl rfl rfl rfl ?_ | refine j_off rfl rfl rfl ?_ | (refine j_kBin rfl ?_; first | refine j_isnil rfl rfl rfl rfl (by first | exact .inl ⟨rfl, rfl⟩ | exact .inr ⟨rfl, rfl⟩) (by first | exact .inl ⟨rfl, rfl⟩ | exact .inr ⟨rfl, rfl⟩) rfl rfl ?_) | (refine j_kCall rfl rfl rfl rfl ?_; first | refine jc (c_PIbad (Lib.cut rest p).1 (by omega) hp) (LeL.refl _) rfl rfl ?_) | (refine j_kLoad rfl ?_; first | refine j_mload 0 rfl rfl rfl rfl rfl rfl rfl ?_) | (refine j_kStore rfl ?_; first | refine j_store 0 rfl rfl rfl rfl rfl rfl rfl rfl rfl rfl rfl ?_))
      | refine j_nil ?_
      | (refine r_go ?_; first | refine run_seq ?_ | refine run_region ?_ | refine run_ret ?_)
      | refine seqQ_normal ?_)
      all_goals exact endD_ret (h1 := [_]) rfl (.cons (.tmp rfl) .nil) (Le.refl _) ⟨rfl, rfl⟩ (.inl rfl)
  case true =>
    cases bd
    all_goals
      repeat' (first
      | (refine j_go ?_; first
        | refine j_op0 rfl rfl rfl rfl ?_ | refine j_off rfl rfl rfl ?_ | (refine j_kBin rfl ?_; first | refine j_isnil rfl rfl rfl rfl (by first | exact .inl ⟨rfl, rfl⟩ | exact .inr ⟨rfl, rfl⟩) (by first | exact .inl ⟨rfl, rfl⟩ | exact .inr ⟨rfl, rfl⟩) rfl rfl ?_) | (refine j_kCall rfl rfl rfl rfl ?_; first | refine jc (c_PIok (Lib.cut rest p).1 (by omega) hp) (LeL.refl _) rfl rfl ?_) | (refine j_kLoad rfl ?_; first | refine j_mload 0 rfl rfl rfl rfl rfl rfl rfl ?_) | (refine j_kStore rfl ?_; first | refine j_store 0 rfl rfl rfl rfl rfl rfl rfl rfl rfl rfl rfl ?_))
      | refine j_nil ?_
      | (refine r_go ?_; first | refine run_seq ?_ | refine run_region ?_ | refine run_ret ?_)
      | refine seqQ_normal ?_)
      all_goals exact endD_ret (h1 := [_]) rfl (.cons (.tmp rfl) .nil) (Le.refl _) ⟨rfl, rfl⟩ (.inl rfl)
theorem o_bag (b n : Nat) (rest t : List UInt8) (bad : Bool) (hn : 1 ≤ n ∧ n ≤ 8) (ht : t.length ≤ 1048576) : Does Tryz.prog 37 [.op (some b) 0, .int (n : Int), .str t] [rdrB b rest bad]
    (fun v h' => ∃ (h1 : Heap) (ob : Option Nat) (m cp : Nat), v = .os ob m cp ∧ h' = rdrB b rest (bad || !dec (IsBagT n t)) :: h1 ∧ (IsBagT n t → ROI (rdB n t) (.os ob m cp) h1)) := by
  refine fn_of_runD tyOk ztOk mix Tryz.func37 rfl (by decide) Tryz.ntmps37 (fun w0 F => ?_)
  change Run _ _ _ _ _ (rdrB b rest bad :: F)
  repeat' (first
      | (refine j_go ?_; first
        | refine j_op0 rfl rfl rfl rfl ?_)
      | refine j_nil ?_
      | (refine r_go ?_; first | refine run_seq ?_ | refine run_region ?_)
      | refine seqQ_normal ?_)
  refine j_kCall rfl rfl rfl rfl ?_
  refine jcp (rdrB b rest bad :: F) (o_readBag n t hn ht) (List.Perm.refl _) (LeL.refl _) rfl rfl (fun v h1 hR => ?_)
  obtain ⟨ob, m, cp, rfl, hro⟩ := hR
  refine j_view (view_perm (h' := rdrB b rest bad :: (h1 ++ F)) List.perm_middle) ?_
  cases bad
  all_goals
    repeat' (first
      | (refine j_go ?_; first
        | refine j_op0 rfl rfl rfl rfl ?_ | refine j_off rfl rfl rfl ?_ | (refine j_kLoad rfl ?_; first | refine j_mload 0 rfl rfl rfl rfl rfl rfl rfl ?_) | (refine j_kStore rfl ?_; first | refine j_store 0 rfl rfl rfl rfl rfl rfl rfl rfl rfl rfl rfl ?_))
      | refine j_nil ?_
      | (refine r_go ?_; first | refine run_seq ?_ | refine run_region ?_ | refine run_ret ?_)
      | refine seqQ_normal ?_)
    all_goals exact endD_ret (h1 := rdrB b rest _ :: h1) rfl (.cons (.tmp rfl) .nil) (Le.refl _) ⟨h1, ob, m, cp, rfl, rfl, hro⟩ (.inl rfl)
end Go.Proofs.YtmcljepicadjfaaGreatDoor

/-
  Stocks read from texts: ReadStock of the program. No condition but that the text is not longer than a machine holds.
-/
namespace Go.Proofs.YtmcljepicadjfaaGreatDoor
open Go.AI Go.RowKit
set_option maxRecDepth 8000
set_option maxHeartbeats 3200000
/-- What ReadStock hands back. -/
def StR (x : Stock) (cd : Int) (v : A) (h : Heap) : Prop := ∃ a, v = .tup [a, .int cd] ∧ ROStock x a h
theorem StR.nil {cd : Int} : StR ⟨[], []⟩ cd (.tup [.agg [.sl [], .sl []], .int cd]) [] := ⟨_, rfl, .sl [], [], .inr ⟨rfl, rfl, rfl⟩, .sl [], [], .inr ⟨rfl, rfl, rfl⟩, rfl, rfl⟩
end Go.Proofs.YtmcljepicadjfaaGreatDoor
