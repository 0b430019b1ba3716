/-
  Texts of formulas, read back: plain facts. No condition.
-/
import Derived.Test.YtmcljepicadjfaaDoorZX7a
import Derived.Test.YtmcljepicadjfaaDoorZOP
import Derived.Test.YtmcljepicadjfaaDoorZVC
namespace Go.Proofs.YtmcljepicadjfaaDoor
open Go.AI Go.RowKit
set_option maxRecDepth 8000
set_option maxHeartbeats 1600000
def lnW (t : List UInt8) : List (List UInt8) := (spl 10 t).dropLast
def lnE (t : List UInt8) : List UInt8 := (spl 10 t).getLast (spl_ne 10 t)
theorem ln_eq (t : List UInt8) : spl 10 t = lnW t ++ [lnE t] := (List.dropLast_concat_getLast (spl_ne 10 t)).symm
theorem lnW_len (t : List UInt8) : (lnW t).length ≤ t.length := by
  have := spl_len 10 t
  rw [ln_eq] at this
  simp at this; omega
theorem lnW_mem (t : List UInt8) : ∀ w ∈ lnW t, w.length ≤ t.length ∧ (10 : UInt8) ∉ w := fun w hw => spl_mem 10 t w (by rw [ln_eq]; simp [hw])
theorem ln_lines {ws : List (List UInt8)} (h : ∀ x ∈ ws, (10 : UInt8) ∉ x) {t : List UInt8} (ht : t = (ws.map fun w => w ++ [10]).flatten) : lnW t = ws ∧ lnE t = [] := by
  have q := ln_eq t
  rw [ht, spl_lines 10 ws h, ← ht] at q
  have q1 := congrArg List.dropLast q
  have q2 := congrArg List.getLast? q
  simp only [List.dropLast_concat, List.getLast?_concat, Option.some.injEq] at q1 q2
  exact ⟨q1.symm, q2.symm⟩
/-- A text behind another one, where that stands ahead. -/
def trimP (p s : List UInt8) : List UInt8 := if p.isPrefixOf s then s.drop p.length else s
theorem trimP_app (p s : List UInt8) : trimP p (p ++ s) = s := by
  unfold trimP
  rw [if_pos (by simp)]; simp
/-- A text cut at the first place where another one stands. -/
def cutF (p : List UInt8) : List UInt8 → Option (List UInt8 × List UInt8)
  | [] => if p.isPrefixOf [] then some ([], []) else none
  | x :: s => if p.isPrefixOf (x :: s) then some ([], (x :: s).drop p.length) else (cutF p s).map fun q => (x :: q.1, q.2)
theorem cutF_app (p s : List UInt8) : cutF p (p ++ s) = some ([], s) := by
  have h : p.isPrefixOf (p ++ s) = true := by simp
  have e : (p ++ s).drop p.length = s := by simp
  generalize p ++ s = t at h e
  cases t with
  | nil =>
    rw [cutF, if_pos h]
    simp at e; rw [e]
  | cons x t => rw [cutF, if_pos h, e]
/-- .. with a sign that it stands. -/
def cutR (p s : List UInt8) : List UInt8 × List UInt8 × Bool := match cutF p s with
  | some q => (q.1, q.2, true)
  | none => ([], [], false)
theorem cutF_at {p : List UInt8} : ∀ {s : List UInt8} {k : Nat}, k ≤ s.length → p.isPrefixOf (s.drop k) = true → (∀ i, i < k → ¬ p.isPrefixOf (s.drop i) = true) → cutF p s = some (s.take k, s.drop (k + p.length))
  | [], k, hk, h, _ => by
    have : k = 0 := by simpa using hk
    subst this
    rw [List.drop_zero] at h
    have hp : p = [] := by
      cases p with
      | nil => rfl
      | cons x p => simp at h
    subst hp
    rw [cutF, if_pos h]; simp
  | x :: s, 0, _, h, _ => by
    rw [List.drop_zero] at h
    rw [cutF, if_pos h]; simp
  | x :: s, k + 1, hk, h, hn => by
    have h0 := hn 0 (by omega)
    rw [List.drop_zero] at h0
    rw [cutF, if_neg h0, cutF_at (k := k) (by simpa using hk) (by simpa using h) (fun i hi => by simpa using hn (i + 1) (by omega))]
    simp [Nat.add_right_comm]
theorem cutF_no {p : List UInt8} : ∀ {s : List UInt8}, (∀ i, i ≤ s.length → ¬ p.isPrefixOf (s.drop i) = true) → cutF p s = none
  | [], h => by
    have := h 0 (by simp)
    rw [List.drop_zero] at this
    rw [cutF, if_neg this]
  | x :: s, h => by
    have := h 0 (by simp)
    rw [List.drop_zero] at this
    rw [cutF, if_neg this, cutF_no (fun i hi => by simpa using h (i + 1) (by simpa using hi))]; rfl
theorem cutR_at {p s : List UInt8} {k : Nat} (hk : k ≤ s.length) (h : p.isPrefixOf (s.drop k) = true) (hn : ∀ i, i < k → ¬ p.isPrefixOf (s.drop i) = true) : cutR p s = (s.take k, s.drop (k + p.length), true) := by unfold cutR; rw [cutF_at hk h hn]
theorem cutR_no {p s : List UInt8} (hn : ∀ i, i ≤ s.length → ¬ p.isPrefixOf (s.drop i) = true) : cutR p s = ([], [], false) := by unfold cutR; rw [cutF_no hn]
theorem cutR_app (p s : List UInt8) : cutR p (p ++ s) = ([], s, true) := by unfold cutR; rw [cutF_app]
theorem cutF_len {p : List UInt8} : ∀ {s : List UInt8} {q : List UInt8 × List UInt8}, cutF p s = some q → q.1.length ≤ s.length ∧ q.2.length ≤ s.length
  | [], q, h => by
    rw [cutF] at h
    split at h
    · simp only [Option.some.injEq] at h; subst h; simp
    · cases h
  | x :: s, q, h => by
    rw [cutF] at h
    split at h
    · simp only [Option.some.injEq] at h; subst h; simp
    · cases hc : cutF p s with
      | none => rw [hc] at h; cases h
      | some r =>
        rw [hc] at h
        simp only [Option.map_some, Option.some.injEq] at h
        subst h
        have := cutF_len hc
        simp only [List.length_cons]; omega
theorem cutR_len (p s : List UInt8) : (cutR p s).1.length ≤ s.length ∧ (cutR p s).2.1.length ≤ s.length := by
  unfold cutR
  cases h : cutF p s with
  | none => simp
  | some q => exact cutF_len h
/-- A number of one to four digits. -/
def numA (acc : Int) : List UInt8 → Int
  | [] => acc
  | c :: r => if c < 48 ∨ 57 < c then -1 else numA (acc * 10 + ((c - 48).toNat : Int)) r
def numS (s : List UInt8) : Int := if s.length < 1 ∨ 4 < s.length then -1 else numA 0 s
theorem numA_in : ∀ (s : List UInt8) (acc B : Int), 0 ≤ acc → acc ≤ B → -1 ≤ numA acc s ∧ numA acc s ≤ (B + 26) * 10 ^ s.length
  | [], acc, B, h0, h1 => by simp only [numA, List.length_nil, Int.pow_zero]; omega
  | c :: r, acc, B, h0, h1 => by
    have hp : (0 : Int) < 10 ^ r.length := Int.pow_pos (by decide)
    rw [numA, List.length_cons, Int.pow_succ]
    split
    · refine ⟨by omega, ?_⟩
      have : (0 : Int) ≤ (B + 26) * (10 ^ r.length * 10) := Int.mul_nonneg (by omega) (by omega)
      omega
    · rename_i hc
      have hd : (c - 48).toNat ≤ 9 := by
        simp only [not_or, UInt8.not_lt] at hc
        have h2 : 48 ≤ c.toNat := UInt8.le_iff_toNat_le.1 hc.1
        have h3 : c.toNat ≤ 57 := UInt8.le_iff_toNat_le.1 hc.2
        have : (c - 48).toNat = c.toNat - 48 := by rw [UInt8.toNat_sub_of_le _ _ hc.1]; rfl
        omega
      have ih := numA_in r (acc * 10 + ((c - 48).toNat : Int)) (B * 10 + 9) (by omega) (by omega)
      refine ⟨ih.1, Int.le_trans ih.2 ?_⟩
      have : (B * 10 + 9 + 26) ≤ (B + 26) * 10 := by omega
      calc (B * 10 + 9 + 26) * 10 ^ r.length ≤ ((B + 26) * 10) * 10 ^ r.length := Int.mul_le_mul_of_nonneg_right this (by omega)
        _ = (B + 26) * (10 ^ r.length * 10) := by rw [Int.mul_assoc, Int.mul_comm 10]
theorem numS_in (s : List UInt8) : -1 ≤ numS s ∧ numS s ≤ 260000 := by
  unfold numS
  split
  · omega
  · rename_i h
    have q := numA_in s 0 0 (by omega) (by omega)
    have h4 : (10 : Int) ^ s.length ≤ 10 ^ 4 := by
      have : s.length = 1 ∨ s.length = 2 ∨ s.length = 3 ∨ s.length = 4 := by omega
      rcases this with e | e | e | e <;> rw [e] <;> decide
    have : (10 : Int) ^ 4 = 10000 := by decide
    omega

/-! ### Formulas -/
def lineC (c : List Int) : List UInt8 := [99, 108, 97, 117, 115, 101] ++ catK vT c c.length ++ (if c = [] then [32, 46] else [])
def lineF (f : Cnf) : List UInt8 := [99, 110, 102, 32] ++ dcm f.vars
theorem catK_all {α : Type} (g : α → List UInt8) (l : List α) : catK g l l.length = (l.map g).flatten := by unfold catK; rw [List.take_length]
theorem cnfT_lines (f : Cnf) : cnfT f = ((lineF f :: f.clauses.map lineC).map fun w => w ++ [10]).flatten := by
  unfold cnfT
  rw [catK_all, List.map_cons, List.flatten_cons, List.map_map]
  rfl
theorem no10 (n : Int) : (10 : UInt8) ∉ dcm n := dcm_no (by decide) (.inl (by decide))
theorem no32 (n : Int) : (32 : UInt8) ∉ dcm n := dcm_no (by decide) (.inl (by decide))
theorem lineF_no (f : Cnf) : (10 : UInt8) ∉ lineF f := fun q => by
  unfold lineF at q
  rcases List.mem_append.1 q with q | q
  · revert q; decide
  · exact no10 _ q
theorem lineC_no (c : List Int) : (10 : UInt8) ∉ lineC c := fun q => by
  unfold lineC at q
  rw [catK_all] at q
  rcases List.mem_append.1 q with q | q
  · rcases List.mem_append.1 q with q | q
    · revert q; decide
    · obtain ⟨l, h1, h2⟩ := List.mem_flatten.1 q
      obtain ⟨v, _, rfl⟩ := List.mem_map.1 h1
      unfold vT at h2
      rcases List.mem_append.1 h2 with h2 | h2
      · revert h2; decide
      · exact no10 _ h2
  · split at q
    · revert q; decide
    · cases q
theorem cnf_ln (f : Cnf) : lnW (cnfT f) = lineF f :: f.clauses.map lineC ∧ lnE (cnfT f) = [] := ln_lines (fun x hx => by
  rcases List.mem_cons.1 hx with rfl | hx
  · exact lineF_no f
  · obtain ⟨c, _, rfl⟩ := List.mem_map.1 hx
    exact lineC_no c) (cnfT_lines f)
theorem spl_vT : ∀ (c : List Int) (w : List UInt8), (32 : UInt8) ∉ w → spl 32 (w ++ (c.map vT).flatten) = w :: c.map dcm
  | [], w, h => by simp only [List.map_nil, List.flatten_nil, List.append_nil]; exact spl_one 32 w h
  | v :: vs, w, h => by
    have e : w ++ ((v :: vs).map vT).flatten = w ++ 32 :: (dcm v ++ (vs.map vT).flatten) := by simp [vT]
    rw [e, spl_cut 32 _ _ h, spl_vT vs (dcm v) (no32 v)]; rfl
theorem spl_lineC (c : List Int) : (spl 32 (lineC c)).drop 1 = if c = [] then [[46]] else c.map dcm := by
  unfold lineC
  rw [catK_all]
  by_cases hc : c = []
  · subst hc
    rw [if_pos rfl, if_pos rfl]
    decide
  · rw [if_neg hc, if_neg hc, List.append_nil, spl_vT c _ (by decide)]; rfl
def wI (w : List UInt8) : Option Int := if pIok w then some (pIv w) else none
def clI (line : List UInt8) : List Int := ((spl 32 line).drop 1).filterMap wI
theorem filterMap_dcm : ∀ (c : List Int), (∀ x ∈ c, -9223372036854775808 ≤ x ∧ x ≤ 9223372036854775807) → (c.map dcm).filterMap wI = c
  | [], _ => rfl
  | v :: vs, h => by
    have h1 := h v (by simp)
    rw [List.map_cons, List.filterMap_cons]
    unfold wI
    rw [if_pos (pIok_dcm h1), pIv_dcm h1]
    simp only
    rw [show (fun w => if pIok w = true then some (pIv w) else none) = wI from rfl, filterMap_dcm vs (fun x hx => h x (by simp [hx]))]
theorem clI_line {c : List Int} (h : ∀ x ∈ c, -9223372036854775808 ≤ x ∧ x ≤ 9223372036854775807) : clI (lineC c) = c := by
  unfold clI
  rw [spl_lineC]
  by_cases hc : c = []
  · subst hc; rw [if_pos rfl]
    have : wI [46] = none := by decide
    simp [this]
  · rw [if_neg hc]; exact filterMap_dcm c h
def wS (w : List UInt8) : List Int := if w = [46] then [] else if w.length = 2 ∧ w.getD 0 0 = 45 then [0 - numS (w.drop 1)] else [numS w]
def clS (line : List UInt8) : List Int := (((spl 32 line).drop 1).map wS).flatten
theorem numS_dig {v : Int} (h : 0 ≤ v ∧ v ≤ 4) : numS (dcm v) = v := by
  rw [dcm_small (by omega)]
  obtain rfl | rfl | rfl | rfl | rfl : v = 0 ∨ v = 1 ∨ v = 2 ∨ v = 3 ∨ v = 4 := by omega
  all_goals decide
theorem wS_dcm {v : Int} (h : -4 ≤ v ∧ v ≤ 4) : wS (dcm v) = [v] := by
  by_cases hn : v < 0
  · have q := numS_dig (v := 0 - v) (by omega)
    have e := dcm_small (n := 0 - v) (by omega)
    unfold wS
    rw [dcm_neg hn, if_neg (by simp), if_pos (by rw [e]; exact ⟨rfl, rfl⟩), List.drop_one, List.tail_cons, q]
    congr 1; omega
  · have q := numS_dig (v := v) (by omega)
    have e := dcm_small (n := v) (by omega)
    unfold wS
    rw [if_neg (by
      rw [e]
      obtain rfl | rfl | rfl | rfl | rfl : v = 0 ∨ v = 1 ∨ v = 2 ∨ v = 3 ∨ v = 4 := by omega
      all_goals decide), if_neg (by rw [e]; simp), q]
theorem map_wS : ∀ (c : List Int), (∀ x ∈ c, -4 ≤ x ∧ x ≤ 4) → ((c.map dcm).map wS).flatten = c
  | [], _ => rfl
  | v :: vs, h => by
    rw [List.map_cons, List.map_cons, List.flatten_cons, wS_dcm (h v (by simp)), map_wS vs (fun x hx => h x (by simp [hx]))]; rfl
theorem clS_line {c : List Int} (h : ∀ x ∈ c, -4 ≤ x ∧ x ≤ 4) : clS (lineC c) = c := by
  unfold clS
  rw [spl_lineC]
  by_cases hc : c = []
  · subst hc; rw [if_pos rfl]; rfl
  · rw [if_neg hc]; exact map_wS c h
def cnf4 : List UInt8 := [99, 110, 102, 32]
def candI (t : List UInt8) : Cnf := ⟨pIv (trimP cnf4 ((lnW t).headD [])), (lnW t).tail.map clI⟩
def candS (t : List UInt8) : Cnf := ⟨numS (cutR cnf4 ((lnW t).headD [])).2.1, (lnW t).tail.map clS⟩
theorem map_id2 {α : Type} {g : α → α} : ∀ {l : List α}, (∀ x ∈ l, g x = x) → l.map g = l
  | [], _ => rfl
  | x :: l, h => by rw [List.map_cons, h x (by simp), map_id2 fun y hy => h y (by simp [hy])]
theorem candI_text {f : Cnf} (hv : f.Valid) : candI (cnfT f) = f := by
  have h1 := hv.1
  unfold candI
  rw [(cnf_ln f).1]
  simp only [List.headD_cons, List.tail_cons, List.map_map]
  rw [map_id2 (l := f.clauses) (g := clI ∘ lineC) (fun c hc => by
    obtain ⟨k, hk, rfl⟩ := List.getElem_of_mem hc
    have := (cnf_cl hv hk).2
    exact clI_line fun x hx => by have := this x hx; omega)]
  rw [show lineF f = cnf4 ++ dcm f.vars from rfl, trimP_app, pIv_dcm (by omega)]
theorem candS_text {f : Cnf} (hv : f.Valid) : candS (cnfT f) = f := by
  have h1 := hv.1
  unfold candS
  rw [(cnf_ln f).1]
  simp only [List.headD_cons, List.tail_cons, List.map_map]
  rw [map_id2 (l := f.clauses) (g := clS ∘ lineC) (fun c hc => by
    obtain ⟨k, hk, rfl⟩ := List.getElem_of_mem hc
    exact clS_line (cnf_cl hv hk).2)]
  rw [show lineF f = cnf4 ++ dcm f.vars from rfl, cutR_app]
  rw [numS_dig (by omega)]
/-- A text is one of a formula. -/
def IsCnfT (t : List UInt8) : Prop := ∃ f : Cnf, f.Valid ∧ cnfT f = t
open Classical in
noncomputable def resReadCnf (t : List UInt8) : Cnf := if h : IsCnfT t then Classical.choose h else ⟨0, []⟩
open Classical in
noncomputable def codeReadCnf (t : List UInt8) : Int := if IsCnfT t then 0 else 5
theorem readI_ok {t : List UInt8} (h : txP (candI t).Valid (cnfT (candI t)) = t) (h2 : lnW t ≠ []) : IsCnfT t ∧ resReadCnf t = candI t := by
  have hv : (candI t).Valid := Classical.byContradiction fun q => by
    rw [tx_f q] at h
    subst h
    exact h2 rfl
  rw [tx_t hv] at h
  have hc : IsCnfT t := ⟨_, hv, h⟩
  refine ⟨hc, ?_⟩
  unfold resReadCnf
  rw [dif_pos hc]
  obtain ⟨q1, q2⟩ := Classical.choose_spec hc
  conv => rhs; rw [← q2, candI_text q1]
theorem readI_no {t : List UInt8} (h : ¬ txP (candI t).Valid (cnfT (candI t)) = t) : ¬ IsCnfT t := fun ⟨f, q1, q2⟩ => h (by
  have e := candI_text q1
  rw [q2] at e
  rw [e, tx_t q1, q2])
theorem readS_ok {t : List UInt8} (h1 : (candS t).Valid) (h : cnfT (candS t) = t) : IsCnfT t ∧ resReadCnf t = candS t := by
  have hc : IsCnfT t := ⟨_, h1, h⟩
  refine ⟨hc, ?_⟩
  unfold resReadCnf
  rw [dif_pos hc]
  obtain ⟨q1, q2⟩ := Classical.choose_spec hc
  conv => rhs; rw [← q2, candS_text q1]
theorem readS_no {t : List UInt8} (h : ¬ (candS t).Valid ∨ ¬ cnfT (candS t) = t) : ¬ IsCnfT t := fun ⟨f, q1, q2⟩ => by
  have e := candS_text q1
  rw [q2] at e
  rw [e] at h
  rcases h with h | h
  · exact h q1
  · exact h q2
theorem isCnfT_ln {t : List UInt8} (h : IsCnfT t) : lnE t = [] ∧ 1 ≤ (lnW t).length ∧ (lnW t).length ≤ 7 := by
  obtain ⟨f, q1, rfl⟩ := h
  have := q1.2.1
  rw [(cnf_ln f).1]
  refine ⟨(cnf_ln f).2, by simp, by simp; omega⟩
theorem read_yes {t : List UInt8} (h : IsCnfT t) : codeReadCnf t = 0 := by unfold codeReadCnf; rw [if_pos h]
theorem read_not {t : List UInt8} (h : ¬ IsCnfT t) : codeReadCnf t = 5 ∧ resReadCnf t = ⟨0, []⟩ := by unfold codeReadCnf resReadCnf; rw [if_neg h, dif_neg h]; exact ⟨rfl, rfl⟩
theorem resReadCnf_small (t : List UInt8) : (resReadCnf t).clauses.length ≤ 6 ∧ ∀ c ∈ (resReadCnf t).clauses, c.length ≤ 9 := by
  by_cases h : IsCnfT t
  · unfold resReadCnf
    rw [dif_pos h]
    obtain ⟨q1, _⟩ := Classical.choose_spec h
    refine ⟨by have := q1.2.1; omega, fun c hc => ?_⟩
    obtain ⟨k, hk, rfl⟩ := List.getElem_of_mem hc
    exact (cnf_cl q1 hk).1
  · rw [(read_not h).2]; simp
end Go.Proofs.YtmcljepicadjfaaDoor

/-
  Copies of lists in memory of the call's own, their marks, and what is held. No condition but that the sizes are bounded.
-/
namespace Go.Proofs.YtmcljepicadjfaaDoor
open Go.AI
set_option maxRecDepth 8000
set_option maxHeartbeats 1600000
/-- .. whatever stood there. -/
theorem x_markInt64S (b : Option Nat) (cap room k0 : Nat) (cs : List A) (hk : k0 + cs.length ≤ 4611686018427387904) :
    Does Tryd.prog 35 [.os b cs.length cap, .int (k0 : Int)] [⟨b, 2, room, (cs.map fun a => [a]).flatten⟩] (fun v h' => v = .int ((k0 + cs.length : Nat) : Int) ∧ h' = [⟨b, 2, room, (((List.range cs.length).map fun i => A.int ((k0 + i : Nat) : Int)).map fun a => [a]).flatten⟩]) := by
  refine fn_of_runD tyOk ztOk mix Tryd.func35 rfl (by decide) Tryd.ntmps35 (fun w0 F => ?_)
  repeat' (first
      | (refine j_go ?_; first
        | refine j_op0 rfl rfl rfl rfl ?_)
      | refine j_nil ?_
      | (refine r_go ?_; first | refine run_seq ?_ | refine run_region ?_ | refine run_block ?_)
      | refine seqQ_normal ?_)
  refine run_loop (fun i : Nat => [(0, .os b cs.length cap), (1, .int ((k0 + i : Nat) : Int)), (5, .int (i : Int))]) (fun i => ⟨b, 2, room, ((((List.range i).map fun q => A.int ((k0 + q : Nat) : Int)) ++ cs.drop i).map fun a => [a]).flatten⟩ :: F)
      (fun i => i ≤ cs.length) (fun i => cs.length - i) 0 ⟨rfl, rfl, rfl, trivial⟩ (by simp) (by omega) ?_
  intro i g1
  by_cases hi : i < cs.length
  · refine run_some 0 rfl (by rw [sing_flat]; intro q; have := congrArg List.length q; simp at this; omega) (fun b' hb' => ?_)
    subst hb'
    repeat' (first
      | (refine j_go ?_; first
        | refine j_op0 rfl rfl rfl rfl ?_ | (refine j_kIdx rfl ?_; first | refine j_midx rfl rfl rfl rfl rfl (by first | omega | (simp only [List.length_append, List.length_cons, List.length_nil]; omega)) rfl rfl ?_) | (refine j_kLen rfl ?_; first | refine j_op rfl rfl rfl rfl ?_))
      | refine j_nil ?_
      | (refine r_go ?_; first | refine run_seq ?_ | refine run_region ?_ | (refine (run_if rfl (fun hb => ?_) (fun hb => ?_)) <;> first | (exfalso; omega) | skip) | refine run_block ?_ | refine run_skip ?_)
      | refine seqQ_normal ?_)
    refine j_storeE 0 i (g := fun a => [a]) (A.int ((k0 + i : Nat) : Int)) rfl rfl rfl rfl rfl rfl rfl rfl rfl (fun _ => rfl : ∀ y, ([y] : List A).length = 1) rfl (by simp; omega) ?_
    repeat' (first
      | (refine j_go ?_; first
        | refine j_op0 rfl rfl rfl rfl ?_ | (refine j_kBin rfl ?_; first | refine j_in rfl rfl ⟨by omega, by omega⟩ rfl rfl ?_))
      | refine j_nil ?_
      | (refine r_go ?_; first | refine run_region ?_)
      | refine seqQ_normal ?_ | refine blockQ_normal ?_)
    exact loopQ_next (i + 1) (by omega) (by omega) (by rw [← range_set (f := fun q => A.int ((k0 + q : Nat) : Int)) _ rfl hi]; rfl) ⟨rfl, nx (k0 + i), nx _, trivial⟩
  · repeat' (first
      | (refine j_go ?_; first
        | refine j_op0 rfl rfl rfl rfl ?_ | (refine j_kLen rfl ?_; first | refine j_op rfl rfl rfl rfl ?_))
      | refine j_nil ?_
      | (refine r_go ?_; first | refine run_seq ?_ | refine run_region ?_ | (refine (run_if rfl (fun hb => ?_) (fun hb => ?_)) <;> first | (exfalso; omega) | skip) | refine run_ret ?_ | refine run_exit ?_)
      | refine seqQ_normal ?_ | refine seqQ_exit ?_ | refine blockQ_eq ?_ | refine loopQ_exit ?_)
    have : i = cs.length := by omega
    subst this
    exact endD_ret (h1 := [_]) rfl (.cons (.tmp rfl) .nil) (Le.refl _) ⟨rfl, by rw [List.drop_length, List.append_nil]⟩ (.inl rfl)
theorem c_heldInt64S (L : List Int) (k0 : Nat) (hL : ∀ i (h : i < L.length), L[i] = ((k0 + i : Nat) : Int)) (hk : k0 + L.length ≤ 4611686018427387904) : Gives Tryd.prog 36 [.sl (L.map Go.AI.encI), .int (k0 : Int)] (.int ((k0 + L.length : Nat) : Int)) := by
  refine fn_of_run tyOk ztOk mix Tryd.func36 rfl (by decide) Tryd.ntmps36 (fun w0 h => ?_)
  repeat' (first
      | (refine j_go ?_; first
        | refine j_op0 rfl rfl rfl rfl ?_)
      | refine j_nil ?_
      | (refine r_go ?_; first | refine run_seq ?_ | refine run_region ?_ | refine run_block ?_)
      | refine seqQ_normal ?_)
  refine run_loop (fun i : Nat => [(0, .sl (L.map Go.AI.encI)), (1, .int ((k0 + i : Nat) : Int)), (5, .int (i : Int))]) (fun _ => h) (fun i => i ≤ L.length) (fun i => L.length - i) 0 ⟨rfl, rfl, rfl, trivial⟩ rfl (by omega) ?_
  intro i g1
  by_cases hi : i < L.length
  · have hLi := hL i hi
    repeat' (first
      | (refine j_go ?_; first
        | refine j_op0 rfl rfl rfl rfl ?_ | (refine j_kIdx rfl ?_; first | refine j_idx rfl rfl rfl rfl rfl (by omega) rfl rfl rfl ?_) | (refine j_kBin rfl ?_; first | refine j_in rfl rfl ⟨by omega, by omega⟩ rfl rfl ?_) | (refine j_kLen rfl ?_; first | refine j_len rfl rfl rfl rfl rfl rfl ?_))
      | refine j_nil ?_
      | (refine r_go ?_; first | refine run_seq ?_ | refine run_region ?_ | (refine (run_if rfl (fun hb => ?_) (fun hb => ?_)) <;> first | (exfalso; omega) | skip) | (refine (run_ifn rfl (fun hb => ?_) (fun hb => ?_)) <;> first | (exfalso; omega) | skip) | refine run_block ?_ | refine run_skip ?_)
      | refine seqQ_normal ?_ | refine blockQ_normal ?_)
    all_goals first | exact loopQ_next (i + 1) (by omega) (by omega) rfl ⟨rfl, nx (k0 + i), nx _, trivial⟩ | exact absurd hLi hb
  · repeat' (first
      | (refine j_go ?_; first
        | refine j_op0 rfl rfl rfl rfl ?_ | (refine j_kLen rfl ?_; first | refine j_len rfl rfl rfl rfl rfl rfl ?_))
      | refine j_nil ?_
      | (refine r_go ?_; first | refine run_seq ?_ | refine run_region ?_ | (refine (run_if rfl (fun hb => ?_) (fun hb => ?_)) <;> first | (exfalso; omega) | skip) | refine run_ret ?_ | refine run_exit ?_)
      | refine seqQ_normal ?_ | refine seqQ_exit ?_ | refine blockQ_eq ?_ | refine loopQ_exit ?_)
    have : i = L.length := by omega
    subst this
    exact end1 rfl (List.Sublist.refl _) rfl (.inl rfl)
def marked (k0 n : Nat) : List Int := (List.range n).map fun i => ((k0 + i : Nat) : Int)
theorem x_markI (b : Option Nat) (cap k0 : Nat) (r : List Int) (hk : k0 + r.length ≤ 4611686018427387904) :
    Does Tryd.prog 35 [.os b r.length cap, .int (k0 : Int)] [⟨b, 2, cap * 1, (r.map Go.AI.encI).flatten⟩] (fun v h' => v = .int ((k0 + r.length : Nat) : Int) ∧ h' = [⟨b, 2, cap * 1, ((marked k0 r.length).map Go.AI.encI).flatten⟩]) := by
  have := x_markInt64S b cap (cap * 1) k0 (r.map A.int) (by simpa using hk)
  have e1 : ((r.map A.int).map fun a => [a]) = r.map Go.AI.encI := by simp [Go.AI.encI]
  have e2 : (((List.range r.length).map fun i => A.int ((k0 + i : Nat) : Int)).map fun a => [a]) = (marked k0 r.length).map Go.AI.encI := by simp [Go.AI.encI, marked]
  rw [e1, List.length_map, e2] at this
  exact this
end Go.Proofs.YtmcljepicadjfaaDoor

/-
  Results in memory of the call's own: their marks, and what is held of them. No condition but that the sizes are bounded.
-/
namespace Go.Proofs.YtmcljepicadjfaaDoor
open Go.AI
set_option maxRecDepth 8000
set_option maxHeartbeats 1600000
def ROI (l : List Int) (a : A) (h : Heap) : Prop := OwnF Go.AI.encI 2 1 l a h
def ROB (l : List Bool) (a : A) (h : Heap) : Prop := OwnF encB 4 1 l a h
def ROII (L : List (List Int)) (a : A) (h : Heap) : Prop := OwnLL ROI 36 L a h
theorem ROI.frz {l : List Int} {a : A} {h : Heap} (o : ROI l a h) : Frz h a (.sl (l.map Go.AI.encI)) := OwnF.frz (fun _ => rfl) rfl o
theorem ROB.frz {l : List Bool} {a : A} {h : Heap} (o : ROB l a h) : Frz h a (.sl (l.map encB)) := OwnF.frz (fun _ => rfl) rfl o
theorem ROII.frz {l : List (List Int)} {a : A} {h : Heap} (o : ROII l a h) : Frz h a (.sl (l.map (encS Go.AI.encI))) := OwnLL.frz (enc := fun x => (x.map Go.AI.encI)) (fun _ _ _ q => q.frz) o (fun _ => rfl)
theorem ROI.clo {l : List Int} {a : A} {h : Heap} (o : ROI l a h) : Clo a ∧ CloH h := OwnF.clo (fun _ => CloL.cons (Clo.int _) CloL.nil) o
theorem ROB.clo {l : List Bool} {a : A} {h : Heap} (o : ROB l a h) : Clo a ∧ CloH h := OwnF.clo (fun _ => CloL.cons (Clo.raw _) CloL.nil) o
theorem ROII.clo {l : List (List Int)} {a : A} {h : Heap} (o : ROII l a h) : Clo a ∧ CloH h := OwnLL.clo (fun _ _ _ q => q.clo) o
theorem r_markI (r : List Int) (a : A) (h : Heap) (k0 : Nat) (o : ROI r a h) (hk : k0 + r.length ≤ 4611686018427387904) :
    Does Tryd.prog 35 [a, .int (k0 : Int)] h (fun v h' => v = .int ((k0 + r.length : Nat) : Int) ∧ ROI (markedI k0 r.length) a h') := by
  rcases o with ⟨b, cap, rfl, rfl⟩ | ⟨rfl, rfl, rfl⟩
  case inr =>
    refine fn_of_runD tyOk ztOk mix Tryd.func35 rfl (by decide) Tryd.ntmps35 (fun w0 F => ?_)
    change Run _ _ _ _ _ F
    repeat' (first
      | (refine j_go ?_; first
        | refine j_op0 rfl rfl rfl rfl ?_)
      | refine j_nil ?_
      | (refine r_go ?_; first | refine run_seq ?_ | refine run_region ?_ | refine run_block ?_)
      | refine seqQ_normal ?_)
    refine run_loop (fun _ : Unit => [(0, .sl []), (1, .int (k0 : Int)), (5, .int 0)]) (fun _ => F) (fun _ => True) (fun _ => 0) () ⟨rfl, rfl, rfl, trivial⟩ rfl trivial (fun _ _ => ?_)
    repeat' (first
      | (refine j_go ?_; first
        | refine j_op0 rfl rfl rfl rfl ?_ | (refine j_kLen rfl ?_; first | refine j_op rfl rfl rfl rfl ?_))
      | refine j_nil ?_
      | (refine r_go ?_; first | refine run_seq ?_ | refine run_region ?_ | (refine (run_if rfl (fun hb => ?_) (fun hb => ?_)) <;> first | (exfalso; omega) | skip) | refine run_block ?_ | refine run_ret ?_ | refine run_exit ?_ | refine run_skip ?_)
      | refine seqQ_normal ?_ | refine seqQ_exit ?_ | refine blockQ_eq ?_ | refine loopQ_exit ?_)
    · exact absurd hb (by simp)
    exact endD_ret (h1 := []) rfl (vs := [_]) (.cons (.tmp rfl) .nil) (Le.refl _) ⟨rfl, .inr ⟨rfl, rfl, rfl⟩⟩ (.inl rfl)
  have := x_markI b cap k0 r hk
  exact this.drop fun v h' ⟨q1, q2⟩ => ⟨h', h', .refl _, List.Sublist.refl _, q1, .inl ⟨b, cap, by rw [markedI_len], q2⟩⟩
theorem c_heldInt64SS (L : List (List Int)) (k0 : Nat) (hk : k0 + mcnt List.length L ≤ 4611686018427387904) : Gives Tryd.prog 22 [.sl ((markedII k0 L).map (encS Go.AI.encI)), .int (k0 : Int)] (.int ((k0 + mcnt List.length L : Nat) : Int)) := by
  have hn : (markedII k0 L).length = L.length := markedII_len L k0
  refine fn_of_run tyOk ztOk mix Tryd.func22 rfl (by decide) Tryd.ntmps22 (fun w0 h => ?_)
  refine run_len (t := 0) rfl (fun hmx => ?_)
  rw [List.length_map, hn] at hmx
  repeat' (first
      | (refine j_go ?_; first
        | refine j_op0 rfl rfl rfl rfl ?_)
      | refine j_nil ?_
      | (refine r_go ?_; first | refine run_seq ?_ | refine run_region ?_ | refine run_block ?_)
      | refine seqQ_normal ?_)
  refine run_loop (fun i : Nat => [(0, .sl ((markedII k0 L).map (encS Go.AI.encI))), (1, .int ((k0 + mcnt List.length (L.take i) : Nat) : Int)), (5, .int (i : Int))]) (fun _ => h) (fun i => i ≤ L.length) (fun i => L.length - i) 0 ⟨rfl, (by simp [mcnt]; rfl), rfl, trivial⟩ rfl (by omega) ?_
  intro i g1
  by_cases hi : i < L.length
  · have hLi := markedII_get L k0 i hi
    have hsn := mcnt_take (f := List.length) hi
    have hlt := mcnt_take_le (f := List.length) (i + 1) L
    have hgi := c_heldInt64S (markedII k0 L)[i] (k0 + mcnt List.length (L.take i)) (by rw [hLi]; exact fun _ _ => markedI_get _) (by rw [hLi, markedI_len]; omega)
    rw [show (markedII k0 L)[i].length = L[i].length from by rw [hLi, markedI_len]] at hgi
    repeat' (first
      | (refine j_go ?_; first
        | refine j_op0 rfl rfl rfl rfl ?_ | (refine j_kIdx rfl ?_; first | refine j_idx rfl rfl rfl rfl rfl (by omega) rfl rfl rfl ?_) | (refine j_kBin rfl ?_; first | refine j_in rfl rfl ⟨by omega, by omega⟩ rfl rfl ?_) | (refine j_kLen rfl ?_; first | refine j_len rfl rfl rfl rfl rfl rfl ?_) | (refine j_kCall rfl rfl rfl rfl ?_; first | refine jc (hgi) (LeL.refl _) rfl rfl ?_))
      | refine j_nil ?_
      | (refine r_go ?_; first | refine run_seq ?_ | refine run_region ?_ | (refine (run_if rfl (fun hb => ?_) (fun hb => ?_)) <;> first | (exfalso; omega) | skip) | refine run_block ?_ | refine run_skip ?_)
      | refine seqQ_normal ?_ | refine blockQ_normal ?_)
    all_goals first | exact loopQ_next (i + 1) (by omega) (by omega) rfl ⟨rfl, (by rw [hsn, ← Nat.add_assoc]; rfl), nx _, trivial⟩ | (exfalso; omega) | trace_state
  · repeat' (first
      | (refine j_go ?_; first
        | refine j_op0 rfl rfl rfl rfl ?_ | (refine j_kLen rfl ?_; first | refine j_len rfl rfl rfl rfl rfl rfl ?_))
      | refine j_nil ?_
      | (refine r_go ?_; first | refine run_seq ?_ | refine run_region ?_ | (refine (run_if rfl (fun hb => ?_) (fun hb => ?_)) <;> first | (exfalso; omega) | skip) | refine run_ret ?_ | refine run_exit ?_)
      | refine seqQ_normal ?_ | refine seqQ_exit ?_ | refine blockQ_eq ?_ | refine loopQ_exit ?_)
    have : i = L.length := by omega
    subst this
    exact end1 rfl (List.Sublist.refl _) (by rw [List.take_length]) (.inl rfl)
theorem r_markII (L : List (List Int)) (a : A) (h : Heap) (k0 : Nat) (o : ROII L a h) (hk : k0 + mcnt List.length L ≤ 4611686018427387904) :
    Does Tryd.prog 21 [a, .int (k0 : Int)] h (fun v h' => v = .int ((k0 + mcnt List.length L : Nat) : Int) ∧ ROII (markedII k0 L) a h') := by
  rcases o with ⟨b, cap, vs, hs, l1, l2, hall, rfl, rfl⟩ | ⟨rfl, rfl, rfl⟩
  case inr =>
    refine fn_of_runD tyOk ztOk mix Tryd.func21 rfl (by decide) Tryd.ntmps21 (fun w0 F => ?_)
    change Run _ _ _ _ _ F
    repeat' (first
      | (refine j_go ?_; first
        | refine j_op0 rfl rfl rfl rfl ?_)
      | refine j_nil ?_
      | (refine r_go ?_; first | refine run_seq ?_ | refine run_region ?_ | refine run_block ?_)
      | refine seqQ_normal ?_)
    refine run_loop (fun _ : Unit => [(0, .sl []), (1, .int (k0 : Int)), (5, .int 0)]) (fun _ => F) (fun _ => True) (fun _ => 0) () ⟨rfl, rfl, rfl, trivial⟩ rfl trivial (fun _ _ => ?_)
    repeat' (first
      | (refine j_go ?_; first
        | refine j_op0 rfl rfl rfl rfl ?_ | (refine j_kLen rfl ?_; first | refine j_op rfl rfl rfl rfl ?_))
      | refine j_nil ?_
      | (refine r_go ?_; first | refine run_seq ?_ | refine run_region ?_ | (refine (run_if rfl (fun hb => ?_) (fun hb => ?_)) <;> first | (exfalso; omega) | skip) | refine run_block ?_ | refine run_ret ?_ | refine run_exit ?_ | refine run_skip ?_)
      | refine seqQ_normal ?_ | refine seqQ_exit ?_ | refine blockQ_eq ?_ | refine loopQ_exit ?_)
    · exact absurd hb (by simp)
    exact endD_ret (h1 := []) rfl (vs := [_]) (.cons (.tmp rfl) .nil) (Le.refl _) ⟨rfl, .inr ⟨rfl, rfl, rfl⟩⟩ (.inl rfl)
  refine fn_of_runD tyOk ztOk mix Tryd.func21 rfl (by decide) Tryd.ntmps21 (fun w0 F => ?_)
  change Run _ _ _ _ _ (⟨b, 36, cap * 1, (vs.map fun a => [a]).flatten⟩ :: (hs.flatten ++ F))
  refine run_olen (t := 0) rfl (fun hol => ?_)
  repeat' (first
      | (refine j_go ?_; first
        | refine j_op0 rfl rfl rfl rfl ?_)
      | refine j_nil ?_
      | (refine r_go ?_; first | refine run_seq ?_ | refine run_region ?_ | refine run_block ?_)
      | refine seqQ_normal ?_)
  refine run_loop (fun s : Nat × List Heap => [(0, .os b L.length cap), (1, .int ((k0 + mcnt List.length (L.take s.1) : Nat) : Int)), (5, .int (s.1 : Int))])
    (fun s => ⟨b, 36, cap * 1, (vs.map fun a => [a]).flatten⟩ :: (s.2.flatten ++ ((hs.drop s.1).flatten ++ F)))
    (fun s => s.1 ≤ L.length ∧ s.2.length = s.1 ∧ ∀ i (h0 : i < L.length) (h1 : i < vs.length) (h2 : i < s.2.length), ROI (markedI (k0 + mcnt List.length (L.take i)) L[i].length) vs[i] s.2[i]) (fun s => L.length - s.1) (0, []) ⟨rfl, (by simp [mcnt]; rfl), rfl, trivial⟩ (by simp) ⟨by simp, rfl, fun _ _ _ h2 => absurd h2 (Nat.not_lt_zero _)⟩ ?_
  intro ⟨k, ms⟩ ⟨g1, g2, g3⟩
  dsimp only at g1 g2 g3 ⊢
  by_cases hkl : k < L.length
  · have hc1 : k < vs.length := by omega
    have hc2 : k < hs.length := by omega
    have hsn := mcnt_take (f := List.length) hkl
    have hlt := mcnt_take_le (f := List.length) (k + 1) L
    have hd : (hs.drop k).flatten = hs[k] ++ (hs.drop (k + 1)).flatten := by rw [List.drop_eq_getElem_cons hc2]; rfl
    have o0 := hall k hkl hc1 hc2
    have hne : (vs.map fun a => [a]).flatten ≠ [] := by rw [sing_flat]; exact fun q => by rw [q] at hc1; simp at hc1
    refine run_some 0 rfl hne (fun b2 hb2 => ?_)
    subst hb2
    rw [hd]
    refine run_heq (h' := ⟨some b2, 36, cap * 1, (vs.map fun a => [a]).flatten⟩ :: (ms.flatten ++ (hs[k] ++ ((hs.drop (k + 1)).flatten ++ F)))) (by simp only [List.append_assoc]) ?_
    repeat' (first
      | (refine j_go ?_; first
        | refine j_op0 rfl rfl rfl rfl ?_ | (refine j_kIdx rfl ?_; first | refine j_midx rfl rfl rfl rfl rfl (by first | omega | (simp only [List.length_append, List.length_cons, List.length_nil]; omega)) rfl rfl ?_) | (refine j_kLen rfl ?_; first | refine j_op rfl rfl rfl rfl ?_))
      | refine j_nil ?_
      | (refine r_go ?_; first | refine run_seq ?_ | refine run_region ?_ | (refine (run_if rfl (fun hb => ?_) (fun hb => ?_)) <;> first | (exfalso; omega) | skip) | refine run_block ?_ | refine run_skip ?_)
      | refine seqQ_normal ?_)
    refine j_mloadE 0 k (g := fun a => [a]) (L := vs) (z := 1) rfl rfl rfl rfl (fun _ => rfl) rfl hc1 (fun _ => rfl) rfl rfl ?_
    repeat' (first
      | (refine j_go ?_; first
        | refine j_op0 rfl rfl rfl rfl ?_))
    refine j_kCall rfl rfl rfl rfl ?_
    refine jcp _ (r_markI _ _ _ (k0 + mcnt List.length (L.take k)) o0 (by omega)) (pmid0 (l1 := _ :: ms.flatten)) (LeL.refl _) rfl rfl (fun v h1 hR => ?_)
    obtain ⟨rfl, hR⟩ := hR
    repeat' (first
      | (refine j_go ?_; first
        | refine j_op0 rfl rfl rfl rfl ?_ | (refine j_kBin rfl ?_; first | refine j_in rfl rfl ⟨by omega, by omega⟩ rfl rfl ?_))
      | refine j_nil ?_
      | (refine r_go ?_; first | refine run_region ?_)
      | refine seqQ_normal ?_ | refine blockQ_normal ?_)
    refine loopQ_view (view_perm (h' := ⟨some b2, 36, cap * 1, (vs.map fun a => [a]).flatten⟩ :: ((ms ++ [h1]).flatten ++ ((hs.drop (k + 1)).flatten ++ F))) (by
      simp only [List.flatten_append, List.flatten_cons, List.flatten_nil, List.append_nil, List.append_assoc, List.cons_append]
      exact (by classical exact List.perm_iff_count.2 fun _ => by simp only [List.count_append, List.count_cons]; omega))) ?_
    refine loopQ_next (k + 1, ms ++ [h1]) ⟨by dsimp only; omega, by simp [g2], fun i h0 h1' h2' => ?_⟩ (by dsimp only; omega) rfl ⟨rfl, (by dsimp only; rw [hsn, ← Nat.add_assoc]; rfl), nx _, trivial⟩
    dsimp only at h2' ⊢
    by_cases hik : i < k
    · rw [List.getElem_append_left (by omega)]; exact g3 i h0 h1' (by omega)
    · have : i = k := by simp at h2'; omega
      subst this
      rw [List.getElem_append_right (by omega)]
      simpa [g2] using hR
  · repeat' (first
      | (refine j_go ?_; first
        | refine j_op0 rfl rfl rfl rfl ?_ | (refine j_kLen rfl ?_; first | refine j_op rfl rfl rfl rfl ?_))
      | refine j_nil ?_
      | (refine r_go ?_; first | refine run_seq ?_ | refine run_region ?_ | (refine (run_if rfl (fun hb => ?_) (fun hb => ?_)) <;> first | (exfalso; omega) | skip) | refine run_ret ?_ | refine run_exit ?_)
      | refine seqQ_normal ?_ | refine seqQ_exit ?_ | refine blockQ_eq ?_ | refine loopQ_exit ?_)
    have : k = L.length := by omega
    subst this
    have e : (hs.drop L.length).flatten = [] := by rw [List.drop_of_length_le (by omega)]; rfl
    have e2 : mcnt List.length (L.take L.length) = mcnt List.length L := by rw [List.take_length]
    exact endD_ret (h1 := ⟨b, 36, cap * 1, (vs.map fun a => [a]).flatten⟩ :: ms.flatten) (by rw [e]; simp) (.cons (.tmp rfl) .nil) (Le.refl _) ⟨by rw [e2]; rfl, .inl ⟨b, cap, vs, ms, by rw [markedII_len]; exact l1, by rw [markedII_len]; exact g2, fun i h0 h1 h2 => by
      rw [markedII_get L k0 i (by rw [markedII_len] at h0; exact h0)]
      exact g3 i (by rw [markedII_len] at h0; exact h0) h1 h2, by rw [markedII_len], rfl⟩⟩ (.inl rfl)

theorem OwnF.okc {α : Type} {g : α → List A} {T z : Nat} {l : List α} {a : A} {h : Heap} (o : OwnF g T z l a h) : okCell a = true := by
  rcases o with ⟨b, cap, rfl, rfl⟩ | ⟨rfl, rfl, rfl⟩ <;> rfl
theorem OwnLL.okc {β : Type} {O : β → A → Heap → Prop} {T : Nat} {L : List β} {a : A} {h : Heap} (o : OwnLL O T L a h) : okCell a = true := by
  rcases o with ⟨b, cap, vs, hs, _, _, _, rfl, rfl⟩ | ⟨rfl, rfl, rfl⟩ <;> rfl

theorem ROI.frzF {l : List Int} {a : A} {h : Heap} (o : ROI l a h) : FrzF h a (.sl (l.map Go.AI.encI)) := OwnF.frzF (fun _ => rfl) rfl o
theorem ROB.frzF {l : List Bool} {a : A} {h : Heap} (o : ROB l a h) : FrzF h a (.sl (l.map encB)) := OwnF.frzF (fun _ => rfl) rfl o
theorem ROII.frzF {l : List (List Int)} {a : A} {h : Heap} (o : ROII l a h) : FrzF h a (.sl (l.map (encS Go.AI.encI))) := OwnLL.frzF (enc := fun x => (x.map Go.AI.encI)) (fun _ _ _ q => q.frzF) o (fun _ => rfl)
end Go.Proofs.YtmcljepicadjfaaDoor

/-
  Formulas in memory of the call's own: their marks, and what is held of them. No condition but that the sizes are bounded.
-/
namespace Go.Proofs.YtmcljepicadjfaaDoor
open Go.AI
set_option maxRecDepth 8000
set_option maxHeartbeats 1600000
def ROCnf (x : Cnf) (a : A) (h : Heap) : Prop := ∃ (a1 : A), ROII x.clauses a1 h ∧ a = .agg [.int x.vars, a1]
theorem ROCnf.frz {x : Cnf} {a : A} {h : Heap} (o : ROCnf x a h) : Frz h a (.agg (encCnf x)) := by
  obtain ⟨a1, o1, rfl⟩ := o
  exact Frz.agg (FrzL.cons (Frz.same _ _) (FrzL.cons o1.frz (FrzL.nil _)))
theorem ROCnf.frzF {x : Cnf} {a : A} {h : Heap} (o : ROCnf x a h) : FrzF h a (.agg (encCnf x)) := by
  obtain ⟨a1, o1, rfl⟩ := o
  have q := FrzLF.cons (FrzF.same [] (.int x.vars)) (FrzLF.cons o1.frzF (FrzLF.nil (h := [])))
  simp only [List.append_nil, List.nil_append] at q
  exact FrzF.agg q
theorem ROCnf.clo {x : Cnf} {a : A} {h : Heap} (o : ROCnf x a h) : Clo a ∧ CloH h := by
  obtain ⟨a1, o1, rfl⟩ := o
  exact ⟨Clo.agg (CloL.cons (Clo.int _) (CloL.cons o1.clo.1 CloL.nil)), o1.clo.2⟩
theorem ROCnf.cells {x : Cnf} {a : A} {h : Heap} (o : ROCnf x a h) : ∃ a0 a1, a = .agg [a0, a1] ∧ [a0, a1].all okCell = true := by
  obtain ⟨a1, o1, rfl⟩ := o
  exact ⟨_, a1, rfl, by simp only [List.all_cons, List.all_nil, OwnLL.okc o1]; rfl⟩
def rcCnf (x : Cnf) : Nat := mcnt List.length x.clauses
def mkCnf (k : Nat) (x : Cnf) : Cnf := ⟨x.vars, markedII k x.clauses⟩
theorem r_markCnf (x : Cnf) (a : A) (h : Heap) (k0 : Nat) (o : ROCnf x a h) (hk : k0 + rcCnf x ≤ 4611686018427387904) : Does Tryd.prog 7 [a, .int (k0 : Int)] h (fun v h' => v = .int ((k0 + rcCnf x : Nat) : Int) ∧ ROCnf (mkCnf k0 x) a h') := by
  obtain ⟨a1, o1, rfl⟩ := o
  unfold rcCnf at hk
  refine fn_of_runD tyOk ztOk mix Tryd.func7 rfl (by decide) Tryd.ntmps7 (fun w0 F => ?_)
  repeat' (first
      | (refine j_go ?_; first
        | refine j_op0 rfl rfl rfl rfl ?_ | refine j_box rfl rfl rfl rfl rfl rfl ?_)
      | refine j_nil ?_
      | (refine r_go ?_; first | refine run_seq ?_ | refine run_region ?_)
      | refine seqQ_normal ?_)
  refine j_kCall rfl rfl rfl rfl ?_
  refine jcp _ (r_markII _ _ _ k0 o1 (by omega)) (List.Perm.refl _) (LeL.refl _) rfl rfl (fun v n1 hR => ?_)
  obtain ⟨rfl, p1⟩ := hR
  repeat' (first
      | (refine j_go ?_; first
        | refine j_op0 rfl rfl rfl rfl ?_)
      | refine j_nil ?_
      | (refine r_go ?_; first | refine run_seq ?_ | refine run_region ?_ | refine run_ret ?_)
      | refine seqQ_normal ?_)
  exact endD_ret (h1 := n1) rfl (.cons (.tmp rfl) .nil) (Le.refl _) ⟨rfl, a1, p1, rfl⟩ (.inl rfl)
theorem c_heldCnf (x : Cnf) (k0 : Nat) (hk : k0 + rcCnf x ≤ 4611686018427387904) : Gives Tryd.prog 8 [.agg (encCnf (mkCnf k0 x)), .int (k0 : Int)] (.int ((k0 + rcCnf x : Nat) : Int)) := by
  unfold rcCnf at hk
  refine fn_of_run tyOk ztOk mix Tryd.func8 rfl (by decide) Tryd.ntmps8 (fun w0 h => ?_)
  have q1 := c_heldInt64SS x.clauses k0 (by omega)
  repeat' (first
      | (refine j_go ?_; first
        | refine j_op0 rfl rfl rfl rfl ?_ | (refine j_kCall rfl rfl rfl rfl ?_; first | refine jc (q1) (LeL.refl _) rfl rfl ?_) | refine j_box rfl rfl rfl rfl rfl rfl ?_)
      | refine j_nil ?_
      | (refine r_go ?_; first | refine run_seq ?_ | refine run_region ?_ | (refine (run_if rfl (fun hb => ?_) (fun hb => ?_)) <;> first | (exfalso; omega) | skip) | refine run_ret ?_ | refine run_skip ?_)
      | refine seqQ_normal ?_)
  all_goals first | (exfalso; omega) | exact end1 rfl (List.Sublist.refl _) rfl (.inl rfl) | trace_state
end Go.Proofs.YtmcljepicadjfaaDoor
