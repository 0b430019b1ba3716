/-
  Passing systems: all choices of a mode, by the program. No condition.
-/
import Derived.Test.YtbpmmdecaonopaaGreatZQ2
import Derived.Test.YtbpmmdecaonopaaGreatZS6g
import Derived.Test.YtbpmmdecaonopaaGreatZJN
import Derived.Test.YtbpmmdecaonopaaGreatZS5f
namespace Go.Proofs.YtbpmmdecaonopaaGreat
open Go.AI
set_option maxRecDepth 8000
set_option maxHeartbeats 1600000

theorem q_clone6 (l : List Int) (hn : l.length ≤ 1000000) : Gives Tryz.prog 48 [.sl (l.map Go.AI.encI)] (.sl (l.map Go.AI.encI)) := by
  by_cases h : l = []
  · subst h
    refine fn_of_run tyOk ztOk mix Tryz.func48 rfl (by decide) Tryz.ntmps48 (fun w0 h => ?_)
    repeat' (first
      | (refine j_go ?_; first
        | refine j_op0 rfl rfl rfl rfl ?_)
      | refine j_nil ?_
      | (refine r_go ?_; first | refine run_seq ?_ | refine run_region ?_)
      | refine seqQ_normal ?_)
    refine j_slnilE rfl rfl rfl rfl rfl rfl (fun b => ?_)
    cases b with
    | true =>
      repeat' (first
      | (refine j_go ?_; first
        | refine j_op0 rfl rfl rfl rfl ?_)
      | refine j_nil ?_
      | (refine r_go ?_; first | refine run_seq ?_ | refine run_region ?_ | refine run_cond_t rfl ?_ | refine run_ret ?_)
      | refine seqQ_normal ?_ | refine seqQ_ret ?_)
      exact end_le (List.Sublist.refl _) (vs := [_]) (.cons (.tmp rfl) .nil) (Le.nilm _ _) (.inl rfl)
    | false =>
      repeat' (first
      | (refine j_go ?_; first
        | refine j_op0 rfl rfl rfl rfl ?_ | (refine j_kBsl rfl ?_; first | refine j_bs0 rfl rfl rfl rfl rfl rfl ?_))
      | refine j_nil ?_
      | (refine r_go ?_; first | refine run_seq ?_ | refine run_region ?_ | refine run_cond_f rfl ?_ | refine run_skip ?_)
      | refine seqQ_normal ?_)
      refine j_append0 (g := Go.AI.encI) [] rfl rfl rfl rfl rfl rfl rfl rfl (fun _ => rfl) (fun _ _ => rfl) ⟨by decide, by decide⟩ rfl rfl (fun b' cap' => ?_)
      repeat' (first
      | (refine j_go ?_; first
        | refine j_op0 rfl rfl rfl rfl ?_)
      | refine j_nil ?_
      | (refine r_go ?_; first | refine run_ret ?_)
      | refine seqQ_normal ?_)
      exact end_le sub1 (vs := [_]) (.cons (.tmp rfl) .nil) (Le.nilb _ _) (.inl rfl)
  · exact (o_cloneI l h hn).frozen fun _ _ ⟨b, cap, q1, q2⟩ => by rw [q1, q2]; exact FrzF.flat rfl rfl (fun _ => rfl) rfl rfl
theorem c_isMode (m : Int) : Gives Tryz.prog 45 [.int m] (.raw (.bool (dec (1 ≤ m ∧ m ≤ 3)))) := by
  refine fn_of_run tyOk ztOk mix Tryz.func45 rfl (by decide) Tryz.ntmps45 (fun w0 h => ?_)
  repeat' (first
      | (refine j_go ?_; first
        | refine j_op0 rfl rfl rfl rfl ?_ | (refine j_kCall rfl rfl rfl rfl ?_; first | refine jc (c_inRange _ _ _) (LeL.refl _) rfl rfl ?_))
      | refine j_nil ?_
      | (refine r_go ?_; first | refine run_seq ?_ | refine run_region ?_ | refine run_ret ?_)
      | refine seqQ_normal ?_)
  exact end1 rfl (List.Sublist.refl _) (rfl) (.inl rfl)
theorem c_modeOf (p : Passing) (s : Stock) (m : Int) : Gives Tryz.prog 22 [.agg (encPassing p), .agg (encStock s), .int m] (.int (cd2 p.Ok (p.StockOk s ∧ (1 ≤ m ∧ m ≤ 3)))) := by
  refine fn_of_run tyOk ztOk mix Tryz.func22 rfl (by decide) Tryz.ntmps22 (fun w0 h => ?_)
  have cC := c_stockCode p s
  by_cases hv : p.Ok
  · by_cases hs : p.StockOk s
    · rw [cd2_o hv hs] at cC
      repeat' (first
      | (refine j_go ?_; first
        | refine j_op0 rfl rfl rfl rfl ?_ | (refine j_kCall rfl rfl rfl rfl ?_; first | refine jc (cC) (LeL.refl _) rfl rfl ?_ | refine jc (c_isMode m) (LeL.refl _) rfl rfl ?_) | (refine j_kGuard rfl ?_; first | (refine (j_if rfl rfl rfl (fun hb => ?_) (fun hb => ?_)) <;> first | (exfalso; omega) | skip)) | refine j_box rfl rfl rfl rfl rfl rfl ?_)
      | refine j_nil ?_
      | (refine r_go ?_; first | refine run_seq ?_ | refine run_region ?_ | (refine (run_ifn rfl (fun hb => ?_) (fun hb => ?_)) <;> first | (exfalso; omega) | skip) | refine run_ret ?_ | refine run_skip ?_)
      | refine seqQ_normal ?_)
      all_goals first
        | exact end1 rfl (List.Sublist.refl _) (ai (cd2_t hv (fun q => absurd q.2 (by assumption))).symm) (.inl rfl)
        | exact end1 rfl (List.Sublist.refl _) (ai (cd2_o hv ⟨hs, by assumption⟩).symm) (.inl rfl)
        | trace_state
    · rw [cd2_t hv hs] at cC
      repeat' (first
      | (refine j_go ?_; first
        | refine j_op0 rfl rfl rfl rfl ?_ | refine j_off rfl rfl rfl ?_ | (refine j_kCall rfl rfl rfl rfl ?_; first | refine jc (cC) (LeL.refl _) rfl rfl ?_) | (refine j_kGuard rfl ?_; first | (refine (j_if rfl rfl rfl (fun hb => ?_) (fun hb => ?_)) <;> first | (exfalso; omega) | skip)) | refine j_box rfl rfl rfl rfl rfl rfl ?_)
      | refine j_nil ?_
      | (refine r_go ?_; first | refine run_seq ?_ | refine run_region ?_ | refine run_cond_f rfl ?_ | refine run_ret ?_ | refine run_skip ?_)
      | refine seqQ_normal ?_)
      all_goals first
        | exact end1 rfl (List.Sublist.refl _) (ai (cd2_t hv (fun q => hs q.1)).symm) (.inl rfl)
        | (exfalso; omega)
        | trace_state
  · rw [cd2_f hv] at cC
    repeat' (first
      | (refine j_go ?_; first
        | refine j_op0 rfl rfl rfl rfl ?_ | refine j_off rfl rfl rfl ?_ | (refine j_kCall rfl rfl rfl rfl ?_; first | refine jc (cC) (LeL.refl _) rfl rfl ?_) | (refine j_kGuard rfl ?_; first | (refine (j_if rfl rfl rfl (fun hb => ?_) (fun hb => ?_)) <;> first | (exfalso; omega) | skip)) | refine j_box rfl rfl rfl rfl rfl rfl ?_)
      | refine j_nil ?_
      | (refine r_go ?_; first | refine run_seq ?_ | refine run_region ?_ | refine run_cond_f rfl ?_ | refine run_ret ?_ | refine run_skip ?_)
      | refine seqQ_normal ?_)
    all_goals first
      | exact end1 rfl (List.Sublist.refl _) (ai (cd2_f hv).symm) (.inl rfl)
      | (exfalso; omega)
      | trace_state
theorem c_canAdd (p : Passing) (s : Stock) (cs : List Int) (k : Nat) (hv : p.Ok) (hs : p.StockOk s) (hc : p.Cnts cs) (hk : k < cs.length) : Gives Tryz.prog 77 [.agg (encPassing p), .agg (encStock s), .sl (cs.map Go.AI.encI), .int (k : Int)] (.raw (.bool (dec (Nn (p.tk (p.rules.getD k default) 1 (p.left s cs)))))) := by
  refine fn_of_run tyOk ztOk mix Tryz.func77 rfl (by decide) Tryz.ntmps77 (fun w0 h => ?_)
  have h8 := hv.1.2.2.2.2.1
  have hcl := hc.2
  have hne : cs ≠ [] := fun q => by rw [q] at hk; simp at hk
  have hx := hc.1 _ (List.getElem_mem hk)
  have hw : p.Cntw (cs.set k (cs[k] + 1)) := by
    refine ⟨fun x hx => ?_, by rw [List.length_set]; exact hcl⟩
    rcases List.mem_or_eq_of_mem_set hx with q | q
    · have := hc.1 x q; omega
    · omega
  have cF := c_fits p s (cs.set k (cs[k] + 1)) hv hs hw
  rw [left_more hv hs hc hk] at cF
  repeat' (first
      | (refine j_go ?_; first
        | refine j_op0 rfl rfl rfl rfl ?_ | refine j_box rfl rfl rfl rfl rfl rfl ?_)
      | refine j_nil ?_
      | (refine r_go ?_; first | refine run_seq ?_ | refine run_region ?_)
      | refine seqQ_normal ?_)
  refine j_kCall rfl rfl rfl rfl ?_
  refine jcp _ (o_cloneI cs hne (by omega)) (List.Perm.refl _) (LeL.refl _) rfl rfl (fun v h1 hR => ?_)
  obtain ⟨ob, cp, rfl, rfl⟩ := hR
  have hfl := flat_len (f := Go.AI.encI) (z := 1) (fun _ => rfl) cs
  refine j_some 0 rfl (fun q => by rw [q] at hfl; simp at hfl; omega) (fun bq hbq => ?_)
  subst hbq
  repeat' (first
      | (refine j_go ?_; first
        | refine j_op0 rfl rfl rfl rfl ?_ | (refine j_kIdx rfl ?_; first | refine j_midx rfl rfl rfl rfl rfl (by first | omega | (simp only [List.length_append, List.length_cons, List.length_nil]; omega)) rfl rfl ?_))
      | refine j_nil ?_
      | (refine r_go ?_; first | refine run_seq ?_ | refine run_region ?_)
      | refine seqQ_normal ?_)
  refine j_mloadE 0 k (g := Go.AI.encI) (L := cs) (z := 1) rfl rfl rfl rfl (fun _ => rfl) rfl hk (fun _ => rfl) rfl rfl ?_
  repeat' (first
      | (refine j_go ?_; first
        | (refine j_kIdx rfl ?_; first | refine j_midx rfl rfl rfl rfl rfl (by first | omega | (simp only [List.length_append, List.length_cons, List.length_nil]; omega)) rfl rfl ?_) | (refine j_kBin rfl ?_; first | refine j_in rfl rfl ⟨by omega, by omega⟩ rfl rfl ?_)))
  refine j_storeE 0 k (g := Go.AI.encI) (cs[k] + 1) rfl rfl rfl rfl rfl rfl rfl rfl rfl (fun _ => rfl) rfl hk ?_
  repeat' (first
      | (refine j_go ?_; first
        | refine j_op0 rfl rfl rfl rfl ?_)
      | refine j_nil ?_
      | (refine r_go ?_; first | refine run_seq ?_ | refine run_region ?_)
      | refine seqQ_normal ?_)
  refine j_view (view_freeze (g := Go.AI.encI) (z := 1) (ys := cs.set k (cs[k] + 1)) 0 20 (by rw [List.length_set]; rfl) rfl rfl (fun _ => rfl) rfl rfl) ?_
  repeat' (first
      | (refine j_go ?_; first
        | refine j_op0 rfl rfl rfl rfl ?_ | (refine j_kCall rfl rfl rfl rfl ?_; first | refine jc (cF) (LeL.refl _) rfl rfl ?_))
      | refine j_nil ?_
      | (refine r_go ?_; first | refine run_ret ?_)
      | refine seqQ_normal ?_)
  exact end1 rfl (List.Sublist.refl _) (rfl) (.inl rfl)

/-! ### Choices -/
open Classical in
noncomputable def bsyL (p : Passing) (m : Int) (cs : List Int) (k : Nat) : List Bool := (List.range p.parents.length).map fun c : Nat => dec (m = 2 ∧ ∃ i, i < k ∧ ∃ h : i < p.rules.length, ∃ h2 : i < cs.length, 0 < cs[i] ∧ p.rules[i].cell = (c : Int))
theorem bsyL_len {p : Passing} {m : Int} {cs : List Int} {k : Nat} : (bsyL p m cs k).length = p.parents.length := by simp [bsyL]
theorem bsyL_at {p : Passing} {m : Int} {cs : List Int} {k c : Nat} (h : c < (bsyL p m cs k).length) : (bsyL p m cs k)[c] = dec (m = 2 ∧ ∃ i, i < k ∧ ∃ h : i < p.rules.length, ∃ h2 : i < cs.length, 0 < cs[i] ∧ p.rules[i].cell = (c : Int)) := by simp [bsyL]
theorem bsyL_zero {p : Passing} {m : Int} {cs : List Int} : bsyL p m cs 0 = List.replicate p.parents.length false := by
  apply List.ext_getElem (by rw [bsyL_len, List.length_replicate])
  intro c h1 h2
  rw [bsyL_at, List.getElem_replicate]
  exact dec_f fun ⟨_, i, q, _⟩ => absurd q (Nat.not_lt_zero _)
theorem bsyL_set {p : Passing} {m : Int} {cs : List Int} {k : Nat} (hk : k < p.rules.length) (hkc : k < cs.length) (h0 : 0 ≤ p.rules[k].cell) {b : Bool}
    (hb : b = true ↔ (m = 2 ∧ ∃ i, i < k + 1 ∧ ∃ h : i < p.rules.length, ∃ h2 : i < cs.length, 0 < cs[i] ∧ p.rules[i].cell = p.rules[k].cell)) : (bsyL p m cs k).set p.rules[k].cell.toNat b = bsyL p m cs (k + 1) := by
  apply List.ext_getElem (by rw [List.length_set, bsyL_len, bsyL_len])
  intro c h1 h2
  rw [List.length_set, bsyL_len] at h1
  rw [List.getElem_set, bsyL_at, bsyL_at]
  split
  · rename_i e
    have e2 : (c : Int) = p.rules[k].cell := by omega
    rw [e2]
    cases b with
    | true => exact (dec_t (hb.1 rfl)).symm
    | false => exact (dec_f fun q => Bool.false_ne_true (hb.2 q)).symm
  · rename_i e
    refine dec_congr ⟨fun ⟨q, i, h, r⟩ => ⟨q, i, by omega, r⟩, fun ⟨q, i, h, r1, r2, r3, r4⟩ => ⟨q, i, ?_, r1, r2, r3, r4⟩⟩
    rcases Nat.lt_or_eq_of_le (Nat.le_of_lt_succ h) with z | z
    · exact z
    · subst z; exact absurd (by omega) e
theorem bsyL_all {p : Passing} {m : Int} {cs : List Int} {k c : Nat} (hk : p.rules.length ≤ k) (h : c < (bsyL p m cs k).length) : (bsyL p m cs k)[c] = dec (m = 2 ∧ p.busyC cs (c : Int)) := by
  rw [bsyL_at]
  exact dec_congr ⟨fun ⟨q, i, _, h, r⟩ => ⟨q, i, h, r⟩, fun ⟨q, i, h, r⟩ => ⟨q, i, by omega, h, r⟩⟩
theorem c_isChoiceP (p : Passing) (s : Stock) (cs : List Int) (m : Int) (hv : p.Ok) (hs : p.StockOk s) (hc : p.Cnts cs) : Gives Tryz.prog 51 [.agg (encPassing p), .agg (encStock s), .sl (cs.map Go.AI.encI), .int m] (.raw (.bool (dec (p.ChoP s m cs)))) := by
  refine fn_of_run tyOk ztOk mix Tryz.func51 rfl (by decide) Tryz.ntmps51 (fun w0 h => ?_)
  have h8 := hv.1.2.2.2.2.1
  have p4 := hv.1.2.1
  have hcl := hc.2
  repeat' (first
      | (refine j_go ?_; first
        | refine j_op0 rfl rfl rfl rfl ?_ | refine j_off rfl rfl rfl ?_ | (refine j_kLen rfl ?_; first | refine j_len rfl rfl rfl rfl rfl rfl ?_) | (refine j_kCall rfl rfl rfl rfl ?_; first | refine jc (c_bagSize cs (cn_small hv hc)) (LeL.refl _) rfl rfl ?_) | (refine j_kGuard rfl ?_; first | (refine (j_if rfl rfl rfl (fun hb => ?_) (fun hb => ?_)) <;> first | (exfalso; omega) | skip)) | refine j_box rfl rfl rfl rfl rfl rfl ?_)
      | refine j_nil ?_
      | (refine r_go ?_; first | refine run_seq ?_ | refine run_region ?_ | refine run_cond_t rfl ?_ | (refine (run_if rfl (fun hb => ?_) (fun hb => ?_)) <;> first | (exfalso; omega) | skip) | refine run_ret ?_ | refine run_skip ?_)
      | refine seqQ_normal ?_ | refine seqQ_ret ?_)
  · have h3 : tot cs = 0 ∨ m = 3 := by first | exact .inl (by assumption) | exact .inr (by assumption)
    exact end1 rfl (List.Sublist.refl _) (rbD ⟨fun q => ⟨fun _ => q, fun z => absurd h3 z⟩, fun q => q.1 h3⟩) (.inl rfl)
  · have h3 : tot cs = 0 ∨ m = 3 := by first | exact .inl (by assumption) | exact .inr (by assumption)
    exact end1 rfl (List.Sublist.refl _) (rbD ⟨fun q => ⟨fun _ => q, fun z => absurd h3 z⟩, fun q => q.1 h3⟩) (.inl rfl)
  have h3 : ¬ (tot cs = 0 ∨ m = 3) := fun q => q.elim (by assumption) (by assumption)
  refine j_makeI (g := encB) (m := p.parents.length) false rfl rfl rfl rfl rfl rfl rfl rfl rfl (by omega) rfl rfl (fun b => ?_)
  repeat' (first
      | (refine j_go ?_; first
        | refine j_op0 rfl rfl rfl rfl ?_ | (refine j_kLen rfl ?_; first | refine j_len rfl rfl rfl rfl rfl rfl ?_))
      | refine j_nil ?_
      | (refine r_go ?_; first | refine run_seq ?_ | refine run_region ?_ | refine run_block ?_)
      | refine seqQ_normal ?_)
  refine run_loop (fun k : Nat => [(2, .sl (cs.map Go.AI.encI)), (3, .int m), (4, .ip (encPassing p)), (5, .ip (encStock s)), (10, .os (some b) p.parents.length p.parents.length), (29, .sl (cs.map Go.AI.encI)), (30, .int cs.length), (31, .int (k : Int))]) (fun k => ⟨some b, 4, p.parents.length * 1, ((bsyL p m cs k).map encB).flatten⟩ :: h) (fun k => k ≤ cs.length) (fun k => cs.length - k) 0 ⟨rfl, rfl, rfl, rfl, rfl, rfl, rfl, rfl, trivial⟩ (by rw [bsyL_zero]) (Nat.zero_le _) (fun k kl => ?_)
  have bl : (bsyL p m cs k).length = p.parents.length := bsyL_len
  by_cases hk : k < cs.length
  · have hkr : k < p.rules.length := by omega
    have R := ruF hv (List.getElem_mem hkr)
    have rc := R.c0
    have rcl := R.c
    have ba := bsyL_at (p := p) (m := m) (cs := cs) (k := k) (c := p.rules[k].cell.toNat) (by omega)
    have e0 : ((p.rules[k].cell.toNat : Nat) : Int) = p.rules[k].cell := by omega
    rw [e0] at ba
    have st := fun {b : Bool} => bsyL_set (p := p) (m := m) (cs := cs) hkr hk rc (b := b)
    by_cases hA : m = 2 ∧ ∃ i, i < k ∧ ∃ h : i < p.rules.length, ∃ h2 : i < cs.length, 0 < cs[i] ∧ p.rules[i].cell = p.rules[k].cell
    · rw [dec_t hA] at ba
      repeat' (first
      | (refine j_go ?_; first
        | refine j_op0 rfl rfl rfl rfl ?_ | (refine j_kIdx rfl ?_; first | refine j_idx rfl rfl rfl rfl rfl (by omega) rfl rfl rfl ?_))
      | refine j_nil ?_
      | (refine j_goO ?_; first
        | refine j_op0O rfl rfl rfl rfl ?_ | (refine j_kIdxO rfl ?_; first | refine j_idxO rfl rfl rfl rfl rfl (by omega) rfl rfl rfl ?_ | refine j_midxzO rfl rfl rfl rfl rfl (by first | omega | (simp only [List.length_append, List.length_cons, List.length_nil]; omega)) rfl rfl ?_))
      | (refine r_go ?_; first | refine run_seq ?_ | refine run_region ?_ | (refine (run_if rfl (fun hb => ?_) (fun hb => ?_)) <;> first | (exfalso; omega) | skip) | refine run_block ?_ | refine run_skip ?_ | refine run_opn 8 [⟨0, true, false, 0⟩, ⟨1, true, false, 0⟩, ⟨2, true, false, 0⟩, ⟨3, true, false, 0⟩, ⟨4, true, false, 0⟩, ⟨5, true, false, 0⟩, ⟨6, true, false, 0⟩, ⟨7, true, false, 0⟩, ⟨8, true, false, 0⟩, ⟨9, true, false, 0⟩, ⟨10, true, false, 0⟩, ⟨11, true, false, 0⟩, ⟨12, true, false, 0⟩, ⟨13, true, false, 0⟩, ⟨14, true, false, 0⟩, ⟨15, true, false, 0⟩, ⟨16, true, false, 0⟩, ⟨17, true, false, 0⟩, ⟨18, true, false, 0⟩, ⟨19, true, false, 0⟩, ⟨20, true, false, 0⟩, ⟨21, true, false, 0⟩, ⟨22, true, false, 0⟩, ⟨23, true, false, 0⟩, ⟨24, true, false, 0⟩, ⟨25, false, true, 0⟩] rfl rfl (by kernel_rfl) ?_)
      | refine seqQ_normal ?_)
      refine j_mloadEO 0 p.rules[k].cell.toNat (g := encB) (L := bsyL p m cs k) (z := 1) rfl rfl rfl rfl rfl (fun _ => rfl) rfl (by omega) (fun _ => rfl) rfl rfl ?_
      rw [ba]
      repeat' (first
      | (refine j_goO ?_; first
        | refine j_op0O rfl rfl rfl rfl ?_ | refine j_offO rfl rfl rfl ?_ | (refine j_kIdxO rfl ?_; first | refine j_midxzO rfl rfl rfl rfl rfl (by first | omega | (simp only [List.length_append, List.length_cons, List.length_nil]; omega)) rfl rfl ?_)))
      refine j_storeEO 0 p.rules[k].cell.toNat (g := encB) true rfl rfl rfl rfl rfl rfl rfl rfl rfl rfl (fun _ => rfl) rfl (by omega) (fun _ hk => nomatch hk) ?_
      obtain ⟨q1, i, q2, q3, q4, q5⟩ := hA
      rw [st (b := true) ⟨fun _ => ⟨q1, i, by omega, q3, q4, q5⟩, fun _ => rfl⟩]
      repeat' (first
      | (refine j_go ?_; first
        | refine j_op0 rfl rfl rfl rfl ?_ | (refine j_kBin rfl ?_; first | refine j_in rfl rfl ⟨by omega, by omega⟩ rfl rfl ?_))
      | refine j_nil ?_
      | refine j_nilO ?_
      | (refine r_go ?_; first | refine run_region ?_)
      | refine seqQ_normal ?_ | refine blockQ_normal ?_)
      exact loopQ_next (k + 1) (by omega) (by omega) rfl ⟨rfl, rfl, rfl, rfl, rfl, rfl, rfl, nx _, trivial⟩
    · rw [dec_f hA] at ba
      have old : ∀ i, i < k + 1 → ∀ (h : i < p.rules.length) (h2 : i < cs.length), m = 2 → 0 < cs[i] → p.rules[i].cell = p.rules[k].cell → 0 < cs[k] := fun i h1 h2 h3 q1 q2 q3 => by
        rcases Nat.lt_or_eq_of_le (Nat.le_of_lt_succ h1) with z | z
        · exact absurd ⟨q1, i, z, h2, h3, q2, q3⟩ hA
        · subst z; exact q2
      repeat' (first
      | (refine j_go ?_; first
        | refine j_op0 rfl rfl rfl rfl ?_ | (refine j_kIdx rfl ?_; first | refine j_idx rfl rfl rfl rfl rfl (by omega) rfl rfl rfl ?_))
      | refine j_nil ?_
      | (refine j_goO ?_; first
        | refine j_op0O rfl rfl rfl rfl ?_ | (refine j_kIdxO rfl ?_; first | refine j_idxO rfl rfl rfl rfl rfl (by omega) rfl rfl rfl ?_ | refine j_midxzO rfl rfl rfl rfl rfl (by first | omega | (simp only [List.length_append, List.length_cons, List.length_nil]; omega)) rfl rfl ?_))
      | (refine r_go ?_; first | refine run_seq ?_ | refine run_region ?_ | (refine (run_if rfl (fun hb => ?_) (fun hb => ?_)) <;> first | (exfalso; omega) | skip) | refine run_block ?_ | refine run_skip ?_ | refine run_opn 8 [⟨0, true, false, 0⟩, ⟨1, true, false, 0⟩, ⟨2, true, false, 0⟩, ⟨3, true, false, 0⟩, ⟨4, true, false, 0⟩, ⟨5, true, false, 0⟩, ⟨6, true, false, 0⟩, ⟨7, true, false, 0⟩, ⟨8, true, false, 0⟩, ⟨9, true, false, 0⟩, ⟨10, true, false, 0⟩, ⟨11, true, false, 0⟩, ⟨12, true, false, 0⟩, ⟨13, true, false, 0⟩, ⟨14, true, false, 0⟩, ⟨15, true, false, 0⟩, ⟨16, true, false, 0⟩, ⟨17, true, false, 0⟩, ⟨18, true, false, 0⟩, ⟨19, true, false, 0⟩, ⟨20, true, false, 0⟩, ⟨21, true, false, 0⟩, ⟨22, true, false, 0⟩, ⟨23, true, false, 0⟩, ⟨24, true, false, 0⟩, ⟨25, false, true, 0⟩] rfl rfl (by kernel_rfl) ?_)
      | refine seqQ_normal ?_)
      refine j_mloadEO 0 p.rules[k].cell.toNat (g := encB) (L := bsyL p m cs k) (z := 1) rfl rfl rfl rfl rfl (fun _ => rfl) rfl (by omega) (fun _ => rfl) rfl rfl ?_
      rw [ba]
      repeat' (first
      | (refine j_goO ?_; first
        | refine j_op0O rfl rfl rfl rfl ?_ | refine j_offO rfl rfl rfl ?_ | (refine j_kIdxO rfl ?_; first | refine j_midxzO rfl rfl rfl rfl rfl (by first | omega | (simp only [List.length_append, List.length_cons, List.length_nil]; omega)) rfl rfl ?_) | (refine j_kGuardO rfl ?_; first | (refine (j_ifO rfl rfl rfl (fun hb => ?_) (fun hb => ?_)) <;> first | (exfalso; omega) | skip))))
      · have hpos : 0 < cs[k] := by assumption
        refine j_storeEO 0 p.rules[k].cell.toNat (g := encB) (dec (m = 2)) rfl rfl rfl rfl rfl rfl rfl rfl rfl rfl (fun _ => rfl) rfl (by omega) (fun _ hk => nomatch hk) ?_
        rw [st (b := dec (m = 2)) ⟨fun q => ⟨dec_iff.1 q, k, by omega, hkr, hk, hpos, rfl⟩, fun q => dec_t q.1⟩]
        repeat' (first
      | (refine j_go ?_; first
        | refine j_op0 rfl rfl rfl rfl ?_ | (refine j_kBin rfl ?_; first | refine j_in rfl rfl ⟨by omega, by omega⟩ rfl rfl ?_))
      | refine j_nil ?_
      | refine j_nilO ?_
      | (refine r_go ?_; first | refine run_region ?_)
      | refine seqQ_normal ?_ | refine blockQ_normal ?_)
        exact loopQ_next (k + 1) (by omega) (by omega) rfl ⟨rfl, rfl, rfl, rfl, rfl, rfl, rfl, nx _, trivial⟩
      · have hpos : ¬ 0 < cs[k] := by assumption
        refine j_storeEO 0 p.rules[k].cell.toNat (g := encB) false rfl rfl rfl rfl rfl rfl rfl rfl rfl rfl (fun _ => rfl) rfl (by omega) (fun _ hk => nomatch hk) ?_
        rw [st (b := false) ⟨fun q => absurd q Bool.false_ne_true, fun ⟨q, i, r1, r2, r3, r4, r5⟩ => absurd (old i r1 r2 r3 q r4 r5) hpos⟩]
        repeat' (first
      | (refine j_go ?_; first
        | refine j_op0 rfl rfl rfl rfl ?_ | (refine j_kBin rfl ?_; first | refine j_in rfl rfl ⟨by omega, by omega⟩ rfl rfl ?_))
      | refine j_nil ?_
      | refine j_nilO ?_
      | (refine r_go ?_; first | refine run_region ?_)
      | refine seqQ_normal ?_ | refine blockQ_normal ?_)
        exact loopQ_next (k + 1) (by omega) (by omega) rfl ⟨rfl, rfl, rfl, rfl, rfl, rfl, rfl, nx _, trivial⟩
  obtain rfl : k = cs.length := by omega
  repeat' (first
      | (refine j_go ?_; first
        | refine j_op0 rfl rfl rfl rfl ?_ | (refine j_kLen rfl ?_; first | refine j_len rfl rfl rfl rfl rfl rfl ?_))
      | refine j_nil ?_
      | (refine r_go ?_; first | refine run_seq ?_ | refine run_region ?_ | (refine (run_if rfl (fun hb => ?_) (fun hb => ?_)) <;> first | (exfalso; omega) | skip) | refine run_block ?_ | refine run_exit ?_)
      | refine seqQ_normal ?_ | refine seqQ_exit ?_ | refine blockQ_eq ?_ | refine loopQ_exit ?_)
  refine run_loop (fun k : Nat => [(2, .sl (cs.map Go.AI.encI)), (4, .ip (encPassing p)), (5, .ip (encStock s)), (10, .os (some b) p.parents.length p.parents.length), (63, .sl (p.rules.map encPassRule)), (64, .int p.rules.length), (65, .int (k : Int))]) (fun k => ⟨some b, 4, p.parents.length * 1, ((bsyL p m cs cs.length).map encB).flatten⟩ :: h)
    (fun k => k ≤ p.rules.length ∧ ∀ j (h : j < p.rules.length), j < k → ¬ (m = 2 ∧ p.busyC cs p.rules[j].cell) → ¬ Nn (p.tk p.rules[j] 1 (p.left s cs))) (fun k => p.rules.length - k) 0 ⟨rfl, rfl, rfl, rfl, rfl, rfl, rfl, trivial⟩ rfl ⟨Nat.zero_le _, fun j h hj => absurd hj (Nat.not_lt_zero _)⟩ (fun k ⟨kl, kp⟩ => ?_)
  by_cases hk : k < p.rules.length
  · have hkc : k < cs.length := by omega
    have R := ruF hv (List.getElem_mem hk)
    have rc := R.c0
    have rcl := R.c
    have ba := bsyL_all (p := p) (m := m) (cs := cs) (k := cs.length) (c := p.rules[k].cell.toNat) (by omega) (by omega)
    have e0 : ((p.rules[k].cell.toNat : Nat) : Int) = p.rules[k].cell := by omega
    rw [e0] at ba
    have cA := c_canAdd p s cs k hv hs hc hkc
    rw [getD_get hk] at cA
    repeat' (first
      | (refine j_go ?_; first
        | refine j_op0 rfl rfl rfl rfl ?_ | (refine j_kIdx rfl ?_; first | refine j_idx rfl rfl rfl rfl rfl (by omega) rfl rfl rfl ?_ | refine j_midxz rfl rfl rfl rfl rfl (by first | omega | (simp only [List.length_append, List.length_cons, List.length_nil]; omega)) rfl rfl ?_) | (refine j_kLoad rfl ?_; first | refine j_mload 0 rfl rfl rfl rfl rfl rfl rfl ?_) | (refine j_kStore rfl ?_; first | refine j_storeN 0 rfl rfl rfl rfl rfl rfl rfl rfl rfl rfl rfl ?_) | refine j_alloc rfl rfl rfl rfl rfl (fun _ => ?_))
      | refine j_nil ?_
      | (refine r_go ?_; first | refine run_seq ?_ | refine run_region ?_ | (refine (run_if rfl (fun hb => ?_) (fun hb => ?_)) <;> first | (exfalso; omega) | skip) | refine run_block ?_ | refine run_skip ?_)
      | refine seqQ_normal ?_)
    refine j_mloadE 1 p.rules[k].cell.toNat (g := encB) (L := bsyL p m cs cs.length) (z := 1) rfl rfl rfl rfl (fun _ => rfl) rfl (by omega) (fun _ => rfl) rfl rfl ?_
    rw [ba]
    repeat' (first
      | (refine j_go ?_; first
        | refine j_op0 rfl rfl rfl rfl ?_ | refine j_off rfl rfl rfl ?_ | (refine j_kBin rfl ?_; first | refine j_in rfl rfl ⟨by omega, by omega⟩ rfl rfl ?_) | (refine j_kCall rfl rfl rfl rfl ?_; first | refine jc (cA) (LeL.refl _) rfl rfl ?_) | (refine j_kGuard rfl ?_; first | (refine (j_ifn rfl rfl rfl (fun hb => ?_) (fun hb => ?_)) <;> first | (exfalso; omega) | skip)))
      | refine j_nil ?_
      | (refine r_go ?_; first | refine run_seq ?_ | refine run_region ?_ | refine run_cond_f rfl ?_ | (refine (run_if rfl (fun hb => ?_) (fun hb => ?_)) <;> first | (exfalso; omega) | skip) | refine run_ret ?_ | refine run_skip ?_)
      | refine seqQ_normal ?_ | refine seqQ_ret ?_ | refine blockQ_normal ?_ | refine blockQ_ret ?_ | refine loopQ_ret ?_)
    all_goals first
      | exact end1 rfl sub2 (rbF (fun q => q.2 h3 k hk (by assumption) (by assumption))) (.inl rfl)
      | exact loopQ_nextD (k + 1) ⟨by omega, fun j h hj => by
          rcases Nat.lt_or_eq_of_le (Nat.le_of_lt_succ hj) with q | rfl
          · exact kp j h q
          · first
              | exact fun z => absurd (by assumption) z
              | exact fun _ => by assumption⟩ (by omega) sub1 ⟨rfl, rfl, rfl, rfl, rfl, rfl, nx _, trivial⟩
      | trace_state
  · repeat' (first
      | (refine j_go ?_; first
        | refine j_op0 rfl rfl rfl rfl ?_)
      | refine j_nil ?_
      | (refine r_go ?_; first | refine run_seq ?_ | refine run_region ?_ | (refine (run_if rfl (fun hb => ?_) (fun hb => ?_)) <;> first | (exfalso; omega) | skip) | refine run_ret ?_ | refine run_exit ?_)
      | refine seqQ_normal ?_ | refine seqQ_exit ?_ | refine blockQ_eq ?_ | refine loopQ_exit ?_)
    exact end1 rfl sub1 (rbT ⟨fun z => absurd z h3, fun _ j h => kp j h (by omega)⟩) (.inl rfl)

/-! ### The closure that walks through all counts that fit -/
theorem pad_set {p : Passing} {cs : List Int} (hl : cs.length < p.rules.length) (x y : Int) : (p.pad (cs ++ [x])).set cs.length y = p.pad (cs ++ [y]) := by
  unfold Passing.pad
  rw [List.length_append, List.length_append, List.length_singleton, List.length_singleton, List.append_assoc, List.append_assoc, List.set_append_right _ _ (Nat.le_refl _), Nat.sub_self]
  rfl
theorem pad_zero {p : Passing} {cs : List Int} (hl : cs.length < p.rules.length) : p.pad (cs ++ [0]) = p.pad cs := by
  unfold Passing.pad
  rw [List.length_append, List.length_singleton, List.append_assoc]
  congr 1
  rw [show p.rules.length - cs.length = (p.rules.length - (cs.length + 1)) + 1 from by omega, List.replicate_succ]
  rfl
theorem pad_at {p : Passing} {cs : List Int} (x : Int) (h : cs.length < (p.pad (cs ++ [x])).length) : (p.pad (cs ++ [x]))[cs.length] = x := by
  have e : (p.pad (cs ++ [x]))[cs.length]? = some x := by
    unfold Passing.pad
    rw [List.append_assoc, List.getElem?_append_right (Nat.le_refl _), Nat.sub_self]; rfl
  rw [List.getElem?_eq_getElem h] at e
  exact Option.some.inj e
abbrev cvB (b : Nat) (bc : Nat) (N : Nat) : Blk := ⟨some b, 24, 1, [.os (some bc) N N]⟩
abbrev inB (b : Nat) (n : Int) : Blk := ⟨some b, 3, 1, [.int n]⟩
abbrev ouB (b : Nat) (ob : Option Nat) (n cap : Nat) : Blk := ⟨some b, 29, 1, [.os ob n cap]⟩
theorem o_pcZero (b10 bk bc N : Nat) (L : List Int) (hN : L.length = N) (k : Nat) (hk : k < L.length) : DoesD Tryz.prog 52 [.op (some b10) 0, .op (some bk) 0] [cvB b10 bc N, liB (some bc) N L, inB bk (k : Int)] (fun h' => h' = [cvB b10 bc N, liB (some bc) N (L.set k 0), inB bk (k : Int)]) := by
  subst hN
  refine fn_of_runDD tyOk ztOk mix Tryz.func52 rfl (by decide) Tryz.ntmps52 (fun w0 F => ?_)
  change Run _ _ _ _ _ (_ :: _ :: _ :: F)
  repeat' (first
      | (refine j_go ?_; first
        | (refine j_kIdx rfl ?_; first | refine j_midx rfl rfl rfl rfl rfl (by first | omega | (simp only [List.length_append, List.length_cons, List.length_nil]; omega)) rfl rfl ?_) | (refine j_kLoad rfl ?_; first | refine j_mload 0 rfl rfl rfl rfl rfl rfl rfl ?_ | refine j_mload 2 rfl rfl rfl rfl rfl rfl rfl ?_))
      | (refine r_go ?_; first | refine run_region ?_))
  refine j_storeE 1 k (g := Go.AI.encI) 0 rfl rfl rfl rfl rfl rfl rfl rfl rfl (fun _ => rfl) rfl hk ?_
  repeat' (first
      | refine j_nil ?_)
  exact endD_ret (h1 := [_, _, _]) rfl .nil (Le.refl _) rfl (.inr rfl)
theorem pcA {k a b c d e : Blk} {H F : Heap} : (k :: a :: b :: c :: d :: e :: (H ++ F)).Perm ((a :: b :: c :: d :: e :: H) ++ (k :: F)) := by classical exact List.perm_iff_count.2 fun _ => by simp only [List.count_cons, List.count_append, List.cons_append]; omega
theorem pcB {k a b c d e : Blk} {H F : Heap} : ((a :: b :: c :: d :: e :: H) ++ (k :: F)).Perm (k :: a :: b :: c :: d :: e :: (H ++ F)) := pcA.symm
theorem pm6p {a b c d e f : Blk} {l : Heap} : (a :: b :: c :: d :: e :: f :: l).Perm ([c, d, e, f, b, a] ++ l) := by classical exact List.perm_iff_count.2 fun _ => by simp only [List.count_cons, List.cons_append, List.nil_append]; omega
theorem pm3w {a b c : Blk} {l : Heap} : (a :: b :: c :: l).Perm ([b, c, a] ++ l) := by classical exact List.perm_iff_count.2 fun _ => by simp only [List.count_cons, List.cons_append, List.nil_append]; omega
def pcCaps (p : Passing) (s : Stock) (m : Int) (b10 b9 b8 b11 : Nat) : List A := [.op (some b10) 0, .op (some b9) 0, .ip (encPassing p), .ip (encStock s), .ip [.int m], .op (some b8) 0, .op (some b11) 0]
def pcSelf (p : Passing) (s : Stock) (m : Int) (b10 b9 b8 b11 : Nat) : Blk := ⟨some b11, 87, 1, [.fn 50 (pcCaps p s m b10 b9 b8 b11)]⟩
/-- Rows of the call's own, in a list of the call's own. -/
def RowsO (outs : List (List Int)) (ob : Option Nat) (cap : Nat) (hr : Heap) : Prop := ∃ (vs : List A) (hs : List Heap), vs.length = outs.length ∧ hs.length = outs.length ∧ (∀ i (h0 : i < outs.length) (h1 : i < vs.length) (h2 : i < hs.length), ROI outs[i] vs[i] hs[i]) ∧ hr = ⟨ob, 24, cap * 1, (vs.map fun a => [a]).flatten⟩ :: hs.flatten
theorem RowsO.nil : RowsO [] none 0 [⟨none, 24, 0 * 1, []⟩] := ⟨[], [], rfl, rfl, fun i h => absurd h (Nat.not_lt_zero _), rfl⟩
theorem RowsO.ii {outs : List (List Int)} {ob : Option Nat} {cap : Nat} {hr : Heap} (o : RowsO outs ob cap hr) : ROII outs (.os ob outs.length cap) hr := by
  obtain ⟨vs, hs, l1, l2, hall, e⟩ := o
  exact .inl ⟨ob, cap, vs, hs, l1, l2, hall, rfl, e⟩
def pcH (p : Passing) (s : Stock) (m : Int) (b10 b9 b8 b11 bc : Nat) (cs : List Int) (f n : Nat) (ob : Option Nat) (cap : Nat) (hr : Heap) : Heap :=
  cvB b10 bc p.rules.length :: liB (some bc) p.rules.length (p.pad cs) :: inB b9 (f : Int) :: ouB b8 ob n cap :: pcSelf p s m b10 b9 b8 b11 :: hr
theorem pcPerm {cl r k a b c d e : Blk} {H F : Heap} : (cl :: k :: a :: b :: c :: d :: e :: r :: (H ++ F)).Perm (k :: ((a :: b :: c :: d :: e :: r :: (H ++ [cl])) ++ F)) := by classical exact List.perm_iff_count.2 fun _ => by simp only [List.count_cons, List.count_append, List.cons_append, List.nil_append, List.count_nil]; omega
theorem o_pcFrom (p : Passing) (s : Stock) (m : Int) (hv : p.Ok) (hs : p.StockOk s) (b10 b9 b8 b11 bc : Nat) : ∀ (j : Nat) (cs : List Int) (f : Nat) (outs : List (List Int)) (ob : Option Nat) (cap : Nat) (hr : Heap), RowsO outs ob cap hr → p.Pfx cs → (∀ x ∈ cs, x ≤ 1000) → p.fitK s cs → cs.length + j = p.rules.length → f ≤ 1500 → outs.length ≤ f →
    Does Tryz.prog 50 (.int (cs.length : Int) :: pcCaps p s m b10 b9 b8 b11) (pcH p s m b10 b9 b8 b11 bc cs f outs.length ob cap hr)
      (fun v h' => v = .raw (.bool (dec (((wkF f (p.enumC s j cs) : Nat) : Int) ≤ 1500))) ∧ ∃ ob' cap' hr', RowsO (wkO p s m 1501 f outs (p.enumC s j cs)) ob' cap' hr' ∧ h' = pcH p s m b10 b9 b8 b11 bc cs (wkF f (p.enumC s j cs)) (wkO p s m 1501 f outs (p.enumC s j cs)).length ob' cap' hr') := by
  intro j
  have h8 := hv.1.2.2.2.2.1
  induction j with
  | zero =>
    intro cs f outs ob cap hr hro hp h1 hf hl hF ho
    obtain ⟨vs, hs', r1, r2, r3, rfl⟩ := hro
    have hc : p.Cnts cs := ⟨fun x hx => ⟨(hp.1 x hx).1, h1 x hx⟩, by omega⟩
    have epd : p.pad cs = cs := pad_all (by omega)
    have eF : wkF f (p.enumC s 0 cs) = f + 1 := by unfold wkF Passing.enumC; simp only [List.length_singleton]; omega
    have eO1 : p.ChoP s m cs → wkO p s m 1501 f outs (p.enumC s 0 cs) = outs ++ [cs] := fun q1 => by
      unfold wkO Passing.enumC; rw [List.take_of_length_le (by rw [List.length_singleton]; omega), pick_t q1]
    have eO2 : ¬ p.ChoP s m cs → wkO p s m 1501 f outs (p.enumC s 0 cs) = outs := fun q => by
      unfold wkO Passing.enumC
      rw [List.take_of_length_le (by rw [List.length_singleton]; omega), pick_f q, List.append_nil]
    have cC := c_isChoiceP p s cs m hv hs hc
    refine fn_of_runX tyOk ztOk mix Tryz.func50 rfl (by decide) Tryz.ntmps50 (fun w0 F => ?_)
    change RunD _ _ _ _ _ (enumE 0 [_, _, _, _, _, _, _, _]) (_ :: _ :: _ :: _ :: _ :: _ :: (_ ++ F))
    have fz : FrzL [liB (some bc) p.rules.length cs] [.agg (encPassing p), .agg (encStock s), .os (some bc) p.rules.length p.rules.length, .int m] [.agg (encPassing p), .agg (encStock s), .sl (cs.map Go.AI.encI), .int m] :=
      FrzL.cons (Frz.same _ _) (FrzL.cons (Frz.same _ _) (FrzL.cons (Frz.flat (g := Go.AI.encI) (ys := cs) (z := 1) (by omega) rfl (fun _ => rfl) rfl rfl) (FrzL.cons (Frz.same _ _) (FrzL.nil _))))
    have fz1 : FrzL [liB (some bc) p.rules.length cs] [.os (some bc) p.rules.length p.rules.length] [.sl (cs.map Go.AI.encI)] := FrzL.cons (Frz.flat (g := Go.AI.encI) (ys := cs) (z := 1) (by omega) rfl (fun _ => rfl) rfl rfl) (FrzL.nil _)
    rw [epd]
    refine runD_seq ?_
    refine runD_run ?_
    repeat' (first
      | (refine r_go ?_; first | refine run_region ?_))
    refine j_boxM rfl rfl rfl rfl rfl rfl (fun bk => ?_)
    repeat' (first
      | (refine j_go ?_; first
        | refine j_op0 rfl rfl rfl rfl ?_)
      | refine j_nil ?_)
    refine seqD_normal ?_
    refine runD_seq ?_
    refine runD_run ?_
    repeat' (first
      | (refine j_go ?_; first
        | refine j_op0 rfl rfl rfl rfl ?_ | (refine j_kBin rfl ?_; first | refine j_in rfl rfl ⟨by omega, by omega⟩ rfl rfl ?_) | (refine j_kLen rfl ?_; first | refine j_op rfl rfl rfl rfl ?_) | (refine j_kLoad rfl ?_; first | refine j_mload 0 rfl rfl rfl rfl rfl rfl rfl ?_ | refine j_mload 1 rfl rfl rfl rfl rfl rfl rfl ?_ | refine j_mload 3 rfl rfl rfl rfl rfl rfl rfl ?_) | (refine j_kStore rfl ?_; first | refine j_store 3 rfl rfl rfl rfl rfl rfl rfl rfl rfl rfl rfl ?_))
      | refine j_nil ?_
      | (refine r_go ?_; first | refine run_seq ?_ | refine run_region ?_ | (refine (run_if rfl (fun hb => ?_) (fun hb => ?_)) <;> first | (exfalso; omega) | skip))
      | refine seqQ_normal ?_)
    refine j_kCall rfl rfl rfl rfl ?_
    refine jctq [liB (some bc) p.rules.length cs] cC (Clo.raw _) (fun k hk => by rw [List.mem_singleton] at hk; subst hk; exact List.mem_cons_of_mem _ (List.mem_cons_of_mem _ List.mem_cons_self)) fz rfl rfl ?_
    have fin : ∀ {b : Bool} {x : Prop}, b = dec x → (x ↔ ((wkF f (p.enumC s 0 cs) : Nat) : Int) ≤ 1500) → A.raw (.bool b) = .raw (.bool (dec (((wkF f (p.enumC s 0 cs) : Nat) : Int) ≤ 1500))) := fun e q => by rw [e, dec_congr q]
    repeat' (first
      | (refine j_go ?_; first
        | refine j_op0 rfl rfl rfl rfl ?_ | (refine j_kLoad rfl ?_; first | refine j_mload 3 rfl rfl rfl rfl rfl rfl rfl ?_))
      | refine j_nil ?_
      | (refine j_goO ?_; first
        | (refine j_kLoadO rfl ?_; first | refine j_mloadO 1 rfl rfl rfl rfl rfl rfl rfl rfl ?_ | refine j_mloadS 4 rfl rfl rfl rfl rfl rfl rfl ?_))
      | (refine r_go ?_; first | refine run_seq ?_ | refine run_region ?_ | (refine (run_if rfl (fun hb => ?_) (fun hb => ?_)) <;> first | (exfalso; omega) | skip) | refine run_ret ?_ | refine run_skip ?_ | refine run_opn 4 [⟨0, false, false, 0⟩, ⟨1, true, false, 0⟩, ⟨2, false, true, 0⟩, ⟨3, true, false, 0⟩, ⟨4, false, true, 0⟩, ⟨5, false, true, 0⟩] rfl rfl (by kernel_rfl) ?_)
      | refine seqQ_normal ?_)
    · have hch : p.ChoP s m cs := by assumption
      have snoc : ∀ (b' : Option Nat) (cap' : Nat) (v : A) (h1 : Heap), ROI cs v h1 → RowsO (wkO p s m 1501 f outs (p.enumC s 0 cs)) b' cap' (⟨b', 24, cap' * 1, ((vs ++ [v]).map fun a => [a]).flatten⟩ :: (hs' ++ [h1]).flatten) := fun b' cap' v h1 hv => by
        rw [eO1 hch]
        refine ⟨vs ++ [v], hs' ++ [h1], by rw [List.length_append, List.length_append, r1]; rfl, by rw [List.length_append, List.length_append, r2]; rfl, fun i q1 q2 q3 => ?_, rfl⟩
        by_cases z : i < outs.length
        · simp only [List.getElem_append_left z, List.getElem_append_left (show i < vs.length by omega), List.getElem_append_left (show i < hs'.length by omega)]
          exact r3 i z _ _
        · have e : i = outs.length := by rw [List.length_append, List.length_singleton] at q1; omega
          subst e
          simp only [List.getElem_append_right (Nat.le_refl _), List.getElem_append_right (show vs.length ≤ outs.length by omega), List.getElem_append_right (show hs'.length ≤ outs.length by omega), List.getElem_singleton]
          exact hv
      refine j_kCallO rfl rfl rfl rfl ?_
      by_cases hne : cs = []
      · have hN0 : p.rules.length = 0 := by rw [hne] at hl; simpa using hl.symm
        refine jcO (all := [.sl (cs.map Go.AI.encI)]) (v := .sl (cs.map Go.AI.encI)) (q_clone6 cs (by omega)) (LeL.cons (by rw [hN0, hne]; exact Le.nilb _ _) LeL.nil) rfl rfl ?_
        refine j_dropO [0] rfl (by kernel_rfl) ?_
        repeat' (first
      | (refine j_goO ?_; first
        | (refine j_kBslO rfl ?_; first | refine j_bslO rfl rfl rfl rfl rfl rfl rfl rfl rfl rfl rfl ?_)))
        refine j_appendO 6 (g := fun a => [a]) (ys := vs) [A.sl (cs.map Go.AI.encI)] rfl (fun _ hk => nomatch hk) rfl rfl rfl rfl rfl rfl rfl rfl rfl rfl r1.symm rfl (fun _ => rfl) (fun _ hy => by simp only [List.mem_singleton] at hy; subst hy; rfl) ⟨by simp only [List.length_cons, List.length_nil]; omega, by simp only [List.length_cons, List.length_nil]; omega⟩ rfl rfl (fun b' cap' => ?_)
        repeat' (first
      | (refine j_go ?_; first
        | refine j_op0 rfl rfl rfl rfl ?_ | (refine j_kLoad rfl ?_; first | refine j_mload 3 rfl rfl rfl rfl rfl rfl rfl ?_))
      | refine j_nil ?_
      | (refine j_goO ?_; first
        | (refine j_kStoreO rfl ?_; first | refine j_storeO 4 rfl rfl rfl rfl rfl rfl rfl rfl rfl rfl rfl rfl (by first | (intro _ hk; exact absurd hk List.not_mem_nil) | (intro k hk; simp at hk ⊢; try simp [hk])) ?_))
      | refine j_nilO ?_
      | (refine r_go ?_; first | refine run_seq ?_ | refine run_region ?_ | refine run_ret ?_)
      | refine seqQ_normal ?_)
        refine seqD_ret ⟨.inl rfl, .inl ⟨rfl, ?_⟩⟩
        refine endD_view (view_erase 0) ?_
        exact endD_ret (h1 := pcH p s m b10 b9 b8 b11 bc cs (wkF f (p.enumC s 0 cs)) (wkO p s m 1501 f outs (p.enumC s 0 cs)).length b' cap' (⟨b', 24, cap' * 1, ((vs ++ [A.sl (cs.map Go.AI.encI)]).map fun a => [a]).flatten⟩ :: (hs' ++ [[]]).flatten)) (by
          unfold pcH
          rw [epd, eF, eO1 hch, List.length_append, List.length_append, r1, List.flatten_append, show ([[]] : List Heap).flatten = [] from rfl, List.append_nil]; rfl) (.cons (.tmp rfl) .nil) (Le.refl _) ⟨rbD (by rw [eF]; omega), b', cap', _, snoc b' cap' _ [] (.inr ⟨hne, by rw [hne]; rfl, rfl⟩), rfl⟩ (.inl rfl)
      · refine jctO [liB (some bc) p.rules.length cs] (o_cloneI cs hne (by omega)) rfl (fun k hk => by rw [List.mem_singleton] at hk; subst hk; exact List.mem_cons_of_mem _ (List.mem_cons_of_mem _ (List.mem_cons_of_mem _ (List.mem_cons_of_mem _ List.mem_cons_self)))) (fun k hk => by rw [List.mem_singleton] at hk; subst hk; exact List.mem_cons_of_mem _ (List.mem_cons_of_mem _ List.mem_cons_self)) fz1 (fun v h1 ⟨b, cap, q1, q2⟩ => ⟨by rw [q1]; exact Clo.os _ _ _, by rw [q2]; exact CloH.cons (CloL.mapInt _ _) CloH.nil⟩) rfl rfl (fun v h1 hR => ?_)
        obtain ⟨ob5, cp5, rfl, rfl⟩ := hR
        refine j_dropO [0] rfl (by kernel_rfl) ?_
        repeat' (first
      | (refine j_goO ?_; first
        | (refine j_kBslO rfl ?_; first | refine j_bslO rfl rfl rfl rfl rfl rfl rfl rfl rfl rfl rfl ?_)))
        refine j_appendO 7 (g := fun a => [a]) (ys := vs) [A.os ob5 cs.length cp5] rfl (fun _ hk => nomatch hk) rfl rfl rfl rfl rfl rfl rfl rfl rfl rfl r1.symm rfl (fun _ => rfl) (fun _ hy => by simp only [List.mem_singleton] at hy; subst hy; rfl) ⟨by simp only [List.length_cons, List.length_nil]; omega, by simp only [List.length_cons, List.length_nil]; omega⟩ rfl rfl (fun b' cap' => ?_)
        skip
        refine j_kStoreO rfl ?_
        first | refine j_storeO 5 rfl rfl rfl rfl rfl rfl rfl rfl rfl rfl rfl rfl (fun _ hk => nomatch hk) ?_ | refine j_storeNO 5 rfl rfl rfl rfl rfl rfl rfl rfl rfl rfl rfl rfl (fun _ hk => absurd hk List.not_mem_nil) ?_
        repeat' (first
      | (refine j_go ?_; first
        | refine j_op0 rfl rfl rfl rfl ?_ | (refine j_kLoad rfl ?_; first | refine j_mload 4 rfl rfl rfl rfl rfl rfl rfl ?_))
      | refine j_nil ?_
      | refine j_nilO ?_
      | (refine r_go ?_; first | refine run_seq ?_ | refine run_region ?_ | refine run_ret ?_)
      | refine seqQ_normal ?_)
        refine seqD_ret ⟨.inl rfl, .inl ⟨rfl, ?_⟩⟩
        refine endD_view (view_perm pcPerm) ?_
        refine endD_view (view_erase 0) ?_
        exact endD_ret (h1 := pcH p s m b10 b9 b8 b11 bc cs (wkF f (p.enumC s 0 cs)) (wkO p s m 1501 f outs (p.enumC s 0 cs)).length b' cap' (⟨b', 24, cap' * 1, ((vs ++ [A.os ob5 cs.length cp5]).map fun a => [a]).flatten⟩ :: (hs' ++ [[liB ob5 cp5 cs]]).flatten)) (by
          unfold pcH
          rw [epd, eF, eO1 hch, List.length_append, List.length_append, r1, List.flatten_append, show ([[liB ob5 cp5 cs]] : List Heap).flatten = [liB ob5 cp5 cs] from rfl]; rfl) (.cons (.tmp rfl) .nil) (Le.refl _) ⟨rbD (by rw [eF]; omega), b', cap', _, snoc b' cap' _ [liB ob5 cp5 cs] (.inl ⟨ob5, cp5, rfl, rfl⟩), rfl⟩ (.inl rfl)
    · have tail : RowsO (wkO p s m 1501 f outs (p.enumC s 0 cs)) ob cap (⟨ob, 24, cap * 1, (vs.map fun a => [a]).flatten⟩ :: hs'.flatten) := by rw [eO2 (by assumption)]; exact ⟨vs, hs', r1, r2, r3, rfl⟩
      refine seqD_ret ⟨.inl rfl, .inl ⟨rfl, ?_⟩⟩
      refine endD_view (view_erase 0) ?_
      exact endD_ret (h1 := pcH p s m b10 b9 b8 b11 bc cs (wkF f (p.enumC s 0 cs)) (wkO p s m 1501 f outs (p.enumC s 0 cs)).length ob cap (⟨ob, 24, cap * 1, (vs.map fun a => [a]).flatten⟩ :: hs'.flatten)) (by unfold pcH; rw [epd, eF, eO2 (by assumption)]; rfl) (.cons (.tmp rfl) .nil) (Le.refl _) ⟨rbD (by rw [eF]; omega), ob, cap, _, tail, rfl⟩ (.inl rfl)
  | succ j ih =>
    intro cs f outs ob cap hr hro hp h1 hf hl hF ho
    have hlt : cs.length < p.rules.length := by omega
    have ml := mx_le hv hs hp hlt hf
    have hsn : ∀ n : Nat, n ≤ 1001 → p.Pfx (cs ++ [(n : Int)]) := fun n hn => hp.snoc hlt (by omega)
    have pdl : ∀ n : Nat, (p.pad (cs ++ [(n : Int)])).length = p.rules.length := fun n => pad_len (by rw [List.length_append, List.length_singleton]; omega)
    have fin : ∀ (n f2 : Nat) (o2 : List (List Int)) (ob2 : Option Nat) (cap2 : Nat) (hr2 : Heap) (bk : Nat) (e : Env) (F : Heap) (b : Bool), RowsO o2 ob2 cap2 hr2 → n ≤ 1001 → lk e 9 = some (.raw (.bool b)) → (b = true ↔ ((wkF f (p.enumC s (j + 1) cs) : Nat) : Int) ≤ 1500) → f2 = wkF f (p.enumC s (j + 1) cs) → o2 = wkO p s m 1501 f outs (p.enumC s (j + 1) cs) →
        endX Tryz.prog ty Tryz.f50.results (fun v h' => v = A.raw (.bool (dec (((wkF f (p.enumC s (j + 1) cs) : Nat) : Int) ≤ 1500))) ∧ ∃ ob' cap' hr', RowsO (wkO p s m 1501 f outs (p.enumC s (j + 1) cs)) ob' cap' hr' ∧ h' = pcH p s m b10 b9 b8 b11 bc cs (wkF f (p.enumC s (j + 1) cs)) (wkO p s m 1501 f outs (p.enumC s (j + 1) cs)).length ob' cap' hr') F
          [dfr 52 [.op (some b10) 0, .op (some bk) 0]] .ret e (inB bk (cs.length : Int) :: cvB b10 bc p.rules.length :: liB (some bc) p.rules.length (p.pad (cs ++ [(n : Int)])) :: inB b9 (f2 : Int) :: ouB b8 ob2 o2.length cap2 :: pcSelf p s m b10 b9 b8 b11 :: (hr2 ++ F)) := by
      intro n f2 o2 ob2 cap2 hr2 bk e F b hro2 hn he hb e1 e2
      refine ⟨.inl rfl, .inr ⟨_, _, rfl, rfl, _, _, e, inB b9 (f2 : Int) :: ouB b8 ob2 o2.length cap2 :: pcSelf p s m b10 b9 b8 b11 :: (hr2 ++ F), o_pcZero b10 bk bc p.rules.length (p.pad (cs ++ [(n : Int)])) (pdl n) cs.length (by rw [pdl]; exact hlt), view_perm pm3w, fun hd' hR => ?_⟩⟩
      subst hR
      subst e2
      rw [pad_set hlt, pad_zero hlt, e1]
      refine endD_view (view_sub (((List.sublist_cons_self _ _).cons_cons _).cons_cons _)) ?_
      exact endD_ret (h1 := pcH p s m b10 b9 b8 b11 bc cs (wkF f (p.enumC s (j + 1) cs)) (wkO p s m 1501 f outs (p.enumC s (j + 1) cs)).length ob2 cap2 hr2) rfl (.cons (.tmp he) .nil) (Le.refl _) ⟨by
        change A.raw (.bool b) = _
        by_cases q : ((wkF f (p.enumC s (j + 1) cs) : Nat) : Int) ≤ 1500
        · rw [dec_t q, hb.2 q]
        · rw [dec_f q]
          cases b with
          | true => exact absurd (hb.1 rfl) q
          | false => rfl, ob2, cap2, hr2, hro2, rfl⟩ (.inl rfl)
    refine fn_of_runX tyOk ztOk mix Tryz.func50 rfl (by decide) Tryz.ntmps50 (fun w0 F => ?_)
    change RunD _ _ _ _ _ (enumE 0 [_, _, _, _, _, _, _, _]) (_ :: _ :: _ :: _ :: _ :: (hr ++ F))
    refine runD_seq ?_
    refine runD_run ?_
    repeat' (first
      | (refine r_go ?_; first | refine run_region ?_))
    refine j_boxM rfl rfl rfl rfl rfl rfl (fun bk => ?_)
    repeat' (first
      | (refine j_go ?_; first
        | refine j_op0 rfl rfl rfl rfl ?_)
      | refine j_nil ?_)
    refine seqD_normal ?_
    refine runD_seq ?_
    refine runD_run ?_
    repeat' (first
      | (refine j_go ?_; first
        | refine j_op0 rfl rfl rfl rfl ?_ | (refine j_kLen rfl ?_; first | refine j_op rfl rfl rfl rfl ?_) | (refine j_kLoad rfl ?_; first | refine j_mload 0 rfl rfl rfl rfl rfl rfl rfl ?_ | refine j_mload 1 rfl rfl rfl rfl rfl rfl rfl ?_))
      | refine j_nil ?_
      | (refine r_go ?_; first | refine run_seq ?_ | refine run_region ?_ | (refine (run_if rfl (fun hb => ?_) (fun hb => ?_)) <;> first | (exfalso; omega) | skip) | refine run_skip ?_)
      | refine seqQ_normal ?_)
    refine seqD_normal ?_
    refine runD_seq ?_
    refine runD_defer rfl rfl rfl rfl rfl rfl rfl rfl rfl ?_
    refine seqD_normal ?_
    refine runD_seq ?_
    refine runD_run ?_
    have epz : p.pad (cs ++ [((0 : Nat) : Int)]) = p.pad cs := pad_zero hlt
    rw [← epz]
    repeat' (first
      | (refine r_go ?_; first | refine run_block ?_))
    refine run_loop (fun x : Nat × Nat × List (List Int) × Option Nat × Nat × Heap => [(1, .op (some b10) 0), (3, .ip (encPassing p)), (4, .ip (encStock s)), (7, .op (some b11) 0), (8, .op (some bk) 0)])
      (fun x => inB bk (cs.length : Int) :: cvB b10 bc p.rules.length :: liB (some bc) p.rules.length (p.pad (cs ++ [(x.1 : Int)])) :: inB b9 (x.2.1 : Int) :: ouB b8 x.2.2.2.1 x.2.2.1.length x.2.2.2.2.1 :: pcSelf p s m b10 b9 b8 b11 :: (x.2.2.2.2.2 ++ F))
      (fun x => x.1 ≤ p.mx s cs + 1 ∧ x.2.1 = wkF f (p.enK s j cs x.1) ∧ x.2.2.1 = wkO p s m 1501 f outs (p.enK s j cs x.1) ∧ x.2.1 ≤ 1500 ∧ RowsO x.2.2.1 x.2.2.2.1 x.2.2.2.2.1 x.2.2.2.2.2) (fun x => p.mx s cs + 2 - x.1) (0, f, outs, ob, cap, hr) ⟨rfl, rfl, rfl, rfl, rfl, trivial⟩ rfl
      ⟨Nat.zero_le _, by dsimp only; unfold wkF; rw [enK_zero]; simp only [List.length_nil]; omega, by dsimp only; unfold wkO; rw [enK_zero, List.take_nil]; exact (List.append_nil _).symm, hF, hro⟩ (fun ⟨n, f2, o2, ob2, cap2, hr2⟩ ⟨nl, ef, eo, hF2, hro2⟩ => ?_)
    dsimp only at nl ef eo hF2 hro2 ⊢
    have e0 : wkF f (p.enK s j cs n) = min 1501 (f + (p.enK s j cs n).length) := rfl
    have ol := wkO_len p s m 1501 f outs (p.enK s j cs n)
    rw [← eo] at ol
    have cF := c_fits p s (p.pad (cs ++ [(n : Int)])) hv hs (hsn n (by omega)).w
    rw [left_pad hv hs (hsn n (by omega))] at cF
    have fz : FrzL [liB (some bc) p.rules.length (p.pad (cs ++ [(n : Int)]))] [.agg (encPassing p), .agg (encStock s), .os (some bc) p.rules.length p.rules.length] [.agg (encPassing p), .agg (encStock s), .sl ((p.pad (cs ++ [(n : Int)])).map Go.AI.encI)] :=
      FrzL.cons (Frz.same _ _) (FrzL.cons (Frz.same _ _) (FrzL.cons (Frz.flat (g := Go.AI.encI) (ys := p.pad (cs ++ [(n : Int)])) (z := 1) (pdl n).symm rfl (fun _ => rfl) rfl rfl) (FrzL.nil _)))
    by_cases hfit : n ≤ p.mx s cs
    case neg =>
      have hnf : ¬ Nn (p.lft s (cs ++ [(n : Int)])) := fun q => hfit ((mx_iff hv hs hp hlt hf (by omega)).1 q)
      rw [dec_f hnf] at cF
      have hnm : n = p.mx s cs + 1 := by omega
      have eE : p.enK s j cs n = p.enumC s (j + 1) cs := by rw [hnm, enK_all]
      rw [eE] at ef eo
      repeat' (first
      | (refine j_go ?_; first
        | refine j_op0 rfl rfl rfl rfl ?_ | (refine j_kLoad rfl ?_; first | refine j_mload 1 rfl rfl rfl rfl rfl rfl rfl ?_))
      | (refine r_go ?_; first | refine run_seq ?_ | refine run_region ?_))
      refine j_kCall rfl rfl rfl rfl ?_
      refine jctq [liB (some bc) p.rules.length (p.pad (cs ++ [(n : Int)]))] cF (Clo.raw _) (fun k hk => by rw [List.mem_singleton] at hk; subst hk; exact List.mem_cons_of_mem _ (List.mem_cons_of_mem _ List.mem_cons_self)) fz rfl rfl ?_
      repeat' (first
      | refine j_nil ?_
      | (refine r_go ?_; first | refine run_cond_f rfl ?_ | refine run_exit ?_)
      | refine seqQ_normal ?_ | refine seqQ_exit ?_ | refine blockQ_eq ?_ | refine loopQ_exit ?_)
      refine seqD_normal ?_
      refine runD_run ?_
      repeat' (first
      | (refine j_go ?_; first
        | refine j_op0 rfl rfl rfl rfl ?_)
      | refine j_nil ?_
      | (refine r_go ?_; first | refine run_seq ?_ | refine run_region ?_ | refine run_ret ?_)
      | refine seqQ_normal ?_)
      exact fin n f2 o2 ob2 cap2 hr2 bk _ F true hro2 (by omega) rfl ⟨fun _ => by rw [← ef]; omega, fun _ => rfl⟩ ef eo
    have fn := (mx_iff hv hs hp hlt hf (n := n) (by omega)).2 hfit
    have fn' : Nn (p.lft s (cs ++ [(n : Int)])) := fn
    rw [dec_t fn'] at cF
    have IH := ih (cs ++ [(n : Int)]) f2 o2 ob2 cap2 hr2 hro2 (hsn n (by omega)) (fun x hx => by
      rcases List.mem_append.1 hx with q | q
      · exact h1 x q
      · rw [List.mem_singleton] at q; omega) fn (by rw [List.length_append, List.length_singleton]; omega) hF2 (by omega)
    have eF2 : wkF f2 (p.enumC s j (cs ++ [(n : Int)])) = wkF f (p.enK s j cs (n + 1)) := by rw [ef, enK_succ]; exact wkF_app (by omega)
    have eO2 : wkO p s m 1501 f2 o2 (p.enumC s j (cs ++ [(n : Int)])) = wkO p s m 1501 f outs (p.enK s j cs (n + 1)) := by rw [ef, eo, enK_succ]; exact wkO_app (by omega) (by omega)
    rw [eF2, eO2, List.length_append, List.length_singleton] at IH
    obtain ⟨G, eG⟩ := enK_pre p s j cs (a := n + 1) (p.mx s cs + 1) (by omega)
    rw [enK_all] at eG
    repeat' (first
      | (refine j_go ?_; first
        | refine j_op0 rfl rfl rfl rfl ?_ | (refine j_kLoad rfl ?_; first | refine j_mload 1 rfl rfl rfl rfl rfl rfl rfl ?_))
      | (refine r_go ?_; first | refine run_seq ?_ | refine run_region ?_))
    refine j_kCall rfl rfl rfl rfl ?_
    refine jctq [liB (some bc) p.rules.length (p.pad (cs ++ [(n : Int)]))] cF (Clo.raw _) (fun k hk => by rw [List.mem_singleton] at hk; subst hk; exact List.mem_cons_of_mem _ (List.mem_cons_of_mem _ List.mem_cons_self)) fz rfl rfl ?_
    repeat' (first
      | refine j_nil ?_
      | (refine r_go ?_; first | refine run_seq ?_ | refine run_region ?_ | refine run_cond_t rfl ?_ | refine run_block ?_ | refine run_skip ?_)
      | refine seqQ_normal ?_)
    refine j_kLoad rfl ?_
    refine j_mload 5 rfl rfl rfl rfl rfl rfl rfl ?_
    repeat' (first
      | (refine j_go ?_; first
        | (refine j_kBin rfl ?_; first | refine j_in rfl rfl ⟨by omega, by omega⟩ rfl rfl ?_) | (refine j_kLoad rfl ?_; first | refine j_mload 0 rfl rfl rfl rfl rfl rfl rfl ?_)))
    refine j_kCall rfl rfl rfl rfl ?_
    refine jcp (inB bk (cs.length : Int) :: F) IH pcA (LeL.refl _) rfl rfl (fun v h1 hR => ?_)
    obtain ⟨rfl, ob3, cap3, hr3, hro3, rfl⟩ := hR
    refine j_view (view_perm pcB) ?_
    by_cases h5 : ((wkF f (p.enK s j cs (n + 1)) : Nat) : Int) ≤ 1500
    case neg =>
      rw [dec_f h5]
      have e3 : wkF f (p.enK s j cs (n + 1)) = min 1501 (f + (p.enK s j cs (n + 1)).length) := rfl
      have e1 : wkF f (p.enK s j cs (n + 1)) = wkF f (p.enumC s (j + 1) cs) := by rw [eG]; exact wkF_stop (by omega)
      have e2 : wkO p s m 1501 f outs (p.enK s j cs (n + 1)) = wkO p s m 1501 f outs (p.enumC s (j + 1) cs) := by rw [eG]; exact wkO_stop (by omega)
      rw [e2] at hro3
      rw [e1, e2]
      repeat' (first
      | (refine j_go ?_; first
        | refine j_op0 rfl rfl rfl rfl ?_)
      | refine j_nil ?_
      | (refine r_go ?_; first | refine run_seq ?_ | refine run_region ?_ | refine run_cond_t rfl ?_ | refine run_ret ?_)
      | refine seqQ_normal ?_ | refine seqQ_ret ?_ | refine blockQ_ret ?_ | refine loopQ_ret ?_)
      refine seqD_ret ?_
      exact fin n _ _ ob3 cap3 hr3 bk _ F false hro3 (by omega) rfl ⟨fun q => absurd q Bool.false_ne_true, fun q => absurd q (by rw [← e1]; exact h5)⟩ rfl rfl
    rw [dec_t h5]
    have pa : (p.pad (cs ++ [(n : Int)]))[cs.length]'(by rw [pdl]; exact hlt) = (n : Int) := pad_at _ _
    repeat' (first
      | (refine j_go ?_; first
        | refine j_op0 rfl rfl rfl rfl ?_ | (refine j_kIdx rfl ?_; first | refine j_midx rfl rfl rfl rfl rfl (by first | omega | (simp only [List.length_append, List.length_cons, List.length_nil]; omega)) rfl rfl ?_) | (refine j_kLoad rfl ?_; first | refine j_mload 0 rfl rfl rfl rfl rfl rfl rfl ?_ | refine j_mload 1 rfl rfl rfl rfl rfl rfl rfl ?_))
      | refine j_nil ?_
      | (refine r_go ?_; first | refine run_region ?_ | refine run_cond_f rfl ?_ | refine run_skip ?_)
      | refine seqQ_normal ?_)
    refine j_mloadE 2 cs.length (g := Go.AI.encI) (L := p.pad (cs ++ [(n : Int)])) (z := 1) rfl rfl rfl rfl (fun _ => rfl) rfl (by rw [pdl]; exact hlt) (fun _ => rfl) rfl rfl ?_
    rw [pa]
    repeat' (first
      | (refine j_go ?_; first
        | (refine j_kIdx rfl ?_; first | refine j_midx rfl rfl rfl rfl rfl (by first | omega | (simp only [List.length_append, List.length_cons, List.length_nil]; omega)) rfl rfl ?_) | (refine j_kBin rfl ?_; first | refine j_in rfl rfl ⟨by omega, by omega⟩ rfl rfl ?_)))
    refine j_storeE 2 cs.length (g := Go.AI.encI) ((n : Int) + 1) rfl rfl rfl rfl rfl rfl rfl rfl rfl (fun _ => rfl) rfl (by rw [pdl]; exact hlt) ?_
    rw [pad_set hlt]
    repeat' (first
      | refine j_nil ?_
      | refine blockQ_normal ?_)
    exact loopQ_next (n + 1, wkF f (p.enK s j cs (n + 1)), wkO p s m 1501 f outs (p.enK s j cs (n + 1)), ob3, cap3, hr3) ⟨by dsimp only; omega, rfl, rfl, by dsimp only; omega, hro3⟩ (by dsimp only; omega) rfl ⟨rfl, rfl, rfl, rfl, rfl, trivial⟩
theorem o_pcChoices (p : Passing) (s : Stock) (m : Int) (hv : p.Ok) (hs : p.StockOk s) : Does Tryz.prog 24 [.agg (encPassing p), .agg (encStock s), .int m] []
    (fun v h' => ((p.allC s).length ≤ 1500 → ∃ a, v = .tup [a, .int 0] ∧ ROII (p.pickC s m (p.allC s)) a h') ∧ (¬ (p.allC s).length ≤ 1500 → v = .tup [.sl [], .int 3] ∧ h' = [])) := by
  refine fn_of_runD tyOk ztOk mix Tryz.func24 rfl (by decide) Tryz.ntmps24 (fun w0 F => ?_)
  change Run _ _ _ _ _ F
  have h8 := hv.1.2.2.2.2.1
  repeat' (first
      | (refine j_go ?_; first
        | refine j_op0 rfl rfl rfl rfl ?_ | (refine j_kLen rfl ?_; first | refine j_len rfl rfl rfl rfl rfl rfl ?_) | (refine j_kStore rfl ?_; first | refine j_store 0 rfl rfl rfl rfl rfl rfl rfl rfl rfl rfl rfl ?_ | refine j_store 1 rfl rfl rfl rfl rfl rfl rfl rfl rfl rfl rfl ?_) | (refine j_kBsl rfl ?_; first | refine j_bs0 rfl rfl rfl rfl rfl rfl ?_) | refine j_box rfl rfl rfl rfl rfl rfl ?_ | refine j_alloc rfl rfl rfl rfl rfl (fun _ => ?_))
      | refine j_nil ?_
      | (refine r_go ?_; first | refine run_seq ?_ | refine run_region ?_)
      | refine seqQ_normal ?_)
  refine j_makeI (g := Go.AI.encI) (m := p.rules.length) 0 rfl rfl rfl rfl rfl rfl rfl rfl rfl (by omega) rfl rfl (fun bc => ?_)
  repeat' (first
      | (refine j_go ?_; first
        | refine j_op0 rfl rfl rfl rfl ?_ | (refine j_kLoad rfl ?_; first | refine j_mload 0 rfl rfl rfl rfl rfl rfl rfl ?_) | (refine j_kStore rfl ?_; first | refine j_store 0 rfl rfl rfl rfl rfl rfl rfl rfl rfl rfl rfl ?_) | refine j_alloc rfl rfl rfl rfl rfl (fun _ => ?_))
      | refine j_nil ?_
      | (refine r_go ?_; first | refine run_seq ?_ | refine run_region ?_)
      | refine seqQ_normal ?_)
  rename_i b8 b9 b10 b11
  have cF := o_pcFrom p s m hv hs b10 b9 b8 b11 bc p.rules.length [] 0 [] none 0 _ RowsO.nil (Passing.Pfx.nil p) (fun _ q => absurd q List.not_mem_nil) (fit_nil hs) (by simp) (by omega) (by simp)
  refine j_view (view_none 24 (0 * 1) rfl) ?_
  refine j_kCall rfl rfl rfl rfl ?_
  refine jcp F cF pm6p (LeL.refl _) rfl rfl (fun v h1 hR => ?_)
  obtain ⟨rfl, ob2, cap2, hr2, hro2, rfl⟩ := hR
  change J _ _ _ _ _ _ ((_, A.raw (.bool (dec (((wkF 0 (p.allC s) : Nat) : Int) ≤ 1500)))) :: _) (_ ++ F)
  by_cases hl : (p.allC s).length ≤ 1500
  · rw [dec_t (wk_le.2 hl)]
    have ew : wkO p s m 1501 0 [] (p.enumC s p.rules.length []) = p.pickC s m (p.allC s) := wk_all (by have : (p.allC s).length ≤ 1500 := hl; unfold Passing.allC at this; omega)
    rw [ew] at hro2 ⊢
    repeat' (first
      | (refine j_go ?_; first
        | refine j_op0 rfl rfl rfl rfl ?_ | (refine j_kLoad rfl ?_; first | refine j_mload 3 rfl rfl rfl rfl rfl rfl rfl ?_))
      | refine j_nil ?_
      | (refine r_go ?_; first | refine run_seq ?_ | refine run_region ?_ | refine run_cond_f rfl ?_ | refine run_ret ?_ | refine run_skip ?_)
      | refine seqQ_normal ?_)
    refine endD_view (view_sub (h0 := hr2 ++ F) (.cons _ (.cons _ (.cons _ (.cons _ (.cons _ (List.Sublist.refl _))))))) ?_
    exact endD_ret (h1 := hr2) rfl (vs := [_, _]) (.cons (.tmp rfl) (.cons (.tmp rfl) .nil)) (Le.refl _) ⟨fun _ => ⟨_, rfl, hro2.ii⟩, fun q => absurd hl q⟩ (.inl rfl)
  · rw [dec_f (fun q => hl (wk_le.1 q))]
    repeat' (first
      | (refine j_go ?_; first
        | refine j_op0 rfl rfl rfl rfl ?_)
      | refine j_nil ?_
      | (refine r_go ?_; first | refine run_seq ?_ | refine run_region ?_ | refine run_cond_t rfl ?_ | refine run_ret ?_)
      | refine seqQ_normal ?_ | refine seqQ_ret ?_)
    refine endD_view (view_sub (h0 := F) (List.sublist_append_right _ _)) ?_
    exact endD_ret (h1 := []) rfl (vs := [_, _]) (.cons (.tmp rfl) (.cons (.tmp rfl) .nil)) (Le.tup (LeL.cons (Le.nil _) (LeL.refl _))) ⟨fun q => absurd q hl, fun _ => ⟨rfl, rfl⟩⟩ (.inl rfl)
theorem c_iPassChoices (p : Passing) (s : Stock) (m : Int) : Does Tryz.prog 12 [.agg (encPassing p), .agg (encStock s), .int m] [] (fun v h' => ∃ a, v = .tup [a, .int (codePassChoices p s m)] ∧ ROII (resPassChoices p s m) a h') := by
  refine fn_of_runD tyOk ztOk mix Tryz.func12 rfl (by decide) Tryz.ntmps12 (fun w0 F => ?_)
  change Run _ _ _ _ _ F
  have cC := c_modeOf p s m
  have ex : ∀ {c : Int} {e : Env} {a : A}, resPassChoices p s m = [] ∧ codePassChoices p s m = c → lk e 6 = some a → Le a (.sl []) → lk e 7 = some (.int c) → endD ty Tryz.f12.results (fun v h' => ∃ a, v = .tup [a, .int (codePassChoices p s m)] ∧ ROII (resPassChoices p s m) a h') F .ret e F := fun q r1 r0 r2 =>
    endD_ret (h1 := []) rfl (vs := [_, _]) (.cons (.tmp r1) (.cons (.tmp r2) .nil)) (Le.tup (LeL.cons r0 (LeL.refl _))) ⟨.sl [], by rw [q.2], by rw [q.1]; exact .inr ⟨rfl, rfl, rfl⟩⟩ (.inl rfl)
  by_cases hv : p.Ok
  · by_cases h2 : p.StockOk s ∧ (1 ≤ m ∧ m ≤ 3)
    · rw [cd2_o hv h2] at cC
      repeat' (first
      | (refine j_go ?_; first
        | refine j_op0 rfl rfl rfl rfl ?_ | (refine j_kCall rfl rfl rfl rfl ?_; first | refine jc (cC) (LeL.refl _) rfl rfl ?_) | refine j_box rfl rfl rfl rfl rfl rfl ?_)
      | refine j_nil ?_
      | (refine r_go ?_; first | refine run_seq ?_ | refine run_region ?_ | (refine (run_ifn rfl (fun hb => ?_) (fun hb => ?_)) <;> first | (exfalso; omega) | skip) | refine run_skip ?_)
      | refine seqQ_normal ?_)
      refine j_kCall rfl rfl rfl rfl ?_
      refine jcp F (o_pcChoices p s m hv h2.1) (List.Perm.refl _) (LeL.refl _) rfl rfl (fun v h1 hR => ?_)
      by_cases hl : (p.allC s).length ≤ 1500
      · obtain ⟨a, rfl, hR2⟩ := hR.1 hl
        have q := pc_t hv h2.1 h2.2 hl
        repeat' (first
      | (refine j_go ?_; first
        | refine j_op0 rfl rfl rfl rfl ?_)
      | refine j_nil ?_
      | (refine r_go ?_; first | refine run_ret ?_)
      | refine seqQ_normal ?_)
        exact endD_ret (h1 := h1) rfl (vs := [_, _]) (.cons (.tmp rfl) (.cons (.tmp rfl) .nil)) (Le.refl _) ⟨a, by rw [q.2]; rfl, by rw [q.1]; exact hR2⟩ (.inl rfl)
      · obtain ⟨rfl, rfl⟩ := hR.2 hl
        repeat' (first
      | (refine j_go ?_; first
        | refine j_op0 rfl rfl rfl rfl ?_)
      | refine j_nil ?_
      | (refine r_go ?_; first | refine run_ret ?_)
      | refine seqQ_normal ?_)
        exact ex (pc_f3 hv h2.1 h2.2 hl) rfl (Le.refl _) rfl
    · rw [cd2_t hv h2] at cC
      repeat' (first
      | (refine j_go ?_; first
        | refine j_op0 rfl rfl rfl rfl ?_ | (refine j_kCall rfl rfl rfl rfl ?_; first | refine jc (cC) (LeL.refl _) rfl rfl ?_) | refine j_box rfl rfl rfl rfl rfl rfl ?_)
      | refine j_nil ?_
      | (refine r_go ?_; first | refine run_seq ?_ | refine run_region ?_ | (refine (run_ifn rfl (fun hb => ?_) (fun hb => ?_)) <;> first | (exfalso; omega) | skip) | refine run_ret ?_)
      | refine seqQ_normal ?_ | refine seqQ_ret ?_)
      exact ex (pc_f2 hv h2) rfl (Le.nil _) rfl
  · rw [cd2_f hv] at cC
    repeat' (first
      | (refine j_go ?_; first
        | refine j_op0 rfl rfl rfl rfl ?_ | (refine j_kCall rfl rfl rfl rfl ?_; first | refine jc (cC) (LeL.refl _) rfl rfl ?_) | refine j_box rfl rfl rfl rfl rfl rfl ?_)
      | refine j_nil ?_
      | (refine r_go ?_; first | refine run_seq ?_ | refine run_region ?_ | (refine (run_ifn rfl (fun hb => ?_) (fun hb => ?_)) <;> first | (exfalso; omega) | skip) | refine run_ret ?_)
      | refine seqQ_normal ?_ | refine seqQ_ret ?_)
    exact ex (pc_f1 hv) rfl (Le.nil _) rfl
end Go.Proofs.YtbpmmdecaonopaaGreat
