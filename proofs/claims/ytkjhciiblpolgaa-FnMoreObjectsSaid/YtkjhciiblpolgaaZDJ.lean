/-
  Lists of rules and of cells, in memory of the call's own: ApplicableRules, KidsNow. No condition.
-/
import Derived.Test.YtkjhciiblpolgaaZS2e
import Derived.Test.YtkjhciiblpolgaaZS2d
import Derived.Test.YtkjhciiblpolgaaZS5
import Derived.Test.YtkjhciiblpolgaaZS3a
namespace Go.Proofs.Ytkjhciiblpolgaa
open Go.AI
set_option maxRecDepth 8000
set_option maxHeartbeats 1600000

theorem o_applicable (s : System) (t : State) (hv : s.Ok) (ht : s.StateOk t) : Does Try.prog 24 [.agg (encSystem s), .agg (encState t)] [] (fun v h' => ∃ b cap, v = .os b (idxL s t s.rules.length).length cap ∧ h' = [⟨b, 2, cap * 1, ((idxL s t s.rules.length).map Go.AI.encI).flatten⟩]) := by
  refine fn_of_runD tyOk ztOk mix Try.func24 rfl (by decide) Try.ntmps24 (fun w0 F => ?_)
  change Run _ _ _ _ _ F
  have hl := hv.1.2.1
  have h16 := hv.2.1
  repeat' (first
      | (refine j_go ?_; first
        | refine j_op0 rfl rfl rfl rfl ?_ | (refine j_kStore rfl ?_; first | refine j_storeN 0 rfl rfl rfl rfl rfl rfl rfl rfl rfl rfl rfl ?_) | refine j_box rfl rfl rfl rfl rfl rfl ?_ | refine j_buildA rfl rfl rfl rfl rfl rfl rfl ?_ | refine j_alloc rfl rfl rfl rfl rfl (fun _ => ?_))
      | refine j_nil ?_
      | (refine r_go ?_; first | refine run_seq ?_ | refine run_region ?_ | refine run_block ?_)
      | refine seqQ_normal ?_)
  rename_i b
  refine run_loop (fun k : Nat => [(2, .ip (encSystem s)), (3, .ip (encState t)), (5, .op (some b) 0), (13, .int (k : Int))]) (fun k => ⟨some b, 82, 6, ((List.replicate k (-1) ++ List.replicate (6 - k) 0).map Go.AI.encI).flatten⟩ :: F)
    (fun k => k ≤ 6) (fun k => 6 - k) 0 ⟨rfl, rfl, rfl, rfl, trivial⟩ rfl (by omega) (fun k kl => ?_)
  by_cases hk : k < 6
  · repeat' (first
      | (refine j_go ?_; first
        | refine j_op0 rfl rfl rfl rfl ?_ | (refine j_kIdx rfl ?_; first | refine j_aidx rfl rfl rfl rfl rfl (by omega) rfl rfl ?_))
      | refine j_nil ?_
      | (refine r_go ?_; first | refine run_seq ?_ | refine run_region ?_ | (refine (run_if rfl (fun hb => ?_) (fun hb => ?_)) <;> first | (exfalso; omega) | skip) | refine run_block ?_ | refine run_skip ?_)
      | refine seqQ_normal ?_)
    refine j_storeE 0 k (g := Go.AI.encI) (-1) rfl rfl rfl rfl rfl rfl rfl rfl rfl (fun _ => rfl) (by omega) (by simp; omega) ?_
    rw [rep_set hk]
    repeat' (first
      | (refine j_go ?_; first
        | refine j_op0 rfl rfl rfl rfl ?_ | (refine j_kBin rfl ?_; first | refine j_in rfl rfl ⟨by omega, by omega⟩ rfl rfl ?_))
      | refine j_nil ?_
      | (refine r_go ?_; first | refine run_region ?_)
      | refine seqQ_normal ?_ | refine blockQ_normal ?_)
    exact loopQ_next (k + 1) (by omega) (by omega) rfl ⟨rfl, rfl, rfl, nx _, trivial⟩
  have hk6 : k = 6 := by omega
  subst hk6
  repeat' (first
      | (refine j_go ?_; first
        | refine j_op0 rfl rfl rfl rfl ?_ | (refine j_kLen rfl ?_; first | refine j_len rfl rfl rfl rfl rfl rfl ?_))
      | refine j_nil ?_
      | (refine r_go ?_; first | refine run_seq ?_ | refine run_region ?_ | (refine (run_if rfl (fun hb => ?_) (fun hb => ?_)) <;> first | (exfalso; omega) | skip) | refine run_block ?_ | refine run_exit ?_)
      | refine seqQ_normal ?_ | refine seqQ_exit ?_ | refine blockQ_eq ?_ | refine loopQ_exit ?_)
  refine run_loop (fun k : Nat => [(2, .ip (encSystem s)), (3, .ip (encState t)), (5, .op (some b) 0), (20, .sl (s.rules.map encRule)), (21, .int s.rules.length), (22, .int (k : Int))]) (fun k => ⟨some b, 82, 6, ((bstL 6 (-1) (EnP s t) (s.rules.take k)).map Go.AI.encI).flatten⟩ :: F)
    (fun k => k ≤ s.rules.length) (fun k => s.rules.length - k) 0 ⟨rfl, rfl, rfl, rfl, rfl, rfl, trivial⟩ (by rw [List.take_zero, bstL_nil]; rfl) (by omega) (fun k kl => ?_)
  by_cases hk : k < s.rules.length
  · have hr := (hv.2.2 k hk).1
    have hc := hr.1
    have hcm : s.rules[k].cell = ((s.rules[k].cell.toNat : Nat) : Int) := by omega
    have hg : (bstL 6 (-1) (EnP s t) (s.rules.take k))[s.rules[k].cell.toNat]'(by rw [bstL_len]; omega) = bst (-1) (EnP s t) ((s.rules[k].cell.toNat : Nat) : Int) (s.rules.take k) := bstL_get _
    repeat' (first
      | (refine j_go ?_; first
        | refine j_op0 rfl rfl rfl rfl ?_ | (refine j_kIdx rfl ?_; first | refine j_idx rfl rfl rfl rfl rfl (by omega) rfl rfl rfl ?_) | (refine j_kBin rfl ?_; first | refine j_in rfl rfl ⟨by omega, by omega⟩ rfl rfl ?_) | (refine j_kCall rfl rfl rfl rfl ?_; first | refine jc (c_isEnabled _ _ _ hv ht hr) (LeL.refl _) rfl rfl ?_) | (refine j_kLoad rfl ?_; first | refine j_mload 0 rfl rfl rfl rfl rfl rfl rfl ?_) | (refine j_kStore rfl ?_; first | refine j_storeN 0 rfl rfl rfl rfl rfl rfl rfl rfl rfl rfl rfl ?_) | refine j_alloc rfl rfl rfl rfl rfl (fun _ => ?_))
      | refine j_nil ?_
      | (refine j_goO ?_; first
        | refine j_op0O rfl rfl rfl rfl ?_ | (refine j_kIdxO rfl ?_; first | refine j_aidxzO rfl rfl rfl rfl rfl (by omega) rfl rfl ?_) | (refine j_kLoadO rfl ?_; first | refine j_mloadO 0 rfl rfl rfl rfl rfl rfl rfl rfl ?_))
      | (refine r_go ?_; first | refine run_seq ?_ | refine run_region ?_ | (refine (run_if rfl (fun hb => ?_) (fun hb => ?_)) <;> first | (exfalso; omega) | skip) | refine run_block ?_ | refine run_skip ?_ | refine run_opn 11 [⟨0, true, false, 0⟩, ⟨1, true, false, 0⟩, ⟨2, true, false, 0⟩, ⟨3, true, false, 0⟩, ⟨4, true, false, 0⟩, ⟨5, true, false, 0⟩, ⟨6, true, false, 0⟩, ⟨7, true, false, 0⟩, ⟨8, true, false, 0⟩, ⟨9, true, false, 0⟩, ⟨10, false, true, 0⟩] rfl rfl (by kernel_rfl) ?_)
      | refine seqQ_normal ?_ | refine blockQ_normal ?_)
    · refine j_mloadEO 1 s.rules[k].cell.toNat (g := Go.AI.encI) (L := bstL 6 (-1) (EnP s t) (s.rules.take k)) (z := 1) rfl rfl rfl rfl rfl (fun _ => rfl) (by omega) (by rw [bstL_len]; omega) (fun _ => rfl) rfl rfl ?_
      rw [hg]
      repeat' (first
      | (refine j_goO ?_; first
        | refine j_op0O rfl rfl rfl rfl ?_ | (refine j_kIdxO rfl ?_; first | refine j_aidxzO rfl rfl rfl rfl rfl (by omega) rfl rfl ?_) | (refine j_kLoadO rfl ?_; first | refine j_mloadO 0 rfl rfl rfl rfl rfl rfl rfl rfl ?_)))
      refine j_storeEO 1 s.rules[k].cell.toNat (g := Go.AI.encI) (max (bst (-1) (EnP s t) ((s.rules[k].cell.toNat : Nat) : Int) (s.rules.take k)) s.rules[k].rank) rfl rfl rfl rfl rfl rfl rfl rfl rfl rfl (fun _ => rfl) (by omega) (by rw [bstL_len]; omega) (fun _ hk => nomatch hk) ?_
      rw [bstL_set hk hcm (by omega) (by assumption) rfl]
      repeat' (first
      | (refine j_go ?_; first
        | refine j_op0 rfl rfl rfl rfl ?_ | (refine j_kBin rfl ?_; first | refine j_in rfl rfl ⟨by omega, by omega⟩ rfl rfl ?_))
      | refine j_nil ?_
      | refine j_nilO ?_
      | (refine r_go ?_; first | refine run_region ?_)
      | refine seqQ_normal ?_ | refine blockQ_normal ?_)
      exact loopQ_nextD (k + 1) (by omega) (by omega) (List.sublist_cons_self _ _) ⟨rfl, rfl, rfl, rfl, rfl, nx _, trivial⟩
    · exact loopQ_nextD (k + 1) (by omega) (by omega) (by rw [bstL_skip hk (by assumption)]; exact List.sublist_cons_self _ _) ⟨rfl, rfl, rfl, rfl, rfl, nx _, trivial⟩
  have hke : k = s.rules.length := by omega
  subst hke
  repeat' (first
      | (refine j_go ?_; first
        | refine j_op0 rfl rfl rfl rfl ?_ | (refine j_kLen rfl ?_; first | refine j_len rfl rfl rfl rfl rfl rfl ?_) | (refine j_kBsl rfl ?_; first | refine j_bs0 rfl rfl rfl rfl rfl rfl ?_))
      | refine j_nil ?_
      | (refine r_go ?_; first | refine run_seq ?_ | refine run_region ?_ | (refine (run_if rfl (fun hb => ?_) (fun hb => ?_)) <;> first | (exfalso; omega) | skip) | refine run_block ?_ | refine run_exit ?_)
      | refine seqQ_normal ?_ | refine seqQ_exit ?_ | refine blockQ_eq ?_ | refine loopQ_exit ?_)
  refine run_view (view_none 2 0 rfl) ?_
  refine run_loop (fun x : Nat × Option Nat × Nat => [(2, .ip (encSystem s)), (3, .ip (encState t)), (5, .op (some b) 0), (43, .sl (s.rules.map encRule)), (44, .int s.rules.length), (9, .os x.2.1 (idxL s t x.1).length x.2.2), (45, .int (x.1 : Int))]) (fun x => ⟨x.2.1, 2, x.2.2 * 1, ((idxL s t x.1).map Go.AI.encI).flatten⟩ :: ⟨some b, 82, 6, ((bstL 6 (-1) (EnP s t) (s.rules.take s.rules.length)).map Go.AI.encI).flatten⟩ :: F)
    (fun x => x.1 ≤ s.rules.length) (fun x => s.rules.length - x.1) (0, none, 0) ⟨rfl, rfl, rfl, rfl, rfl, rfl, rfl, trivial⟩ rfl (Nat.zero_le _) (fun ⟨k, ob, cp⟩ kl => ?_)
  dsimp only at kl ⊢
  have il := idxL_len s t k
  by_cases hk : k < s.rules.length
  · have hr := (hv.2.2 k hk).1
    have hc := hr.1
    have hcm : s.rules[k].cell = ((s.rules[k].cell.toNat : Nat) : Int) := by omega
    have hg : (bstL 6 (-1) (EnP s t) (s.rules.take s.rules.length))[s.rules[k].cell.toNat]'(by rw [bstL_len]; omega) = bst (-1) (EnP s t) s.rules[k].cell s.rules := by rw [bstL_get, ← hcm, List.take_length]
    have hm : s.rules[k] ∈ s.rules := List.getElem_mem hk
    repeat' (first
      | (refine j_go ?_; first
        | refine j_op0 rfl rfl rfl rfl ?_ | (refine j_kIdx rfl ?_; first | refine j_idx rfl rfl rfl rfl rfl (by omega) rfl rfl rfl ?_ | refine j_aidxz rfl rfl rfl rfl rfl (by omega) rfl rfl ?_) | (refine j_kLoad rfl ?_; first | refine j_mload 0 rfl rfl rfl rfl rfl rfl rfl ?_) | (refine j_kStore rfl ?_; first | refine j_storeN 0 rfl rfl rfl rfl rfl rfl rfl rfl rfl rfl rfl ?_) | refine j_alloc rfl rfl rfl rfl rfl (fun _ => ?_))
      | refine j_nil ?_
      | (refine r_go ?_; first | refine run_seq ?_ | refine run_region ?_ | (refine (run_if rfl (fun hb => ?_) (fun hb => ?_)) <;> first | (exfalso; omega) | skip) | refine run_block ?_ | refine run_skip ?_ | refine run_regionD (by kernel_rfl) ?_)
      | refine seqQ_normal ?_)
    refine j_mloadE 2 s.rules[k].cell.toNat (g := Go.AI.encI) (L := bstL 6 (-1) (EnP s t) (s.rules.take s.rules.length)) (z := 1) rfl rfl rfl rfl (fun _ => rfl) (by omega) (by rw [bstL_len]; omega) (fun _ => rfl) rfl rfl ?_
    rw [hg]
    repeat' (first
      | (refine j_go ?_; first
        | refine j_op0 rfl rfl rfl rfl ?_ | refine j_off rfl rfl rfl ?_ | (refine j_kBin rfl ?_; first | refine j_in rfl rfl ⟨by omega, by omega⟩ rfl rfl ?_) | (refine j_kCall rfl rfl rfl rfl ?_; first | refine jc (c_isEnabled _ _ _ hv ht hr) (LeL.refl _) rfl rfl ?_) | (refine j_kLoad rfl ?_; first | refine j_mload 0 rfl rfl rfl rfl rfl rfl rfl ?_) | (refine j_kBsl rfl ?_; first | refine j_bsl rfl rfl rfl rfl rfl rfl rfl rfl rfl rfl rfl ?_) | (refine j_kGuard rfl ?_; first | (refine (j_if rfl rfl rfl (fun hb => ?_) (fun hb => ?_)) <;> first | (exfalso; omega) | skip)))
      | refine j_nil ?_
      | (refine r_go ?_; first | refine run_region ?_ | refine run_cond_f rfl ?_ | (refine (run_if rfl (fun hb => ?_) (fun hb => ?_)) <;> first | (exfalso; omega) | skip) | refine run_skip ?_)
      | refine seqQ_normal ?_ | refine blockQ_normal ?_)
    · have ha : App s t s.rules[k] := (app_iff (init := -1) (by omega) hv.ranks hm (by assumption)).1 (by assumption)
      refine j_append 1 (g := Go.AI.encI) [(k : Int)] rfl rfl rfl rfl rfl rfl rfl rfl rfl rfl rfl rfl (fun _ => rfl) (fun _ _ => rfl) ⟨by simp only [List.length_cons, List.length_nil]; omega, by simp only [List.length_cons, List.length_nil]; omega⟩ rfl rfl (fun b' cap' => ?_)
      rw [idxL_yes hk ha]
      repeat' (first
      | (refine j_go ?_; first
        | refine j_op0 rfl rfl rfl rfl ?_ | (refine j_kBin rfl ?_; first | refine j_in rfl rfl ⟨by omega, by omega⟩ rfl rfl ?_))
      | refine j_nil ?_
      | (refine r_go ?_; first | refine run_region ?_)
      | refine seqQ_normal ?_ | refine blockQ_normal ?_)
      exact loopQ_nextD (k + 1, b', cap') (by dsimp only; omega) (by dsimp only; omega) (List.sublist_cons_self _ _) ⟨rfl, rfl, rfl, rfl, rfl, rfl, nx _, trivial⟩
    all_goals
      have ha : ¬ App s t s.rules[k] := by first | exact (fun q => absurd q.1 (by assumption)) | exact (fun q => absurd ((app_iff (init := -1) (by omega) hv.ranks hm q.1).2 q) (by assumption))
      exact loopQ_nextD (k + 1, ob, cp) (by dsimp only; omega) (by dsimp only; omega) (by dsimp only; rw [← idxL_no hk ha]; exact List.sublist_cons_self _ _) ⟨rfl, rfl, rfl, rfl, rfl, (by dsimp only; rw [← idxL_no hk ha]; rfl), nx _, trivial⟩
  · have hke : k = s.rules.length := by omega
    subst hke
    repeat' (first
      | (refine j_go ?_; first
        | refine j_op0 rfl rfl rfl rfl ?_)
      | refine j_nil ?_
      | (refine r_go ?_; first | refine run_seq ?_ | refine run_region ?_ | (refine (run_if rfl (fun hb => ?_) (fun hb => ?_)) <;> first | (exfalso; omega) | skip) | refine run_ret ?_ | refine run_exit ?_)
      | refine seqQ_normal ?_ | refine seqQ_exit ?_ | refine blockQ_eq ?_ | refine loopQ_exit ?_)
    refine endD_view (view_erase 1) ?_
    exact endD_ret (h1 := [_]) rfl (.cons (.tmp rfl) .nil) (Le.refl _) ⟨_, _, rfl, rfl⟩ (.inl rfl)

noncomputable def resApplicableRules (s : System) (t : State) : List Int := lsP (s.Ok ∧ s.StateOk t) (idxL s t s.rules.length)
noncomputable def codeApplicableRules (s : System) (t : State) : Int := cdP (s.Ok ∧ s.StateOk t)
theorem c_iApplicableRules (s : System) (t : State) : Does Try.prog 10 [.agg (encSystem s), .agg (encState t)] [] (OwnI (resApplicableRules s t) (codeApplicableRules s t)) := by
  refine fn_of_runD tyOk ztOk mix Try.func10 rfl (by decide) Try.ntmps10 (fun w0 F => ?_)
  change Run _ _ _ _ _ F
  unfold resApplicableRules codeApplicableRules
  repeat' (first
      | (refine j_go ?_; first
        | refine j_op0 rfl rfl rfl rfl ?_ | (refine j_kCall rfl rfl rfl rfl ?_; first | refine jc (c_iValidState _ _) (LeL.refl _) rfl rfl ?_) | refine j_box rfl rfl rfl rfl rfl rfl ?_)
      | refine j_nil ?_
      | (refine r_go ?_; first | refine run_seq ?_ | refine run_region ?_ | (refine (run_ifn rfl (fun hb => ?_) (fun hb => ?_)) <;> first | (exfalso; omega) | skip) | refine run_ret ?_ | refine run_skip ?_)
      | refine seqQ_normal ?_ | refine seqQ_ret ?_)
  · rw [ls_f hb, cd_f hb]
    exact endD_view (view_none 2 0 rfl) (endD_ret (h1 := [_]) rfl (.cons (.tmp rfl) (.cons (.tmp rfl) .nil)) (Le.refl _) ⟨none, 0, rfl, rfl⟩ (.inl rfl))
  · have hv := hb
    rw [ls_t hv, cd_t hv]
    skip
    refine j_kCall rfl rfl rfl rfl ?_
    refine jcp _ (o_applicable s t hv.1 hv.2) (List.Perm.refl _) (LeL.refl _) rfl rfl (fun v h1 hR => ?_)
    obtain ⟨b, cap, rfl, rfl⟩ := hR
    repeat' (first
      | (refine j_go ?_; first
        | refine j_op0 rfl rfl rfl rfl ?_)
      | refine j_nil ?_
      | (refine r_go ?_; first | refine run_ret ?_)
      | refine seqQ_normal ?_)
    exact endD_ret (h1 := [_]) rfl (.cons (.tmp rfl) (.cons (.tmp rfl) .nil)) (Le.refl _) ⟨b, cap, rfl, rfl⟩ (.inl rfl)

theorem c_sApplicableRules (s : System) (t : State) : Gives Try.prog 11 [.agg (encSystem s), .agg (encState t)] (.tup [.sl ((resApplicableRules s t).map Go.AI.encI), .int (codeApplicableRules s t)]) := by
  refine fn_of_run tyOk ztOk mix Try.func11 rfl (by decide) Try.ntmps11 (fun w0 h => ?_)
  unfold resApplicableRules codeApplicableRules
  repeat' (first
      | (refine j_go ?_; first
        | refine j_op0 rfl rfl rfl rfl ?_ | (refine j_kCall rfl rfl rfl rfl ?_; first | refine jc (c_l03Both _ _) (LeL.refl _) rfl rfl ?_) | (refine j_kBsl rfl ?_; first | refine j_bs0 rfl rfl rfl rfl rfl rfl ?_) | refine j_box rfl rfl rfl rfl rfl rfl ?_)
      | refine j_nil ?_
      | (refine r_go ?_; first | refine run_seq ?_ | refine run_region ?_ | (refine (run_ifn rfl (fun hb => ?_) (fun hb => ?_)) <;> first | (exfalso; omega) | skip) | refine run_ret ?_ | refine run_skip ?_)
      | refine seqQ_normal ?_ | refine seqQ_ret ?_)
  · exact end_le (List.Sublist.refl _) (.cons (.tmp rfl) (.cons (.tmp rfl) .nil)) (by rw [ls_f hb, cd_f hb]; exact Le.tup (LeL.cons (Le.nil _) (LeL.refl _))) (.inl rfl)
  · have hv := hb
    have h16 := hv.1.2.1
    rw [ls_t hv, cd_t hv]
    repeat' (first
      | (refine j_go ?_; first
        | refine j_op0 rfl rfl rfl rfl ?_ | (refine j_kCall rfl rfl rfl rfl ?_; first | refine jc (c_l03Applicable _ _ hv.1 hv.2) (LeL.refl _) rfl rfl ?_))
      | refine j_nil ?_
      | (refine r_go ?_; first | refine run_seq ?_ | refine run_region ?_ | refine run_block ?_)
      | refine seqQ_normal ?_)
    refine run_view (view_none 2 0 rfl) ?_
    refine run_loop (fun x : Nat × Option Nat × Nat => [(7, .sl ((appL s t).map encB)), (6, .os x.2.1 (idxL s t x.1).length x.2.2), (8, .int (x.1 : Int))]) (fun x => ⟨x.2.1, 2, x.2.2 * 1, ((idxL s t x.1).map Go.AI.encI).flatten⟩ :: h)
      (fun x => x.1 ≤ s.rules.length) (fun x => s.rules.length - x.1) (0, none, 0) ⟨rfl, rfl, rfl, trivial⟩ rfl (Nat.zero_le _) (fun ⟨k, ob, cp⟩ kl => ?_)
    dsimp only at kl ⊢
    have il := idxL_len s t k
    have al := appL_len s t
    by_cases hk : k < s.rules.length
    · have hg := appL_get (s := s) (t := t) (k := k) (by omega)
      repeat' (first
      | (refine j_go ?_; first
        | refine j_op0 rfl rfl rfl rfl ?_ | (refine j_kIdx rfl ?_; first | refine j_idx rfl rfl rfl rfl rfl (by omega) rfl rfl rfl ?_) | (refine j_kBin rfl ?_; first | refine j_in rfl rfl ⟨by omega, by omega⟩ rfl rfl ?_) | (refine j_kLen rfl ?_; first | refine j_len rfl rfl rfl rfl rfl rfl ?_) | (refine j_kBsl rfl ?_; first | refine j_bsl rfl rfl rfl rfl rfl rfl rfl rfl rfl rfl rfl ?_))
      | refine j_nil ?_
      | (refine r_go ?_; first | refine run_seq ?_ | refine run_region ?_ | (refine (run_if rfl (fun hb => ?_) (fun hb => ?_)) <;> first | (exfalso; omega) | skip) | refine run_block ?_ | refine run_skip ?_ | refine run_cond rfl (fun hb => ?_) (fun hb => ?_))
      | refine seqQ_normal ?_ | refine blockQ_normal ?_)
      · have ha : App s t s.rules[k] := dec_iff.1 (by rw [← hg]; assumption)
        refine j_append 0 (g := Go.AI.encI) [(k : Int)] rfl rfl rfl rfl rfl rfl rfl rfl rfl rfl rfl rfl (fun _ => rfl) (fun _ _ => rfl) ⟨by simp only [List.length_cons, List.length_nil]; omega, by simp only [List.length_cons, List.length_nil]; omega⟩ rfl rfl (fun b' cap' => ?_)
        rw [idxL_yes hk ha]
        repeat' (first
      | (refine j_go ?_; first
        | refine j_op0 rfl rfl rfl rfl ?_ | (refine j_kBin rfl ?_; first | refine j_in rfl rfl ⟨by omega, by omega⟩ rfl rfl ?_))
      | refine j_nil ?_
      | (refine r_go ?_; first | refine run_region ?_)
      | refine seqQ_normal ?_ | refine blockQ_normal ?_)
        exact loopQ_next (k + 1, b', cap') (by dsimp only; omega) (by dsimp only; omega) rfl ⟨rfl, rfl, nx _, trivial⟩
      · have ha : ¬ App s t s.rules[k] := fun q => by
          have := dec_iff.2 q
          rw [← hg] at this
          simp_all
        exact loopQ_next (k + 1, ob, cp) (by dsimp only; omega) (by dsimp only; omega) (by dsimp only; rw [← idxL_no hk ha]) ⟨rfl, (by dsimp only; rw [← idxL_no hk ha]; rfl), nx _, trivial⟩
    · have hke : k = s.rules.length := by omega
      subst hke
      repeat' (first
      | (refine j_go ?_; first
        | refine j_op0 rfl rfl rfl rfl ?_ | (refine j_kLen rfl ?_; first | refine j_len rfl rfl rfl rfl rfl rfl ?_))
      | refine j_nil ?_
      | (refine r_go ?_; first | refine run_seq ?_ | refine run_region ?_ | (refine (run_if rfl (fun hb => ?_) (fun hb => ?_)) <;> first | (exfalso; omega) | skip) | refine run_ret ?_ | refine run_exit ?_)
      | refine seqQ_normal ?_ | refine seqQ_exit ?_ | refine blockQ_eq ?_ | refine loopQ_exit ?_)
      refine end_view (view_freeze (g := Go.AI.encI) (z := 1) (ys := idxL s t s.rules.length) 0 4 rfl rfl rfl (fun _ => rfl) rfl rfl) ?_
      exact end2 rfl rfl (List.Sublist.refl _) rfl (.inl rfl)

end Go.Proofs.Ytkjhciiblpolgaa

/-
  Plain facts: what is a choice stays one when objects are added, where no rule forbids objects and all have one rank. No program in sight.
-/
namespace Go.Proofs.Ytkjhciiblpolgaa
open Go.AI
set_option maxRecDepth 8000

/-- No less, place by place. -/
def Big (a b : List Int) : Prop := a.length = b.length ∧ ∀ i (h : i < a.length) (h2 : i < b.length), a[i] ≤ b[i]
theorem Big.refl (a : List Int) : Big a a := ⟨rfl, fun _ _ _ => Int.le_refl _⟩
theorem Within.big {a b c : List Int} (h : Within a b) (q : Big b c) : Within a c := fun i ha hc => by
  have hb : i < b.length := by have := q.1; omega
  exact Int.le_trans (h i ha hb) (q.2 i hb hc)
theorem Big.plus {a b n : List Int} {m : Int} (q : Big a b) : Big (plusL a n m) (plusL b n m) := by
  have ql := q.1
  unfold plusL
  refine ⟨by rw [List.length_zipWith, List.length_zipWith]; omega, fun i h h2 => ?_⟩
  rw [List.length_zipWith] at h h2
  rw [List.getElem_zipWith, List.getElem_zipWith]
  have := q.2 i (by omega) (by omega)
  omega
/-- A state with more objects. -/
structure More (t u : State) : Prop where
  al : u.alive = t.alive
  n : u.bags.length = t.bags.length
  b : ∀ c, Big (t.bags.getD c []) (u.bags.getD c [])
theorem getD_set {L : List (List Int)} {i : Nat} {v : List Int} {c : Nat} : (L.set i v).getD c [] = if i = c ∧ i < L.length then v else L.getD c [] := by
  rw [List.getD_eq_getElem?_getD, List.getD_eq_getElem?_getD, List.getElem?_set]
  by_cases h : i = c
  · subst h
    by_cases q : i < L.length
    · simp [q]
    · simp [q]
  · simp [h]
theorem restK_more {s : System} {t u : State} (h : More t u) (cs : List Int) : ∀ k c, Big ((restK s t cs k).getD c []) ((restK s u cs k).getD c [])
  | 0, c => h.b c
  | k + 1, c => by
    have ih := restK_more (s := s) h cs k
    rw [restK, restK, getD_set, getD_set, restK_len, restK_len, h.n]
    split
    · exact (ih _).plus
    · exact ih c
theorem pnow_more {s : System} {t u : State} (h : More t u) (c : Int) : pnow s u c = pnow s t c := by unfold pnow; rw [h.al]
theorem EnP.more {s : System} {t u : State} (h : More t u) {r : Rule} (hl : tot r.lack = 0) (q : EnP s t r) : EnP s u r := by
  obtain ⟨q1, q2, q3, q4, q5⟩ := q
  refine ⟨by unfold State.Lives at *; rw [h.al]; exact q1, q2.big (h.b _), q3.big (h.b _), fun z => by omega, fun i hi => ?_⟩
  have := q5 i hi
  unfold IntoNow at *
  rw [pnow_more h]
  exact ⟨by have := this.1; unfold State.Lives at *; rw [h.al]; exact this, this.2⟩
/-- Rules of one rank that forbid nothing. -/
def Easy (s : System) : Prop := ∀ r ∈ s.rules, r.rank = 0 ∧ tot r.lack = 0
theorem App.more {s : System} {t u : State} (h : More t u) (he : Easy s) {r : Rule} (hr : r ∈ s.rules) (q : App s t r) : App s u r :=
  ⟨q.1.more h (he r hr).2, fun x hx _ _ => by rw [(he x hx).1, (he r hr).1]; exact Int.le_refl _⟩
theorem Ch.more {s : System} {t u : State} (h : More t u) (he : Easy s) {cs : List Int} (q : Ch s t cs) : Ch s u cs := by
  refine ⟨fun i h1 h2 h3 => (q.1 i h1 h2 h3).more h he (List.getElem_mem _), fun b hb x hx => ?_⟩
  obtain ⟨c, hc, rfl⟩ := List.getElem_of_mem hb
  obtain ⟨i, hi, rfl⟩ := List.getElem_of_mem hx
  have hc2 : c < (restK s t cs s.rules.length).length := by rw [restK_len] at hc ⊢; rw [← h.n]; exact hc
  have := restK_more (s := s) h cs s.rules.length c
  rw [getD_get hc, getD_get hc2] at this
  have hi2 : i < (restK s t cs s.rules.length)[c].length := by have := this.1; omega
  have h0 := q.2 _ (List.getElem_mem hc2) _ (List.getElem_mem hi2)
  have := this.2 i hi2 hi
  omega
theorem mem_idxL {s : System} {t : State} {k : Nat} {x : Int} : x ∈ idxL s t k ↔ ∃ i : Nat, x = (i : Int) ∧ i < k ∧ ∃ h : i < s.rules.length, App s t s.rules[i] := by
  unfold idxL
  simp only [List.mem_map, List.mem_filter, List.mem_range, dec_iff]
  constructor
  · rintro ⟨i, ⟨h1, h2⟩, rfl⟩; exact ⟨i, rfl, h1, h2⟩
  · rintro ⟨i, rfl, h1, h2⟩; exact ⟨i, ⟨h1, h2⟩, rfl⟩
theorem idxL_more {s : System} {t u : State} (h : More t u) (he : Easy s) {k : Nat} {x : Int} (q : x ∈ idxL s t k) : x ∈ idxL s u k := by
  obtain ⟨i, e, h1, h2, h3⟩ := mem_idxL.1 q
  exact mem_idxL.2 ⟨i, e, h1, h2, h3.more h he (List.getElem_mem _)⟩

/-! #### the system without ranks and without objects that must not be there -/
def easyR (K : Nat) (r : Rule) : Rule := { r with rank := 0, lack := List.replicate K 0 }
def System.easy (s : System) : System := ⟨s.kinds, s.parents, s.rules.map (easyR s.kinds.toNat)⟩
theorem tot_rep : ∀ K : Nat, tot (List.replicate K 0) = 0
  | 0 => rfl
  | K + 1 => by rw [List.replicate_succ]; show (0 : Int) + tot (List.replicate K 0) = 0; rw [tot_rep K]; rfl
theorem System.easy_easy (s : System) : Easy s.easy := fun r hr => by
  obtain ⟨q, _, rfl⟩ := List.mem_map.1 hr
  exact ⟨rfl, tot_rep _⟩
theorem cntR_easy (K : Nat) (c : Int) : ∀ l : List Rule, cntR c (l.map (easyR K)) = cntR c l
  | [] => rfl
  | r :: l => by
    have := cntR_easy K c l
    show one c r.cell + cntR c (l.map (easyR K)) = one c r.cell + cntR c l
    rw [this]
theorem bagK_rep {K : Int} (h : 1 ≤ K ∧ K ≤ 8) : BagK K (List.replicate K.toNat 0) := by
  refine ⟨⟨fun x hx => ?_, by rw [List.length_replicate]; omega, by rw [List.length_replicate]; omega⟩, by rw [List.length_replicate]; omega⟩
  rw [List.eq_of_mem_replicate hx]; omega
theorem System.Ok.easy {s : System} (hv : s.Ok) : s.easy.Ok := by
  have hk := hv.1.1
  refine ⟨hv.1, by show (s.rules.map _).length ≤ 16; rw [List.length_map]; exact hv.2.1, fun i hi => ?_⟩
  have hi2 : i < s.rules.length := by simpa [System.easy] using hi
  obtain ⟨⟨q1, q2, q3, q4, q5, q6, q7, q8⟩, q9⟩ := hv.2.2 i hi2
  have e : s.easy.rules[i] = easyR s.kinds.toNat s.rules[i] := by simp [System.easy]
  rw [e]
  refine ⟨⟨q1, ⟨Int.le_refl _, by show (0 : Int) ≤ 9; omega⟩, q3, q4, q5, q6, bagK_rep hk, q8⟩, ?_⟩
  have : s.easy.rules.take (i + 1) = (s.rules.take (i + 1)).map (easyR s.kinds.toNat) := by simp [System.easy, List.map_take]
  rw [this, cntR_easy]
  exact q9
/-! #### a state to which objects are added -/
theorem big_set {a : List Int} {j : Nat} (h : j < a.length) {m : Int} (hm : 0 ≤ m) : Big a (a.set j (a[j] + m)) := by
  refine ⟨by rw [List.length_set], fun i h1 h2 => ?_⟩
  rw [List.getElem_set]
  split
  · rename_i e; subst e; omega
  · omega
theorem bagK_set {K : Int} {a : List Int} (q : BagK K a) {j : Nat} (h : j < a.length) {m : Int} (hm : 0 ≤ m) (h5 : a[j] + m ≤ 1000) : BagK K (a.set j (a[j] + m)) := by
  refine ⟨⟨fun x hx => ?_, by rw [List.length_set]; exact q.1.2.1, by rw [List.length_set]; exact q.1.2.2⟩, by rw [List.length_set]; exact q.2⟩
  have h0 := (q.1.1 _ (List.getElem_mem h)).1
  rcases List.mem_or_eq_of_mem_set hx with w | w
  · exact q.1.1 x w
  · subst w; omega
theorem more_state {s : System} {t : State} (ht : s.StateOk t) {L : List (List Int)} (hL : L.length = t.bags.length) (hs : ∀ c (h : c < t.bags.length) (h2 : c < L.length), Big t.bags[c] L[c] ∧ s.CellOk t.alive[c]? L[c]) :
    s.StateOk ⟨t.alive, L, t.around⟩ ∧ More t ⟨t.alive, L, t.around⟩ := by
  refine ⟨⟨ht.1, by show L.length = _; rw [hL]; exact ht.2.1, ht.2.2.1, ht.2.2.2.1, fun i hi => (hs i (by dsimp only at hi; omega) hi).2⟩, ⟨rfl, hL, fun c => ?_⟩⟩
  show Big (t.bags.getD c []) (L.getD c [])
  by_cases h : c < t.bags.length
  · rw [getD_get h, getD_get (show c < L.length by omega)]; exact (hs c h (by omega)).1
  · rw [List.getD_eq_getElem?_getD, List.getD_eq_getElem?_getD, List.getElem?_eq_none (by omega), List.getElem?_eq_none (by omega)]; exact Big.refl _
end Go.Proofs.Ytkjhciiblpolgaa

/-
  Choices: IsChoice, IsMaximal of the reference and of the program. No condition.
-/
namespace Go.Proofs.Ytkjhciiblpolgaa
open Go.AI
set_option maxRecDepth 8000
set_option maxHeartbeats 1600000



theorem c_countsCode1 (x : Int) : Gives Try.prog 36 [.int x] (.raw (.bool (dec (¬ (0 ≤ x ∧ x ≤ 1000))))) := by
  refine fn_of_run tyOk ztOk mix Try.func36 rfl (by decide) Try.ntmps36 (fun w0 h => ?_)
  repeat' (first
      | (refine j_go ?_; first
        | refine j_op0 rfl rfl rfl rfl ?_ | (refine j_kCall rfl rfl rfl rfl ?_; first | refine jc (c_inRange _ _ _) (LeL.refl _) rfl rfl ?_))
      | refine j_nil ?_
      | (refine r_go ?_; first | refine run_seq ?_ | refine run_region ?_ | refine run_ret ?_)
      | refine seqQ_normal ?_)
  exact end1 rfl (List.Sublist.refl _) (rbN Iff.rfl) (.inl rfl)
theorem c_countsCode (s : System) (t : State) (cs : List Int) : Gives Try.prog 21 [.agg (encSystem s), .agg (encState t), .sl (cs.map Go.AI.encI)] (.int (cd2 (s.WP t) (Cnts s cs))) := by
  refine fn_of_run tyOk ztOk mix Try.func21 rfl (by decide) Try.ntmps21 (fun w0 h => ?_)
  repeat' (first
      | (refine j_go ?_; first
        | refine j_op0 rfl rfl rfl rfl ?_ | refine j_off rfl rfl rfl ?_ | (refine j_kLen rfl ?_; first | refine j_len rfl rfl rfl rfl rfl rfl ?_) | (refine j_kCall rfl rfl rfl rfl ?_; first | refine jc (c_iValidState _ _) (LeL.refl _) rfl rfl ?_ | refine jc (c_cfI _ _ (fun x => ¬ (0 ≤ x ∧ x ≤ 1000)) _ (fun x _ => c_countsCode1 x)) (LeL.refl _) rfl rfl ?_) | (refine j_kGuard rfl ?_; first | (refine (j_ifn rfl rfl rfl (fun hb => ?_) (fun hb => ?_)) <;> first | (exfalso; omega) | skip)) | refine j_box rfl rfl rfl rfl rfl rfl ?_)
      | refine j_nil ?_
      | (refine r_go ?_; first | refine run_seq ?_ | refine run_region ?_ | refine run_cond_t rfl ?_ | (refine (run_if rfl (fun hb => ?_) (fun hb => ?_)) <;> first | (exfalso; omega) | skip) | (refine (run_ifn rfl (fun hb => ?_) (fun hb => ?_)) <;> first | (exfalso; omega) | skip) | refine run_block ?_ | refine run_ret ?_ | refine run_skip ?_)
      | refine seqQ_normal ?_ | refine seqQ_ret ?_ | refine blockQ_normal ?_ | refine blockQ_ret ?_)
  all_goals first
    | exact end1 rfl (List.Sublist.refl _) (ai (cd2_f (p := s.WP t) (by assumption)).symm) (.inl rfl)
    | skip
  all_goals have hv : s.WP t := by assumption
  all_goals first
    | exact end1 rfl (List.Sublist.refl _) (ai (cd2_t (p := s.WP t) (q := Cnts s cs) hv (fun q => by first | exact absurd q.2 (by assumption) | (obtain ⟨x, hx, r⟩ := ‹∃ x ∈ cs, ¬ (0 ≤ x ∧ x ≤ 1000)›; exact r (q.1 x hx)))).symm) (.inl rfl)
    | exact end1 rfl (List.Sublist.refl _) (ai (cd2_o (p := s.WP t) (q := Cnts s cs) hv ⟨fun x hx => Classical.byContradiction fun r => absurd (show ∃ x ∈ cs, ¬ (0 ≤ x ∧ x ≤ 1000) from ⟨x, hx, r⟩) (by assumption), by assumption⟩).symm) (.inl rfl)
    | trace_state

theorem c_iIsChoice (s : System) (t : State) (cs : List Int) : Gives Try.prog 9 [.agg (encSystem s), .agg (encState t), .sl (cs.map Go.AI.encI)] (.tup [.raw (.bool (dec ((s.WP t ∧ Cnts s cs) ∧ Ch s t cs))), .int (cd2 (s.WP t) (Cnts s cs))]) := by
  refine fn_of_run tyOk ztOk mix Try.func9 rfl (by decide) Try.ntmps9 (fun w0 h => ?_)
  repeat' (first
      | (refine j_go ?_; first
        | refine j_op0 rfl rfl rfl rfl ?_ | (refine j_kCall rfl rfl rfl rfl ?_; first | refine jc (c_countsCode _ _ _) (LeL.refl _) rfl rfl ?_) | refine j_box rfl rfl rfl rfl rfl rfl ?_)
      | refine j_nil ?_
      | (refine r_go ?_; first | refine run_seq ?_ | refine run_region ?_ | (refine (run_ifn rfl (fun hb => ?_) (fun hb => ?_)) <;> first | (exfalso; omega) | skip) | refine run_ret ?_ | refine run_skip ?_)
      | refine seqQ_normal ?_ | refine seqQ_ret ?_)
  · exact end2 rfl rfl (List.Sublist.refl _) (by rw [dec_f (fun q => hb (cd2_z.2 q.1))]; rfl) (.inl rfl)
  · have hz := hb
    have ⟨hv, hc⟩ := cd2_z.1 hb
    repeat' (first
      | (refine j_go ?_; first
        | refine j_op0 rfl rfl rfl rfl ?_ | (refine j_kCall rfl rfl rfl rfl ?_; first | refine jc (c_left _ _ _ hv.1 hv.2 hc) (LeL.refl _) rfl rfl ?_))
      | refine j_nil ?_
      | (refine r_go ?_; first | refine run_seq ?_ | refine run_region ?_ | refine run_ret ?_)
      | refine seqQ_normal ?_)
    exact end2 rfl rfl (List.Sublist.refl _) (by rw [hz, dec_congr (p := (s.WP t ∧ Cnts s cs) ∧ Ch s t cs) (q := Ch s t cs) ⟨fun q => q.2, fun q => ⟨⟨hv, hc⟩, q⟩⟩]; rfl) (.inl rfl)

end Go.Proofs.Ytkjhciiblpolgaa

/-
  Small functions of the laws over systems. No condition.
-/
namespace Go.Proofs.Ytkjhciiblpolgaa
open Go.AI
set_option maxRecDepth 8000
set_option maxHeartbeats 1600000

def a2AtF (l : List UInt8) (k : Nat) (n : Int) : Int := if h : k < l.length ∧ 1 ≤ n then ((l[k].toNat : Nat) : Int) % n else 0
theorem a2AtF_bnd (l : List UInt8) (k : Nat) {n : Int} (hn : 1 ≤ n) : 0 ≤ a2AtF l k n ∧ a2AtF l k n < n := by
  unfold a2AtF
  split
  · exact ⟨Int.emod_nonneg _ (by omega), Int.emod_lt_of_pos _ (by omega)⟩
  · omega
theorem c_a2At (l : List UInt8) (k : Nat) (n : Int) (hn : 1 ≤ n ∧ n ≤ 100) : Gives Try.prog 8 [.sl (l.map encY), .int (k : Int), .int n] (.int (a2AtF l k n)) := by
  refine fn_of_run tyOk ztOk mix Try.func8 rfl (by decide) Try.ntmps8 (fun w0 h => ?_)
  repeat' (first
      | (refine j_go ?_; first
        | refine j_op0 rfl rfl rfl rfl ?_ | refine j_off rfl rfl rfl ?_ | (refine j_kIdx rfl ?_; first | refine j_idx rfl rfl rfl rfl rfl (by omega) rfl rfl rfl ?_) | (refine j_kBin rfl ?_; first | refine j_rem rfl rfl rfl rfl (by omega) rfl rfl ?_) | (refine j_kLen rfl ?_; first | refine j_len rfl rfl rfl rfl rfl rfl ?_) | (refine j_kGuard rfl ?_; first | (refine (j_if rfl rfl rfl (fun hb => ?_) (fun hb => ?_)) <;> first | (exfalso; omega) | skip)))
      | refine j_nil ?_
      | (refine r_go ?_; first | refine run_seq ?_ | refine run_region ?_ | refine run_cond_t rfl ?_ | (refine (run_if rfl (fun hb => ?_) (fun hb => ?_)) <;> first | (exfalso; omega) | skip) | refine run_ret ?_ | refine run_skip ?_)
      | refine seqQ_normal ?_ | refine seqQ_ret ?_)
  · exact end1 rfl (List.Sublist.refl _) (ai (by unfold a2AtF; rw [dif_neg (by omega)])) (.inl rfl)
  · exact end1 rfl (List.Sublist.refl _) (ai (by unfold a2AtF; rw [dif_pos (by omega)])) (.inl rfl)
theorem c_a2Long (a b : List UInt8) : Gives Try.prog 5 [.sl (a.map encY), .sl (b.map encY)] (.raw (.bool (dec (3000 < (a.length : Int) ∨ 3000 < (b.length : Int))))) := by
  refine fn_of_run tyOk ztOk mix Try.func5 rfl (by decide) Try.ntmps5 (fun w0 h => ?_)
  repeat' (first
      | (refine j_go ?_; first
        | refine j_op0 rfl rfl rfl rfl ?_ | refine j_off rfl rfl rfl ?_ | (refine j_kLen rfl ?_; first | refine j_len rfl rfl rfl rfl rfl rfl ?_) | (refine j_kGuard rfl ?_; first | (refine (j_if rfl rfl rfl (fun hb => ?_) (fun hb => ?_)) <;> first | (exfalso; omega) | skip)))
      | refine j_nil ?_
      | (refine r_go ?_; first | refine run_seq ?_ | refine run_region ?_ | refine run_ret ?_)
      | refine seqQ_normal ?_)
  all_goals first
    | exact end1 rfl (by first | exact List.Sublist.refl _ | exact sub1 | exact sub2 | exact sub3) (rbT (.inl (by assumption))) (.inl rfl)
    | exact end1 rfl (List.Sublist.refl _) (rbD ⟨fun q => .inr q, fun q => q.resolve_left (by assumption)⟩) (.inl rfl)
    | trace_state
theorem c_a2Kid (l : List Int) (c : Int) (hn : l.length ≤ 1000000) : Gives Try.prog 12 [.sl (l.map Go.AI.encI), .int c] (.raw (.bool (dec (c ∈ l)))) := by
  refine fn_of_run tyOk ztOk mix Try.func12 rfl (by decide) Try.ntmps12 (fun w0 h => ?_)
  repeat' (first
      | (refine j_go ?_; first
        | refine j_op0 rfl rfl rfl rfl ?_)
      | refine j_nil ?_
      | (refine r_go ?_; first | refine run_seq ?_ | refine run_region ?_ | refine run_block ?_)
      | refine seqQ_normal ?_)
  refine run_loop (fun k : Nat => [(0, .sl (l.map Go.AI.encI)), (1, .int c), (5, .int (k : Int))]) (fun _ => _) (fun k => k ≤ l.length ∧ (∀ i (h : i < l.length), i < k → ¬ l[i] = c)) (fun k => l.length - k) 0 ⟨rfl, rfl, rfl, trivial⟩ rfl ⟨Nat.zero_le _, by first | (intros; omega) | (simp; done) | rfl | trivial | exact ⟨by simp [sumF], by intros; omega⟩ | exact ⟨by omega, by simp⟩⟩ (fun k ⟨kl, kp⟩ => ?_)
  repeat' (first
      | (refine j_go ?_; first
        | refine j_op0 rfl rfl rfl rfl ?_ | (refine j_kIdx rfl ?_; first | refine j_idx rfl rfl rfl rfl rfl (by omega) rfl rfl rfl ?_) | (refine j_kBin rfl ?_; first | refine j_in rfl rfl ⟨by omega, by omega⟩ rfl rfl ?_) | (refine j_kLen rfl ?_; first | refine j_len rfl rfl rfl rfl rfl rfl ?_))
      | refine j_nil ?_
      | (refine r_go ?_; first | refine run_seq ?_ | refine run_region ?_ | (refine (run_if rfl (fun hb => ?_) (fun hb => ?_)) <;> first | (exfalso; omega) | skip) | refine run_block ?_ | refine run_ret ?_ | refine run_exit ?_ | refine run_skip ?_)
      | refine seqQ_normal ?_ | refine seqQ_ret ?_ | refine seqQ_exit ?_ | refine blockQ_normal ?_ | refine blockQ_ret ?_ | refine blockQ_eq ?_ | refine loopQ_ret ?_ | refine loopQ_exit ?_)
  · exact end1 rfl (by first | exact List.Sublist.refl _ | exact sub1 | exact sub2 | exact sub3) (rbT (hb ▸ List.getElem_mem _)) (.inl rfl)
  · exact loopQ_nextD (k + 1) ⟨by omega, all_step kp (fun _ => hb)⟩ (by omega) (by first | exact List.Sublist.refl _ | exact sub1 | exact sub2 | exact sub3) ⟨rfl, rfl, nx _, trivial⟩
  · exact end1 rfl (by first | exact List.Sublist.refl _ | exact sub1 | exact sub2 | exact sub3) (rbF (fun q => by obtain ⟨i, hi, e⟩ := List.getElem_of_mem q; exact kp i hi (by omega) e)) (.inl rfl)
theorem c_iAppF (s : System) (t : State) : Gives Try.prog 10 [.agg (encSystem s), .agg (encState t)] (.tup [.sl ((resApplicableRules s t).map Go.AI.encI), .int (codeApplicableRules s t)]) :=
  (c_iApplicableRules s t).frozen fun v h1 ⟨b, cap, q1, q2⟩ => by rw [q1, q2]; exact FrzF.tup2 (FrzF.flat rfl rfl (fun _ => rfl) rfl rfl) (Clo.int _)
end Go.Proofs.Ytkjhciiblpolgaa
