/-
  Lists of rules and of cells, in memory of the call's own: ApplicableRules, KidsNow. No condition.
-/
import Derived.Test.YtlllmhjpcdcoiaaZS3c
import Derived.Test.YtlllmhjpcdcoiaaZS2d
import Derived.Test.YtlllmhjpcdcoiaaZS5
namespace Go.Proofs.Ytlllmhjpcdcoiaa
open Go.AI
set_option maxRecDepth 8000
set_option maxHeartbeats 1600000

theorem o_applicable (s : System) (t : State) (hv : s.Ok) (ht : s.StateOk t) : Does Try.prog 28 [.agg (encSystem s), .agg (encState t)] [] (fun v h' => ∃ b cap, v = .os b (idxL s t s.rules.length).length cap ∧ h' = [⟨b, 2, cap * 1, ((idxL s t s.rules.length).map Go.AI.encI).flatten⟩]) := by
  refine fn_of_runD tyOk ztOk mix Try.func28 rfl (by decide) Try.ntmps28 (fun w0 F => ?_)
  change Run _ _ _ _ _ F
  have hl := hv.1.2.1
  have h16 := hv.2.1
  repeat' (first
      | (refine j_go ?_; first
        | refine j_op0 rfl rfl rfl rfl ?_ | (refine j_kStore rfl ?_; first | refine j_storeN 0 rfl rfl rfl rfl rfl rfl rfl rfl rfl rfl rfl ?_) | refine j_box rfl rfl rfl rfl rfl rfl ?_ | refine j_buildA rfl rfl rfl rfl rfl rfl rfl ?_ | refine j_alloc rfl rfl rfl rfl rfl (fun _ => ?_))
      | refine j_nil ?_
      | (refine r_go ?_; first | refine run_seq ?_ | refine run_region ?_ | refine run_block ?_)
      | refine seqQ_normal ?_)
  rename_i b
  refine run_loop (fun k : Nat => [(2, .ip (encSystem s)), (3, .ip (encState t)), (5, .op (some b) 0), (13, .int (k : Int))]) (fun k => ⟨some b, 79, 6, ((List.replicate k (-1) ++ List.replicate (6 - k) 0).map Go.AI.encI).flatten⟩ :: F)
    (fun k => k ≤ 6) (fun k => 6 - k) 0 ⟨rfl, rfl, rfl, rfl, trivial⟩ rfl (by omega) (fun k kl => ?_)
  by_cases hk : k < 6
  · repeat' (first
      | (refine j_go ?_; first
        | refine j_op0 rfl rfl rfl rfl ?_ | (refine j_kIdx rfl ?_; first | refine j_aidx rfl rfl rfl rfl rfl (by omega) rfl rfl ?_))
      | refine j_nil ?_
      | (refine r_go ?_; first | refine run_seq ?_ | refine run_region ?_ | (refine (run_if rfl (fun hb => ?_) (fun hb => ?_)) <;> first | (exfalso; omega) | skip) | refine run_block ?_ | refine run_skip ?_)
      | refine seqQ_normal ?_)
    refine j_storeE 0 k (g := Go.AI.encI) (-1) rfl rfl rfl rfl rfl rfl rfl rfl rfl (fun _ => rfl) (by omega) (by simp; omega) ?_
    rw [rep_set hk]
    repeat' (first
      | (refine j_go ?_; first
        | refine j_op0 rfl rfl rfl rfl ?_ | (refine j_kBin rfl ?_; first | refine j_in rfl rfl ⟨by omega, by omega⟩ rfl rfl ?_))
      | refine j_nil ?_
      | (refine r_go ?_; first | refine run_region ?_)
      | refine seqQ_normal ?_ | refine blockQ_normal ?_)
    exact loopQ_next (k + 1) (by omega) (by omega) rfl ⟨rfl, rfl, rfl, nx _, trivial⟩
  have hk6 : k = 6 := by omega
  subst hk6
  repeat' (first
      | (refine j_go ?_; first
        | refine j_op0 rfl rfl rfl rfl ?_ | (refine j_kLen rfl ?_; first | refine j_len rfl rfl rfl rfl rfl rfl ?_))
      | refine j_nil ?_
      | (refine r_go ?_; first | refine run_seq ?_ | refine run_region ?_ | (refine (run_if rfl (fun hb => ?_) (fun hb => ?_)) <;> first | (exfalso; omega) | skip) | refine run_block ?_ | refine run_exit ?_)
      | refine seqQ_normal ?_ | refine seqQ_exit ?_ | refine blockQ_eq ?_ | refine loopQ_exit ?_)
  refine run_loop (fun k : Nat => [(2, .ip (encSystem s)), (3, .ip (encState t)), (5, .op (some b) 0), (20, .sl (s.rules.map encRule)), (21, .int s.rules.length), (22, .int (k : Int))]) (fun k => ⟨some b, 79, 6, ((bstL 6 (-1) (EnP s t) (s.rules.take k)).map Go.AI.encI).flatten⟩ :: F)
    (fun k => k ≤ s.rules.length) (fun k => s.rules.length - k) 0 ⟨rfl, rfl, rfl, rfl, rfl, rfl, trivial⟩ (by rw [List.take_zero, bstL_nil]; rfl) (by omega) (fun k kl => ?_)
  by_cases hk : k < s.rules.length
  · have hr := (hv.2.2 k hk).1
    have hc := hr.1
    have hcm : s.rules[k].cell = ((s.rules[k].cell.toNat : Nat) : Int) := by omega
    have hg : (bstL 6 (-1) (EnP s t) (s.rules.take k))[s.rules[k].cell.toNat]'(by rw [bstL_len]; omega) = bst (-1) (EnP s t) ((s.rules[k].cell.toNat : Nat) : Int) (s.rules.take k) := bstL_get _
    repeat' (first
      | (refine j_go ?_; first
        | refine j_op0 rfl rfl rfl rfl ?_ | (refine j_kIdx rfl ?_; first | refine j_idx rfl rfl rfl rfl rfl (by omega) rfl rfl rfl ?_) | (refine j_kBin rfl ?_; first | refine j_in rfl rfl ⟨by omega, by omega⟩ rfl rfl ?_) | (refine j_kCall rfl rfl rfl rfl ?_; first | refine jc (c_isEnabled _ _ _ hv ht hr) (LeL.refl _) rfl rfl ?_) | (refine j_kLoad rfl ?_; first | refine j_mload 0 rfl rfl rfl rfl rfl rfl rfl ?_) | (refine j_kStore rfl ?_; first | refine j_storeN 0 rfl rfl rfl rfl rfl rfl rfl rfl rfl rfl rfl ?_) | refine j_alloc rfl rfl rfl rfl rfl (fun _ => ?_))
      | refine j_nil ?_
      | (refine j_goO ?_; first
        | refine j_op0O rfl rfl rfl rfl ?_ | (refine j_kIdxO rfl ?_; first | refine j_aidxzO rfl rfl rfl rfl rfl (by omega) rfl rfl ?_) | (refine j_kLoadO rfl ?_; first | refine j_mloadO 0 rfl rfl rfl rfl rfl rfl rfl rfl ?_))
      | (refine r_go ?_; first | refine run_seq ?_ | refine run_region ?_ | (refine (run_if rfl (fun hb => ?_) (fun hb => ?_)) <;> first | (exfalso; omega) | skip) | refine run_block ?_ | refine run_skip ?_ | refine run_opn 11 [⟨0, true, false, 0⟩, ⟨1, true, false, 0⟩, ⟨2, true, false, 0⟩, ⟨3, true, false, 0⟩, ⟨4, true, false, 0⟩, ⟨5, true, false, 0⟩, ⟨6, true, false, 0⟩, ⟨7, true, false, 0⟩, ⟨8, true, false, 0⟩, ⟨9, true, false, 0⟩, ⟨10, false, true, 0⟩] rfl rfl (by kernel_rfl) ?_)
      | refine seqQ_normal ?_ | refine blockQ_normal ?_)
    · refine j_mloadEO 1 s.rules[k].cell.toNat (g := Go.AI.encI) (L := bstL 6 (-1) (EnP s t) (s.rules.take k)) (z := 1) rfl rfl rfl rfl rfl (fun _ => rfl) (by omega) (by rw [bstL_len]; omega) (fun _ => rfl) rfl rfl ?_
      rw [hg]
      repeat' (first
      | (refine j_goO ?_; first
        | refine j_op0O rfl rfl rfl rfl ?_ | (refine j_kIdxO rfl ?_; first | refine j_aidxzO rfl rfl rfl rfl rfl (by omega) rfl rfl ?_) | (refine j_kLoadO rfl ?_; first | refine j_mloadO 0 rfl rfl rfl rfl rfl rfl rfl rfl ?_)))
      refine j_storeEO 1 s.rules[k].cell.toNat (g := Go.AI.encI) (max (bst (-1) (EnP s t) ((s.rules[k].cell.toNat : Nat) : Int) (s.rules.take k)) s.rules[k].rank) rfl rfl rfl rfl rfl rfl rfl rfl rfl rfl (fun _ => rfl) (by omega) (by rw [bstL_len]; omega) (fun _ hk => nomatch hk) ?_
      rw [bstL_set hk hcm (by omega) (by assumption) rfl]
      repeat' (first
      | (refine j_go ?_; first
        | refine j_op0 rfl rfl rfl rfl ?_ | (refine j_kBin rfl ?_; first | refine j_in rfl rfl ⟨by omega, by omega⟩ rfl rfl ?_))
      | refine j_nil ?_
      | refine j_nilO ?_
      | (refine r_go ?_; first | refine run_region ?_)
      | refine seqQ_normal ?_ | refine blockQ_normal ?_)
      exact loopQ_nextD (k + 1) (by omega) (by omega) (List.sublist_cons_self _ _) ⟨rfl, rfl, rfl, rfl, rfl, nx _, trivial⟩
    · exact loopQ_nextD (k + 1) (by omega) (by omega) (by rw [bstL_skip hk (by assumption)]; exact List.sublist_cons_self _ _) ⟨rfl, rfl, rfl, rfl, rfl, nx _, trivial⟩
  have hke : k = s.rules.length := by omega
  subst hke
  repeat' (first
      | (refine j_go ?_; first
        | refine j_op0 rfl rfl rfl rfl ?_ | (refine j_kLen rfl ?_; first | refine j_len rfl rfl rfl rfl rfl rfl ?_) | (refine j_kBsl rfl ?_; first | refine j_bs0 rfl rfl rfl rfl rfl rfl ?_))
      | refine j_nil ?_
      | (refine r_go ?_; first | refine run_seq ?_ | refine run_region ?_ | (refine (run_if rfl (fun hb => ?_) (fun hb => ?_)) <;> first | (exfalso; omega) | skip) | refine run_block ?_ | refine run_exit ?_)
      | refine seqQ_normal ?_ | refine seqQ_exit ?_ | refine blockQ_eq ?_ | refine loopQ_exit ?_)
  refine run_view (view_none 2 0 rfl) ?_
  refine run_loop (fun x : Nat × Option Nat × Nat => [(2, .ip (encSystem s)), (3, .ip (encState t)), (5, .op (some b) 0), (43, .sl (s.rules.map encRule)), (44, .int s.rules.length), (9, .os x.2.1 (idxL s t x.1).length x.2.2), (45, .int (x.1 : Int))]) (fun x => ⟨x.2.1, 2, x.2.2 * 1, ((idxL s t x.1).map Go.AI.encI).flatten⟩ :: ⟨some b, 79, 6, ((bstL 6 (-1) (EnP s t) (s.rules.take s.rules.length)).map Go.AI.encI).flatten⟩ :: F)
    (fun x => x.1 ≤ s.rules.length) (fun x => s.rules.length - x.1) (0, none, 0) ⟨rfl, rfl, rfl, rfl, rfl, rfl, rfl, trivial⟩ rfl (Nat.zero_le _) (fun ⟨k, ob, cp⟩ kl => ?_)
  dsimp only at kl ⊢
  have il := idxL_len s t k
  by_cases hk : k < s.rules.length
  · have hr := (hv.2.2 k hk).1
    have hc := hr.1
    have hcm : s.rules[k].cell = ((s.rules[k].cell.toNat : Nat) : Int) := by omega
    have hg : (bstL 6 (-1) (EnP s t) (s.rules.take s.rules.length))[s.rules[k].cell.toNat]'(by rw [bstL_len]; omega) = bst (-1) (EnP s t) s.rules[k].cell s.rules := by rw [bstL_get, ← hcm, List.take_length]
    have hm : s.rules[k] ∈ s.rules := List.getElem_mem hk
    repeat' (first
      | (refine j_go ?_; first
        | refine j_op0 rfl rfl rfl rfl ?_ | (refine j_kIdx rfl ?_; first | refine j_idx rfl rfl rfl rfl rfl (by omega) rfl rfl rfl ?_ | refine j_aidxz rfl rfl rfl rfl rfl (by omega) rfl rfl ?_) | (refine j_kLoad rfl ?_; first | refine j_mload 0 rfl rfl rfl rfl rfl rfl rfl ?_) | (refine j_kStore rfl ?_; first | refine j_storeN 0 rfl rfl rfl rfl rfl rfl rfl rfl rfl rfl rfl ?_) | refine j_alloc rfl rfl rfl rfl rfl (fun _ => ?_))
      | refine j_nil ?_
      | (refine r_go ?_; first | refine run_seq ?_ | refine run_region ?_ | (refine (run_if rfl (fun hb => ?_) (fun hb => ?_)) <;> first | (exfalso; omega) | skip) | refine run_block ?_ | refine run_skip ?_ | refine run_regionD (by kernel_rfl) ?_)
      | refine seqQ_normal ?_)
    refine j_mloadE 2 s.rules[k].cell.toNat (g := Go.AI.encI) (L := bstL 6 (-1) (EnP s t) (s.rules.take s.rules.length)) (z := 1) rfl rfl rfl rfl (fun _ => rfl) (by omega) (by rw [bstL_len]; omega) (fun _ => rfl) rfl rfl ?_
    rw [hg]
    repeat' (first
      | (refine j_go ?_; first
        | refine j_op0 rfl rfl rfl rfl ?_ | refine j_off rfl rfl rfl ?_ | (refine j_kBin rfl ?_; first | refine j_in rfl rfl ⟨by omega, by omega⟩ rfl rfl ?_) | (refine j_kCall rfl rfl rfl rfl ?_; first | refine jc (c_isEnabled _ _ _ hv ht hr) (LeL.refl _) rfl rfl ?_) | (refine j_kLoad rfl ?_; first | refine j_mload 0 rfl rfl rfl rfl rfl rfl rfl ?_) | (refine j_kBsl rfl ?_; first | refine j_bsl rfl rfl rfl rfl rfl rfl rfl rfl rfl rfl rfl ?_) | (refine j_kGuard rfl ?_; first | (refine (j_if rfl rfl rfl (fun hb => ?_) (fun hb => ?_)) <;> first | (exfalso; omega) | skip)))
      | refine j_nil ?_
      | (refine r_go ?_; first | refine run_region ?_ | refine run_cond_f rfl ?_ | (refine (run_if rfl (fun hb => ?_) (fun hb => ?_)) <;> first | (exfalso; omega) | skip) | refine run_skip ?_)
      | refine seqQ_normal ?_ | refine blockQ_normal ?_)
    · have ha : App s t s.rules[k] := (app_iff (init := -1) (by omega) hv.ranks hm (by assumption)).1 (by assumption)
      refine j_append 1 (g := Go.AI.encI) [(k : Int)] rfl rfl rfl rfl rfl rfl rfl rfl rfl rfl rfl rfl (fun _ => rfl) (fun _ _ => rfl) ⟨by simp only [List.length_cons, List.length_nil]; omega, by simp only [List.length_cons, List.length_nil]; omega⟩ rfl rfl (fun b' cap' => ?_)
      rw [idxL_yes hk ha]
      repeat' (first
      | (refine j_go ?_; first
        | refine j_op0 rfl rfl rfl rfl ?_ | (refine j_kBin rfl ?_; first | refine j_in rfl rfl ⟨by omega, by omega⟩ rfl rfl ?_))
      | refine j_nil ?_
      | (refine r_go ?_; first | refine run_region ?_)
      | refine seqQ_normal ?_ | refine blockQ_normal ?_)
      exact loopQ_nextD (k + 1, b', cap') (by dsimp only; omega) (by dsimp only; omega) (List.sublist_cons_self _ _) ⟨rfl, rfl, rfl, rfl, rfl, rfl, nx _, trivial⟩
    all_goals
      have ha : ¬ App s t s.rules[k] := by first | exact (fun q => absurd q.1 (by assumption)) | exact (fun q => absurd ((app_iff (init := -1) (by omega) hv.ranks hm q.1).2 q) (by assumption))
      exact loopQ_nextD (k + 1, ob, cp) (by dsimp only; omega) (by dsimp only; omega) (by dsimp only; rw [← idxL_no hk ha]; exact List.sublist_cons_self _ _) ⟨rfl, rfl, rfl, rfl, rfl, (by dsimp only; rw [← idxL_no hk ha]; rfl), nx _, trivial⟩
  · have hke : k = s.rules.length := by omega
    subst hke
    repeat' (first
      | (refine j_go ?_; first
        | refine j_op0 rfl rfl rfl rfl ?_)
      | refine j_nil ?_
      | (refine r_go ?_; first | refine run_seq ?_ | refine run_region ?_ | (refine (run_if rfl (fun hb => ?_) (fun hb => ?_)) <;> first | (exfalso; omega) | skip) | refine run_ret ?_ | refine run_exit ?_)
      | refine seqQ_normal ?_ | refine seqQ_exit ?_ | refine blockQ_eq ?_ | refine loopQ_exit ?_)
    refine endD_view (view_erase 1) ?_
    exact endD_ret (h1 := [_]) rfl (.cons (.tmp rfl) .nil) (Le.refl _) ⟨_, _, rfl, rfl⟩ (.inl rfl)

noncomputable def resApplicableRules (s : System) (t : State) : List Int := lsP (s.Ok ∧ s.StateOk t) (idxL s t s.rules.length)
noncomputable def codeApplicableRules (s : System) (t : State) : Int := cdP (s.Ok ∧ s.StateOk t)
theorem len_ApplicableRules (s : System) (t : State) : (resApplicableRules s t).length ≤ 1000000 := ls_len fun q => by
  have := idxL_len s t s.rules.length
  have := q.1.2.1
  omega
theorem c_iApplicableRules (s : System) (t : State) : Does Try.prog 9 [.agg (encSystem s), .agg (encState t)] [] (OwnI (resApplicableRules s t) (codeApplicableRules s t)) := by
  refine fn_of_runD tyOk ztOk mix Try.func9 rfl (by decide) Try.ntmps9 (fun w0 F => ?_)
  change Run _ _ _ _ _ F
  unfold resApplicableRules codeApplicableRules
  repeat' (first
      | (refine j_go ?_; first
        | refine j_op0 rfl rfl rfl rfl ?_ | (refine j_kCall rfl rfl rfl rfl ?_; first | refine jc (c_iValidState _ _) (LeL.refl _) rfl rfl ?_) | refine j_box rfl rfl rfl rfl rfl rfl ?_)
      | refine j_nil ?_
      | (refine r_go ?_; first | refine run_seq ?_ | refine run_region ?_ | (refine (run_ifn rfl (fun hb => ?_) (fun hb => ?_)) <;> first | (exfalso; omega) | skip) | refine run_ret ?_ | refine run_skip ?_)
      | refine seqQ_normal ?_ | refine seqQ_ret ?_)
  · rw [ls_f hb, cd_f hb]
    exact endD_view (view_none 2 0 rfl) (endD_ret (h1 := [_]) rfl (.cons (.tmp rfl) (.cons (.tmp rfl) .nil)) (Le.refl _) ⟨none, 0, rfl, rfl⟩ (.inl rfl))
  · have hv := hb
    rw [ls_t hv, cd_t hv]
    skip
    refine j_kCall rfl rfl rfl rfl ?_
    refine jcp _ (o_applicable s t hv.1 hv.2) (List.Perm.refl _) (LeL.refl _) rfl rfl (fun v h1 hR => ?_)
    obtain ⟨b, cap, rfl, rfl⟩ := hR
    repeat' (first
      | (refine j_go ?_; first
        | refine j_op0 rfl rfl rfl rfl ?_)
      | refine j_nil ?_
      | (refine r_go ?_; first | refine run_ret ?_)
      | refine seqQ_normal ?_)
    exact endD_ret (h1 := [_]) rfl (.cons (.tmp rfl) (.cons (.tmp rfl) .nil)) (Le.refl _) ⟨b, cap, rfl, rfl⟩ (.inl rfl)

theorem c_sApplicableRules (s : System) (t : State) : Gives Try.prog 6 [.agg (encSystem s), .agg (encState t)] (.tup [.sl ((resApplicableRules s t).map Go.AI.encI), .int (codeApplicableRules s t)]) := by
  refine fn_of_run tyOk ztOk mix Try.func6 rfl (by decide) Try.ntmps6 (fun w0 h => ?_)
  unfold resApplicableRules codeApplicableRules
  repeat' (first
      | (refine j_go ?_; first
        | refine j_op0 rfl rfl rfl rfl ?_ | (refine j_kCall rfl rfl rfl rfl ?_; first | refine jc (c_l03Both _ _) (LeL.refl _) rfl rfl ?_) | (refine j_kBsl rfl ?_; first | refine j_bs0 rfl rfl rfl rfl rfl rfl ?_) | refine j_box rfl rfl rfl rfl rfl rfl ?_)
      | refine j_nil ?_
      | (refine r_go ?_; first | refine run_seq ?_ | refine run_region ?_ | (refine (run_ifn rfl (fun hb => ?_) (fun hb => ?_)) <;> first | (exfalso; omega) | skip) | refine run_ret ?_ | refine run_skip ?_)
      | refine seqQ_normal ?_ | refine seqQ_ret ?_)
  · exact end_le (List.Sublist.refl _) (.cons (.tmp rfl) (.cons (.tmp rfl) .nil)) (by rw [ls_f hb, cd_f hb]; exact Le.tup (LeL.cons (Le.nil _) (LeL.refl _))) (.inl rfl)
  · have hv := hb
    have h16 := hv.1.2.1
    rw [ls_t hv, cd_t hv]
    repeat' (first
      | (refine j_go ?_; first
        | refine j_op0 rfl rfl rfl rfl ?_ | (refine j_kCall rfl rfl rfl rfl ?_; first | refine jc (c_l03Applicable _ _ hv.1 hv.2) (LeL.refl _) rfl rfl ?_))
      | refine j_nil ?_
      | (refine r_go ?_; first | refine run_seq ?_ | refine run_region ?_ | refine run_block ?_)
      | refine seqQ_normal ?_)
    refine run_view (view_none 2 0 rfl) ?_
    refine run_loop (fun x : Nat × Option Nat × Nat => [(7, .sl ((appL s t).map encB)), (6, .os x.2.1 (idxL s t x.1).length x.2.2), (8, .int (x.1 : Int))]) (fun x => ⟨x.2.1, 2, x.2.2 * 1, ((idxL s t x.1).map Go.AI.encI).flatten⟩ :: h)
      (fun x => x.1 ≤ s.rules.length) (fun x => s.rules.length - x.1) (0, none, 0) ⟨rfl, rfl, rfl, trivial⟩ rfl (Nat.zero_le _) (fun ⟨k, ob, cp⟩ kl => ?_)
    dsimp only at kl ⊢
    have il := idxL_len s t k
    have al := appL_len s t
    by_cases hk : k < s.rules.length
    · have hg := appL_get (s := s) (t := t) (k := k) (by omega)
      repeat' (first
      | (refine j_go ?_; first
        | refine j_op0 rfl rfl rfl rfl ?_ | (refine j_kIdx rfl ?_; first | refine j_idx rfl rfl rfl rfl rfl (by omega) rfl rfl rfl ?_) | (refine j_kBin rfl ?_; first | refine j_in rfl rfl ⟨by omega, by omega⟩ rfl rfl ?_) | (refine j_kLen rfl ?_; first | refine j_len rfl rfl rfl rfl rfl rfl ?_) | (refine j_kBsl rfl ?_; first | refine j_bsl rfl rfl rfl rfl rfl rfl rfl rfl rfl rfl rfl ?_))
      | refine j_nil ?_
      | (refine r_go ?_; first | refine run_seq ?_ | refine run_region ?_ | (refine (run_if rfl (fun hb => ?_) (fun hb => ?_)) <;> first | (exfalso; omega) | skip) | refine run_block ?_ | refine run_skip ?_ | refine run_cond rfl (fun hb => ?_) (fun hb => ?_))
      | refine seqQ_normal ?_ | refine blockQ_normal ?_)
      · have ha : App s t s.rules[k] := dec_iff.1 (by rw [← hg]; assumption)
        refine j_append 0 (g := Go.AI.encI) [(k : Int)] rfl rfl rfl rfl rfl rfl rfl rfl rfl rfl rfl rfl (fun _ => rfl) (fun _ _ => rfl) ⟨by simp only [List.length_cons, List.length_nil]; omega, by simp only [List.length_cons, List.length_nil]; omega⟩ rfl rfl (fun b' cap' => ?_)
        rw [idxL_yes hk ha]
        repeat' (first
      | (refine j_go ?_; first
        | refine j_op0 rfl rfl rfl rfl ?_ | (refine j_kBin rfl ?_; first | refine j_in rfl rfl ⟨by omega, by omega⟩ rfl rfl ?_))
      | refine j_nil ?_
      | (refine r_go ?_; first | refine run_region ?_)
      | refine seqQ_normal ?_ | refine blockQ_normal ?_)
        exact loopQ_next (k + 1, b', cap') (by dsimp only; omega) (by dsimp only; omega) rfl ⟨rfl, rfl, nx _, trivial⟩
      · have ha : ¬ App s t s.rules[k] := fun q => by
          have := dec_iff.2 q
          rw [← hg] at this
          simp_all
        exact loopQ_next (k + 1, ob, cp) (by dsimp only; omega) (by dsimp only; omega) (by dsimp only; rw [← idxL_no hk ha]) ⟨rfl, (by dsimp only; rw [← idxL_no hk ha]; rfl), nx _, trivial⟩
    · have hke : k = s.rules.length := by omega
      subst hke
      repeat' (first
      | (refine j_go ?_; first
        | refine j_op0 rfl rfl rfl rfl ?_ | (refine j_kLen rfl ?_; first | refine j_len rfl rfl rfl rfl rfl rfl ?_))
      | refine j_nil ?_
      | (refine r_go ?_; first | refine run_seq ?_ | refine run_region ?_ | (refine (run_if rfl (fun hb => ?_) (fun hb => ?_)) <;> first | (exfalso; omega) | skip) | refine run_ret ?_ | refine run_exit ?_)
      | refine seqQ_normal ?_ | refine seqQ_exit ?_ | refine blockQ_eq ?_ | refine loopQ_exit ?_)
      refine end_view (view_freeze (g := Go.AI.encI) (z := 1) (ys := idxL s t s.rules.length) 0 4 rfl rfl rfl (fun _ => rfl) rfl rfl) ?_
      exact end2 rfl rfl (List.Sublist.refl _) rfl (.inl rfl)

end Go.Proofs.Ytlllmhjpcdcoiaa
