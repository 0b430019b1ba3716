/-
  The law FnDivStep answers true whatever it reads. No condition.
-/
import Derived.Test.YtbhiaccbpbnbmaaGreatZMY
import Derived.Test.YtbhiaccbpbnbmaaGreatZE5
import Derived.Test.YtbhiaccbpbnbmaaGreatZW7
import Derived.Test.YtbhiaccbpbnbmaaGreatZW8
import Derived.Test.YtbhiaccbpbnbmaaGreatZRY
import Derived.Test.YtbhiaccbpbnbmaaGreatZS3a
namespace Go.Proofs.YtbhiaccbpbnbmaaGreat
open Go.AI
set_option maxRecDepth 8000
set_option maxHeartbeats 3200000

theorem c_f6bigS (l : List UInt8) : Gives Tryz.prog 5 [.sl (l.map encY)] (.raw (.bool (dec (4096 < (l.length : Int))))) := by
  refine fn_of_run tyOk ztOk mix Tryz.func5 rfl (by decide) Tryz.ntmps5 (fun w0 h => ?_)
  repeat' (first
      | (refine j_go ?_; first
        | refine j_op0 rfl rfl rfl rfl ?_ | (refine j_kLen rfl ?_; first | refine j_len rfl rfl rfl rfl rfl rfl ?_))
      | refine j_nil ?_
      | (refine r_go ?_; first | refine run_seq ?_ | refine run_region ?_ | refine run_ret ?_)
      | refine seqQ_normal ?_)
  exact end1 rfl (List.Sublist.refl _) (rfl) (.inl rfl)
theorem raw_iff {b : Bool} {p : Prop} (q : b = true ↔ p) : some (A.raw (.bool b)) = some (A.raw (.bool (dec p))) := by
  cases b with
  | true => rw [dec_t (q.1 rfl)]
  | false => rw [dec_f fun z => absurd (q.2 z) (by decide)]
/-- A rule of a kind is among the first k. -/
def HasK (d : Division) (v : Int) (k : Nat) : Prop := ∃ i, ∃ h : i < d.rules.length, i < k ∧ d.rules[i].kind = v
theorem hasK_zero {d : Division} {v : Int} : ¬ HasK d v 0 := fun ⟨_, _, h, _⟩ => absurd h (Nat.not_lt_zero _)
theorem hasK_old {d : Division} {v : Int} {k : Nat} (h : HasK d v k) : HasK d v (k + 1) := by
  obtain ⟨i, h1, h2, h3⟩ := h
  exact ⟨i, h1, by omega, h3⟩
theorem hasK_new {d : Division} {v : Int} {k : Nat} (hk : k < d.rules.length) (h : ¬ HasK d v k) : HasK d v (k + 1) ↔ d.rules[k].kind = v := by
  constructor
  · rintro ⟨i, h1, h2, h3⟩
    by_cases e : i = k
    · subst e; exact h3
    · exact absurd ⟨i, h1, by omega, h3⟩ h
  · exact fun q => ⟨k, hk, by omega, q⟩
theorem hasK_no {d : Division} {v : Int} (h : ¬ HasK d v d.rules.length) : ∀ r ∈ d.rules, r.kind ≠ v := fun r hr q => by
  obtain ⟨i, hi, rfl⟩ := List.getElem_of_mem hr
  exact h ⟨i, hi, hi, q⟩
theorem c_FnDivStep (a0 a1 : List UInt8) : Gives Tryz.prog 3 [.sl (a0.map encY), .sl (a1.map encY)] (.raw (.bool true)) := by
  refine fn_of_run tyOk ztOk mix Tryz.func3 rfl (by decide) Tryz.ntmps3 (fun w0 h => ?_)
  repeat' (first
      | (refine j_go ?_; first
        | refine j_op0 rfl rfl rfl rfl ?_ | refine j_off rfl rfl rfl ?_ | (refine j_kCall rfl rfl rfl rfl ?_; first | refine jc (c_f6bigS _) (LeL.refl _) rfl rfl ?_) | (refine j_kGuard rfl ?_; first | (refine (j_if rfl rfl rfl (fun hb => ?_) (fun hb => ?_)) <;> first | (exfalso; omega) | skip)))
      | refine j_nil ?_
      | (refine r_go ?_; first | refine run_seq ?_ | refine run_region ?_ | refine run_cond_t rfl ?_ | (refine (run_if rfl (fun hb => ?_) (fun hb => ?_)) <;> first | (exfalso; omega) | skip) | refine run_ret ?_ | refine run_skip ?_)
      | refine seqQ_normal ?_ | refine seqQ_ret ?_)
  · exact end1 rfl (List.Sublist.refl _) (rfl) (.inl rfl)
  · exact end1 rfl (List.Sublist.refl _) (rfl) (.inl rfl)
  refine j_kCall rfl rfl rfl rfl ?_
  refine jcp _ (o_P6Division a0) (List.Perm.refl _) (LeL.refl _) rfl rfl (fun v h1 hR => ?_)
  obtain ⟨d, c, rfl, hds, hsk4, hc, rfl⟩ := hR
  have hv := hds.1
  have r120 := hv.2.1
  repeat' (first
      | (refine j_go ?_; first
        | refine j_op0 rfl rfl rfl rfl ?_ | (refine j_kLoad rfl ?_; first | refine j_mload 0 rfl rfl rfl rfl rfl rfl rfl ?_ | refine j_mload 1 rfl rfl rfl rfl rfl rfl rfl ?_) | (refine j_kStore rfl ?_; first | refine j_storeN 0 rfl rfl rfl rfl rfl rfl rfl rfl rfl rfl rfl ?_ | refine j_storeN 1 rfl rfl rfl rfl rfl rfl rfl rfl rfl rfl rfl ?_) | refine j_alloc rfl rfl rfl rfl rfl (fun _ => ?_))
      | refine j_nil ?_
      | (refine r_go ?_; first | refine run_seq ?_ | refine run_region ?_)
      | refine seqQ_normal ?_)
  refine j_view (view_freezeP 0 6 rfl rfl) ?_
  refine j_view (view_freezeP 0 5 rfl rfl) ?_
  have cS1 := c_iStepColony d c hv hc
  have cS2 := c_sStepColony d c hv hc
  have cE := c_sSameColony (resStep d c) (resStep d c)
  rw [dec_t rfl] at cE
  by_cases hok : (stpC d c).Ok d.objects
  case neg =>
    rw [(rs_f hok).1, (rs_f hok).2] at cS1 cS2
    rw [(rs_f hok).1] at cE
    repeat' (first
      | (refine j_go ?_; first
        | refine j_op0 rfl rfl rfl rfl ?_ | (refine j_kCall rfl rfl rfl rfl ?_; first | refine jc (cS1) (LeL.refl _) rfl rfl ?_ | refine jc (cS2) (LeL.refl _) rfl rfl ?_ | refine jc (cE) (LeL.refl _) rfl rfl ?_) | (refine j_kLoad rfl ?_; first | refine j_mload 0 rfl rfl rfl rfl rfl rfl rfl ?_ | refine j_mload 1 rfl rfl rfl rfl rfl rfl rfl ?_) | (refine j_kStore rfl ?_; first | refine j_storeN 0 rfl rfl rfl rfl rfl rfl rfl rfl rfl rfl rfl ?_) | (refine j_kGuard rfl ?_; first | (refine (j_ifn rfl rfl rfl (fun hb => ?_) (fun hb => ?_)) <;> first | (exfalso; omega) | skip)) | refine j_alloc rfl rfl rfl rfl rfl (fun _ => ?_))
      | refine j_nil ?_
      | (refine r_go ?_; first | refine run_seq ?_ | refine run_region ?_ | refine run_cond_f rfl ?_ | (refine (run_ifn rfl (fun hb => ?_) (fun hb => ?_)) <;> first | (exfalso; omega) | skip) | refine run_ret ?_ | refine run_skip ?_)
      | refine seqQ_normal ?_ | refine seqQ_ret ?_)
    exact end1 rfl (by repeat' first | exact List.Sublist.refl _ | refine List.Sublist.cons _ ?_) (by rw [dec_t rfl]) (.inl rfl)
  rw [(rs_t hok).1, (rs_t hok).2] at cS1 cS2
  rw [(rs_t hok).1] at cE
  have cC := c_iCountCells d c
  rw [num_t ⟨hv, hc⟩, cd2_o hv hc] at cC
  have cM := c_iCountCells d (stpC d c)
  rw [num_t ⟨hv, hok⟩, cd2_o hv hok] at cM
  have sc := stp_cells hv hc
  have n0 : 0 ≤ sumF Group.count c.groups ∧ sumF Group.count c.groups ≤ 5000 := by have := hc.cnt c.groups.length; rwa [List.take_length] at this
  generalize sumF Group.count c.groups = cn at cC sc n0
  generalize sumF Group.count (stpC d c).groups = cm at cM sc
  repeat' (first
      | (refine j_go ?_; first
        | refine j_op0 rfl rfl rfl rfl ?_ | (refine j_kCall rfl rfl rfl rfl ?_; first | refine jc (cS1) (LeL.refl _) rfl rfl ?_ | refine jc (cS2) (LeL.refl _) rfl rfl ?_ | refine jc (cE) (LeL.refl _) rfl rfl ?_ | refine jc (cC) (LeL.refl _) rfl rfl ?_ | refine jc (cM) (LeL.refl _) rfl rfl ?_) | (refine j_kLoad rfl ?_; first | refine j_mload 0 rfl rfl rfl rfl rfl rfl rfl ?_ | refine j_mload 1 rfl rfl rfl rfl rfl rfl rfl ?_) | (refine j_kStore rfl ?_; first | refine j_storeN 0 rfl rfl rfl rfl rfl rfl rfl rfl rfl rfl rfl ?_) | (refine j_kGuard rfl ?_; first | (refine (j_ifn rfl rfl rfl (fun hb => ?_) (fun hb => ?_)) <;> first | (exfalso; omega) | skip)) | refine j_alloc rfl rfl rfl rfl rfl (fun _ => ?_))
      | refine j_nil ?_
      | (refine r_go ?_; first | refine run_seq ?_ | refine run_region ?_ | refine run_cond_f rfl ?_ | (refine (run_ifn rfl (fun hb => ?_) (fun hb => ?_)) <;> first | (exfalso; omega) | skip) | refine run_block ?_ | refine run_skip ?_)
      | refine seqQ_normal ?_)
  refine run_view (view_freezeP 0 9 rfl rfl) ?_
  refine run_view (view_freezeP 0 7 rfl rfl) ?_
  refine run_loop (fun k : Nat => [(1, .sl (a1.map encY)), (5, .ip (encDivision d)), (6, .ip (encColony c)), (9, .ip (encColony (stpC d c))), (11, .int cn), (12, .int 0), (13, .int cm), (14, .int 0), (15, .raw (.bool (dec (HasK d 5 k)))), (16, .raw (.bool (dec (HasK d 7 k)))), (17, .int (k : Int))]) (fun _ => h) (fun k => k ≤ d.rules.length) (fun k => d.rules.length - k) 0
    ⟨rfl, rfl, rfl, rfl, rfl, rfl, rfl, rfl, (by rw [dec_f hasK_zero]; rfl), (by rw [dec_f hasK_zero]; rfl), rfl, trivial⟩ rfl (Nat.zero_le _) (fun k kl => ?_)
  by_cases hk : k < d.rules.length
  case pos =>
    have nx5 := hasK_new (v := 5) hk
    have nx7 := hasK_new (v := 7) hk
    by_cases h5 : HasK d 5 k
    · have h52 := hasK_old h5
      by_cases h7 : HasK d 7 k
      · have h72 := hasK_old h7
        rw [dec_t h5, dec_t h7]
        repeat' (first
      | (refine j_go ?_; first
        | refine j_op0 rfl rfl rfl rfl ?_ | refine j_off rfl rfl rfl ?_ | (refine j_kBin rfl ?_; first | refine j_in rfl rfl ⟨by omega, by omega⟩ rfl rfl ?_) | (refine j_kLen rfl ?_; first | refine j_len rfl rfl rfl rfl rfl rfl ?_))
      | refine j_nil ?_
      | (refine r_go ?_; first | refine run_seq ?_ | refine run_region ?_ | (refine (run_if rfl (fun hb => ?_) (fun hb => ?_)) <;> first | (exfalso; omega) | skip) | refine run_block ?_ | refine run_skip ?_)
      | refine seqQ_normal ?_ | refine blockQ_normal ?_)
        all_goals exact loopQ_next (k + 1) (by omega) (by omega) rfl ⟨rfl, rfl, rfl, rfl, rfl, rfl, rfl, rfl, raw_iff ⟨fun _ => h52, fun _ => rfl⟩, raw_iff ⟨fun _ => h72, fun _ => rfl⟩, nx _, trivial⟩
      · rw [dec_t h5, dec_f h7]
        repeat' (first
      | (refine j_go ?_; first
        | refine j_op0 rfl rfl rfl rfl ?_ | refine j_off rfl rfl rfl ?_ | (refine j_kIdx rfl ?_; first | refine j_idx rfl rfl rfl rfl rfl (by omega) rfl rfl rfl ?_) | (refine j_kBin rfl ?_; first | refine j_in rfl rfl ⟨by omega, by omega⟩ rfl rfl ?_) | (refine j_kLen rfl ?_; first | refine j_len rfl rfl rfl rfl rfl rfl ?_))
      | refine j_nil ?_
      | (refine r_go ?_; first | refine run_seq ?_ | refine run_region ?_ | (refine (run_if rfl (fun hb => ?_) (fun hb => ?_)) <;> first | (exfalso; omega) | skip) | refine run_block ?_ | refine run_skip ?_)
      | refine seqQ_normal ?_ | refine blockQ_normal ?_)
        all_goals exact loopQ_next (k + 1) (by omega) (by omega) rfl ⟨rfl, rfl, rfl, rfl, rfl, rfl, rfl, rfl, raw_iff ⟨fun _ => h52, fun _ => rfl⟩, raw_iff ((dec_iff).trans (nx7 h7).symm), nx _, trivial⟩
    · by_cases h7 : HasK d 7 k
      · have h72 := hasK_old h7
        rw [dec_f h5, dec_t h7]
        repeat' (first
      | (refine j_go ?_; first
        | refine j_op0 rfl rfl rfl rfl ?_ | refine j_off rfl rfl rfl ?_ | (refine j_kIdx rfl ?_; first | refine j_idx rfl rfl rfl rfl rfl (by omega) rfl rfl rfl ?_) | (refine j_kBin rfl ?_; first | refine j_in rfl rfl ⟨by omega, by omega⟩ rfl rfl ?_) | (refine j_kLen rfl ?_; first | refine j_len rfl rfl rfl rfl rfl rfl ?_))
      | refine j_nil ?_
      | (refine r_go ?_; first | refine run_seq ?_ | refine run_region ?_ | (refine (run_if rfl (fun hb => ?_) (fun hb => ?_)) <;> first | (exfalso; omega) | skip) | refine run_block ?_ | refine run_skip ?_)
      | refine seqQ_normal ?_ | refine blockQ_normal ?_)
        all_goals exact loopQ_next (k + 1) (by omega) (by omega) rfl ⟨rfl, rfl, rfl, rfl, rfl, rfl, rfl, rfl, raw_iff ((dec_iff).trans (nx5 h5).symm), raw_iff ⟨fun _ => h72, fun _ => rfl⟩, nx _, trivial⟩
      · rw [dec_f h5, dec_f h7]
        repeat' (first
      | (refine j_go ?_; first
        | refine j_op0 rfl rfl rfl rfl ?_ | (refine j_kIdx rfl ?_; first | refine j_idx rfl rfl rfl rfl rfl (by omega) rfl rfl rfl ?_) | (refine j_kBin rfl ?_; first | refine j_in rfl rfl ⟨by omega, by omega⟩ rfl rfl ?_) | (refine j_kLen rfl ?_; first | refine j_len rfl rfl rfl rfl rfl rfl ?_))
      | refine j_nil ?_
      | (refine r_go ?_; first | refine run_seq ?_ | refine run_region ?_ | (refine (run_if rfl (fun hb => ?_) (fun hb => ?_)) <;> first | (exfalso; omega) | skip) | refine run_block ?_ | refine run_skip ?_)
      | refine seqQ_normal ?_ | refine blockQ_normal ?_)
        all_goals exact loopQ_next (k + 1) (by omega) (by omega) rfl ⟨rfl, rfl, rfl, rfl, rfl, rfl, rfl, rfl, raw_iff ((dec_iff).trans (nx5 h5).symm), raw_iff ((dec_iff).trans (nx7 h7).symm), nx _, trivial⟩
  obtain rfl : k = d.rules.length := by omega
  have m7 : ¬ HasK d 7 d.rules.length → cn ≤ cm := fun q => sc.2 (hasK_no q)
  repeat' (first
      | (refine j_go ?_; first
        | refine j_op0 rfl rfl rfl rfl ?_ | (refine j_kLen rfl ?_; first | refine j_len rfl rfl rfl rfl rfl rfl ?_))
      | refine j_nil ?_
      | (refine r_go ?_; first | refine run_seq ?_ | refine run_region ?_)
      | refine seqQ_normal ?_)
  refine run_if rfl (fun hb => by exfalso; omega) (fun hb => ?_)
  refine run_exit ?_
  refine seqQ_exit ?_
  refine loopQ_exit ?_
  refine blockQ_eq ?_
  refine seqQ_normal ?_
  refine run_seq ?_
  refine run_join (fun _ : Unit => [(1, .sl (a1.map encY)), (5, .ip (encDivision d)), (6, .ip (encColony c)), (9, .ip (encColony (stpC d c))), (15, .raw (.bool (dec (HasK d 5 d.rules.length))))]) (fun _ => h) (fun _ => True) ?_ (fun _ _ => ?_)
  · by_cases h7 : HasK d 7 d.rules.length
    · rw [dec_t h7]
      repeat' (first
      | (refine j_go ?_; first
        | refine j_op0 rfl rfl rfl rfl ?_ | refine j_off rfl rfl rfl ?_ | (refine j_kBin rfl ?_; first | refine j_in rfl rfl ⟨by omega, by omega⟩ rfl rfl ?_) | (refine j_kGuard rfl ?_; first | (refine (j_if rfl rfl rfl (fun hb => ?_) (fun hb => ?_)) <;> first | (exfalso; omega) | skip) | (refine (j_ifn rfl rfl rfl (fun hb => ?_) (fun hb => ?_)) <;> first | (exfalso; omega) | skip)))
      | refine j_nil ?_
      | (refine r_go ?_; first | refine run_seq ?_ | refine run_region ?_ | refine run_cond_f rfl ?_ | refine run_skip ?_)
      | refine seqQ_normal ?_)
      all_goals exact joinQ_done () trivial rfl ⟨rfl, rfl, rfl, rfl, rfl, trivial⟩
    · have m8 := sc.2 (hasK_no h7)
      rw [dec_f h7]
      repeat' (first
      | (refine j_go ?_; first
        | refine j_op0 rfl rfl rfl rfl ?_ | (refine j_kBin rfl ?_; first | refine j_in rfl rfl ⟨by omega, by omega⟩ rfl rfl ?_) | (refine j_kGuard rfl ?_; first | (refine (j_if rfl rfl rfl (fun hb => ?_) (fun hb => ?_)) <;> first | (exfalso; omega) | skip) | (refine (j_ifn rfl rfl rfl (fun hb => ?_) (fun hb => ?_)) <;> first | (exfalso; omega) | skip)))
      | refine j_nil ?_
      | (refine r_go ?_; first | refine run_seq ?_ | refine run_region ?_ | (refine (run_if rfl (fun hb => ?_) (fun hb => ?_)) <;> first | (exfalso; omega) | skip) | refine run_skip ?_)
      | refine seqQ_normal ?_)
      all_goals exact joinQ_done () trivial rfl ⟨rfl, rfl, rfl, rfl, rfl, trivial⟩
  have g200 := hc.2.1
  repeat' (first
      | (refine j_go ?_; first
        | refine j_op0 rfl rfl rfl rfl ?_ | (refine j_kBin rfl ?_; first | refine j_in rfl rfl ⟨by omega, by omega⟩ rfl rfl ?_) | (refine j_kLen rfl ?_; first | refine j_len rfl rfl rfl rfl rfl rfl ?_))
      | refine j_nil ?_
      | (refine r_go ?_; first | refine run_seq ?_ | refine run_region ?_ | (refine (run_if rfl (fun hb => ?_) (fun hb => ?_)) <;> first | (exfalso; omega) | skip) | refine run_ret ?_ | refine run_skip ?_)
      | refine seqQ_normal ?_ | refine seqQ_ret ?_)
  · exact end1 rfl (List.Sublist.refl _) (rfl) (.inl rfl)
  have ni : NoIn d := hasK_no (by assumption)
  refine j_kCall rfl rfl rfl rfl ?_
  refine jcp _ (o_P6Pick a1 ((c.groups.length : Int) + 1) (by have := hc.2.1; omega)) (List.Perm.refl _) (LeL.refl _) rfl rfl (fun v h1 hR => ?_)
  obtain ⟨k, rfl, hk, rfl⟩ := hR
  obtain ⟨K, rfl⟩ : ∃ K : Nat, k = (K : Int) := ⟨k.toNat, by omega⟩
  have hK : K ≤ c.groups.length := by omega
  obtain ⟨okA, okB, eW⟩ := step_parts hv hc ni K hok
  have hcA := colA_ok hc K
  have hcB := colB_ok hc K
  have cA := c_iStepColony d (colA c K) hv hcA
  rw [(rs_t okA).1, (rs_t okA).2] at cA
  have cB := c_iStepColony d (colB c K) hv hcB
  rw [(rs_t okB).1, (rs_t okB).2] at cB
  have eA : colA c K = ⟨c.skin, (c.groups.take ((K : Int)).toNat).drop ((0 : Int)).toNat⟩ := by simp only [Int.toNat_natCast, Int.toNat_zero, List.drop_zero]; rfl
  have eB : colB c K = ⟨[], (c.groups.take (((c.groups.map encGroup).length : Nat) : Int).toNat).drop ((K : Int)).toNat⟩ := by simp only [Int.toNat_natCast, List.length_map, List.take_length]; rfl
  have cA2 := cA
  rw [show A.agg (encColony (colA c K)) = A.agg (encColony ⟨c.skin, (c.groups.take ((K : Int)).toNat).drop ((0 : Int)).toNat⟩) from by rw [← eA]] at cA2
  have cB2 := cB
  rw [show A.agg (encColony (colB c K)) = A.agg (encColony ⟨[], (c.groups.take (((c.groups.map encGroup).length : Nat) : Int).toNat).drop ((K : Int)).toNat⟩) from by rw [← eB]] at cB2
  have hml : (c.groups.map encGroup).length = c.groups.length := List.length_map _
  repeat' (first
      | (refine j_go ?_; first
        | refine j_op0 rfl rfl rfl rfl ?_ | (refine j_kGuard rfl ?_; first | (refine (j_ifn rfl rfl rfl (fun hb => ?_) (fun hb => ?_)) <;> first | (exfalso; omega) | skip)))
      | refine j_nil ?_
      | (refine j_goO ?_; first
        | refine j_op0O rfl rfl rfl rfl ?_ | (refine j_kCallO rfl rfl rfl rfl ?_; first | refine jcO (cA2) (LeL.refl _) rfl rfl ?_ | refine jcO (cB2) (by repeat' (first | exact LeL.nil | refine LeL.cons ?_ ?_ | exact Le.refl _ | exact Le.nilm _ _ | exact Le.nil _ | refine Le.agg ?_)) rfl rfl ?_) | (refine j_kStoreO rfl ?_; first | refine j_storeNO 0 rfl rfl rfl rfl rfl rfl rfl rfl rfl rfl rfl rfl (by first | (intro _ hk; exact absurd hk List.not_mem_nil) | (intro k hk; simp at hk ⊢; try simp [hk])) ?_) | (refine j_kSliceO rfl ?_; first | refine j_sliceO rfl rfl rfl rfl rfl rfl (by omega) (fun _ => rfl) rfl rfl ?_) | refine j_buildO rfl rfl rfl rfl rfl rfl rfl ?_ | refine j_allocO rfl (by first | (intro _ hk; exact absurd hk List.not_mem_nil) | (intro k hk; simp at hk ⊢; try simp [hk])) rfl rfl rfl rfl rfl (fun _ => ?_))
      | refine j_nilO ?_
      | (refine r_go ?_; first | refine run_seq ?_ | refine run_region ?_ | refine run_opn 24 [⟨0, false, false, 0⟩, ⟨1, false, false, 0⟩, ⟨2, false, false, 0⟩, ⟨3, false, false, 0⟩, ⟨4, false, false, 0⟩, ⟨5, false, false, 0⟩, ⟨6, false, false, 0⟩, ⟨7, false, false, 0⟩, ⟨8, false, false, 0⟩, ⟨9, false, false, 0⟩, ⟨10, false, false, 0⟩, ⟨11, false, false, 0⟩, ⟨12, false, true, 0⟩, ⟨13, false, true, 0⟩, ⟨14, true, false, 0⟩] rfl rfl (by kernel_rfl) ?_ | refine run_opn 25 [⟨0, false, false, 0⟩, ⟨1, false, false, 0⟩, ⟨2, false, false, 0⟩, ⟨3, false, false, 0⟩, ⟨4, false, false, 0⟩, ⟨5, false, false, 0⟩, ⟨6, false, false, 0⟩, ⟨7, false, false, 0⟩, ⟨8, false, false, 0⟩, ⟨9, false, false, 0⟩, ⟨10, false, true, 0⟩, ⟨11, false, true, 0⟩, ⟨12, true, false, 0⟩] rfl rfl (by kernel_rfl) ?_)
      | refine seqQ_normal ?_)
  refine run_view (view_freezeP 0 21 rfl rfl) ?_
  refine run_view (view_freezeP 0 19 rfl rfl) ?_
  have fA := fun g hg => (okA.grp g hg)
  have fB := fun g hg => (okB.grp g hg)
  have rA : ObjsIn d.objects (stpC d (colA c K)).skin := okA.1.rng
  have rB : ObjsIn d.objects (stpC d (colB c K)).skin := okB.1.rng
  have lA := okA.1.2
  have lB := okB.1.2
  have gA := okA.2.1
  have gB := okB.2.1
  clear cA cB cA2 cB2 eA eB cS1 cS2 cC cM
  repeat' (first
      | (refine j_goO ?_; first
        | refine j_op0O rfl rfl rfl rfl ?_ | (refine j_kBslO rfl ?_; first | refine j_bs0O rfl rfl rfl rfl rfl rfl ?_))
      | (refine r_go ?_; first | refine run_seq ?_ | (refine (run_ifn rfl (fun hb => ?_) (fun hb => ?_)) <;> first | (exfalso; omega) | skip) | refine run_skip ?_ | refine run_opn 28 [⟨0, false, false, 0⟩, ⟨1, false, false, 0⟩, ⟨2, false, false, 0⟩, ⟨3, false, false, 0⟩, ⟨5, false, false, 0⟩, ⟨6, false, false, 0⟩, ⟨8, false, false, 0⟩, ⟨9, false, false, 0⟩, ⟨10, false, false, 0⟩, ⟨12, false, false, 0⟩, ⟨13, false, false, 0⟩, ⟨19, false, true, 8⟩, ⟨4, false, true, 0⟩, ⟨7, false, true, 0⟩, ⟨11, false, true, 0⟩, ⟨14, false, true, 0⟩, ⟨15, false, true, 0⟩, ⟨16, false, false, 0⟩, ⟨17, false, false, 0⟩, ⟨18, false, false, 0⟩, ⟨20, false, true, 0⟩, ⟨21, true, false, 0⟩] rfl rfl (by kernel_rfl) ?_)
      | refine seqQ_normal ?_)
  generalize (stpC d (colA c K)).skin = X at eW rA lA ⊢
  generalize (stpC d (colA c K)).groups = XG at eW gA fA ⊢
  generalize (stpC d (colB c K)).skin = Y at eW rB lB ⊢
  generalize (stpC d (colB c K)).groups = YG at eW gB fB ⊢
  have gC : GoodC d (X ++ Y) (XG ++ YG) := ⟨objs_app rA rB, fun g hg => (List.mem_append.1 hg).elim (fun q => (fA g q).1) (fun q => (fB g q).1)⟩
  have cI := c_iGatherColony d (X ++ Y) (XG ++ YG) (by rw [List.length_append]; omega) (by rw [List.length_append]; omega) (fun g hg => by
    have := (List.mem_append.1 hg).elim (fun q => (fA g q).2.2.2) (fun q => (fB g q).2.2.2)
    omega)
  have e1 : resGatherColony d (X ++ Y) (XG ++ YG) = stpC d c := by rw [rg_t ⟨hv, gC, by rw [eW]; exact hok⟩, eW]
  have e2 : codeGatherColony d (X ++ Y) (XG ++ YG) = 0 := by unfold codeGatherColony; rw [cdG_o hv gC (by rw [eW]; exact hok)]
  rw [e1, e2] at cI
  have cR : ∀ v h1, ColR (stpC d c) 0 v h1 → Clo v ∧ CloH h1 := fun v h1 ⟨a, q1, q2⟩ => ⟨by rw [q1]; exact Clo.tup (CloL.cons q2.clo.1 (CloL.cons (Clo.int _) CloL.nil)), q2.clo.2⟩
  have cF : ∀ v h1, ColR (stpC d c) 0 v h1 → FrzF h1 v (.tup [.agg (encColony (stpC d c)), .int 0]) := fun v h1 ⟨a, q1, q2⟩ => by rw [q1]; exact FrzF.tup2 q2.frzF (Clo.int _)
  -- TREE
  refine j_twoO rfl rfl rfl rfl (alloc_at rfl rfl) rfl rfl rfl (append0_list (bytes := 8) (g := Go.AI.encI) (zs := X) rfl rfl rfl rfl rfl rfl rfl (fun _ => rfl) (fun _ _ => rfl) (by omega) (by omega)) rfl rfl (fun v h' hR => ?_) (fun v h' hR => ?_)
  · obtain ⟨b23, rfl, rfl⟩ := hR
    refine j_append0O (g := Go.AI.encI) X rfl (fun _ hk => nomatch hk) rfl rfl rfl rfl rfl rfl rfl rfl (fun _ => rfl) (fun _ _ => rfl) ⟨by omega, by omega⟩ rfl rfl (fun b3 c3 => ?_)
    skip
    refine j_appendO 0 (g := Go.AI.encI) (ys := X) Y rfl (fun _ hk => nomatch hk) rfl rfl rfl rfl rfl rfl rfl rfl rfl rfl rfl rfl (fun _ => rfl) (fun _ _ => rfl) ⟨by omega, by omega⟩ rfl rfl (fun b4 c4 => ?_)
    skip
    refine j_append0O (g := encGroup) XG rfl (fun _ hk => nomatch hk) rfl rfl rfl rfl rfl rfl rfl rfl (fun _ => rfl) (fun _ _ => rfl) ⟨by omega, by omega⟩ rfl rfl (fun b5 c5 => ?_)
    skip
    refine j_appendO 0 (g := encGroup) (ys := XG) YG rfl (fun _ hk => nomatch hk) rfl rfl rfl rfl rfl rfl rfl rfl rfl rfl rfl rfl (fun _ => rfl) (fun _ _ => rfl) ⟨by omega, by omega⟩ rfl rfl (fun b6 c6 => ?_)
    skip
    refine j_kCallO rfl rfl rfl rfl ?_
    refine jctfO [⟨b6, 54, c6 * 3, ((XG ++ YG).map encGroup).flatten⟩, ⟨b4, 2, c4 * 1, ((X ++ Y).map Go.AI.encI).flatten⟩] cI rfl (fun _ hk => nomatch hk) (fun k hk => (List.mem_cons.1 hk).elim (fun q => by subst q; simp) (fun q => by rw [List.mem_singleton] at q; subst q; simp)) (FrzL.cons (Frz.same _ _) (FrzL.cons (Frz.mono (fun _ hk => by rw [List.mem_singleton] at hk; subst hk; exact List.mem_cons_of_mem _ List.mem_cons_self) (Frz.flat (g := Go.AI.encI) (z := 1) rfl rfl (fun _ => rfl) rfl rfl)) (FrzL.cons (Frz.mono (fun _ hk => by rw [List.mem_singleton] at hk; subst hk; exact List.mem_cons_self) (Frz.flat (g := encGroup) (z := 3) rfl rfl (fun _ => rfl) rfl rfl)) (FrzL.nil _)))) cR cF rfl rfl ?_
    repeat' (first
      | (refine j_go ?_; first
        | refine j_op0 rfl rfl rfl rfl ?_ | (refine j_kCall rfl rfl rfl rfl ?_; first | refine jc (cE) (LeL.refl _) rfl rfl ?_) | (refine j_kLoad rfl ?_; first | refine j_mload 2 rfl rfl rfl rfl rfl rfl rfl ?_) | (refine j_kGuard rfl ?_; first | (refine (j_if rfl rfl rfl (fun hb => ?_) (fun hb => ?_)) <;> first | (exfalso; omega) | skip)))
      | refine j_nil ?_
      | (refine j_goO ?_; first
        | refine j_op0O rfl rfl rfl rfl ?_ | (refine j_kStoreO rfl ?_; first | refine j_storeNO 2 rfl rfl rfl rfl rfl rfl rfl rfl rfl rfl rfl rfl (by first | (intro _ hk; exact absurd hk List.not_mem_nil) | (intro k hk; simp at hk ⊢; try simp [hk])) ?_))
      | refine j_nilO ?_
      | (refine r_go ?_; first | refine run_seq ?_ | refine run_region ?_ | refine run_ret ?_)
      | refine seqQ_normal ?_)
    all_goals first | exact absurd rfl hb | exact absurd hb (by decide) | exact end1 rfl (by repeat' first | exact List.Sublist.refl _ | refine List.Sublist.cons _ ?_) rfl (.inl rfl) | trace_state
  · obtain ⟨b3, c3, rfl, rfl⟩ := hR
    refine j_twoO rfl rfl rfl rfl (alloc_at rfl rfl) rfl rfl rfl (append_list (bytes := 8) (i := 0) (g := Go.AI.encI) (ys := X) (zs := Y) rfl rfl rfl rfl rfl rfl rfl rfl rfl rfl rfl (fun _ => rfl) (fun _ _ => rfl) (by omega) (by omega)) rfl rfl (fun v h' hR => ?_) (fun v h' hR => ?_)
    · obtain ⟨b23, rfl, rfl⟩ := hR
      refine j_appendO 1 (g := Go.AI.encI) (ys := X) Y rfl (fun _ hk => nomatch hk) rfl rfl rfl rfl rfl rfl rfl rfl rfl rfl rfl rfl (fun _ => rfl) (fun _ _ => rfl) ⟨by omega, by omega⟩ rfl rfl (fun b4 c4 => ?_)
      skip
      refine j_append0O (g := encGroup) XG rfl (fun _ hk => nomatch hk) rfl rfl rfl rfl rfl rfl rfl rfl (fun _ => rfl) (fun _ _ => rfl) ⟨by omega, by omega⟩ rfl rfl (fun b5 c5 => ?_)
      skip
      refine j_appendO 0 (g := encGroup) (ys := XG) YG rfl (fun _ hk => nomatch hk) rfl rfl rfl rfl rfl rfl rfl rfl rfl rfl rfl rfl (fun _ => rfl) (fun _ _ => rfl) ⟨by omega, by omega⟩ rfl rfl (fun b6 c6 => ?_)
      skip
      refine j_kCallO rfl rfl rfl rfl ?_
      refine jctfO [⟨b6, 54, c6 * 3, ((XG ++ YG).map encGroup).flatten⟩, ⟨b4, 2, c4 * 1, ((X ++ Y).map Go.AI.encI).flatten⟩] cI rfl (fun _ hk => nomatch hk) (fun k hk => (List.mem_cons.1 hk).elim (fun q => by subst q; simp) (fun q => by rw [List.mem_singleton] at q; subst q; simp)) (FrzL.cons (Frz.same _ _) (FrzL.cons (Frz.mono (fun _ hk => by rw [List.mem_singleton] at hk; subst hk; exact List.mem_cons_of_mem _ List.mem_cons_self) (Frz.flat (g := Go.AI.encI) (z := 1) rfl rfl (fun _ => rfl) rfl rfl)) (FrzL.cons (Frz.mono (fun _ hk => by rw [List.mem_singleton] at hk; subst hk; exact List.mem_cons_self) (Frz.flat (g := encGroup) (z := 3) rfl rfl (fun _ => rfl) rfl rfl)) (FrzL.nil _)))) cR cF rfl rfl ?_
      repeat' (first
      | (refine j_go ?_; first
        | refine j_op0 rfl rfl rfl rfl ?_ | (refine j_kCall rfl rfl rfl rfl ?_; first | refine jc (cE) (LeL.refl _) rfl rfl ?_) | (refine j_kLoad rfl ?_; first | refine j_mload 1 rfl rfl rfl rfl rfl rfl rfl ?_) | (refine j_kGuard rfl ?_; first | (refine (j_if rfl rfl rfl (fun hb => ?_) (fun hb => ?_)) <;> first | (exfalso; omega) | skip)))
      | refine j_nil ?_
      | (refine j_goO ?_; first
        | refine j_op0O rfl rfl rfl rfl ?_ | (refine j_kStoreO rfl ?_; first | refine j_storeNO 1 rfl rfl rfl rfl rfl rfl rfl rfl rfl rfl rfl rfl (by first | (intro _ hk; exact absurd hk List.not_mem_nil) | (intro k hk; simp at hk ⊢; try simp [hk])) ?_))
      | refine j_nilO ?_
      | (refine r_go ?_; first | refine run_seq ?_ | refine run_region ?_ | refine run_ret ?_)
      | refine seqQ_normal ?_)
      all_goals first | exact absurd rfl hb | exact absurd hb (by decide) | exact end1 rfl (by repeat' first | exact List.Sublist.refl _ | refine List.Sublist.cons _ ?_) rfl (.inl rfl) | trace_state
    · obtain ⟨b4, c4, rfl, rfl⟩ := hR
      refine j_twoO rfl rfl rfl rfl (alloc_at rfl rfl) rfl rfl rfl (append0_list (bytes := 40) (g := encGroup) (zs := XG) rfl rfl rfl rfl rfl rfl rfl (fun _ => rfl) (fun _ _ => rfl) (by omega) (by omega)) rfl rfl (fun v h' hR => ?_) (fun v h' hR => ?_)
      · obtain ⟨b23, rfl, rfl⟩ := hR
        refine j_append0O (g := encGroup) XG rfl (fun _ hk => nomatch hk) rfl rfl rfl rfl rfl rfl rfl rfl (fun _ => rfl) (fun _ _ => rfl) ⟨by omega, by omega⟩ rfl rfl (fun b5 c5 => ?_)
        skip
        refine j_appendO 0 (g := encGroup) (ys := XG) YG rfl (fun _ hk => nomatch hk) rfl rfl rfl rfl rfl rfl rfl rfl rfl rfl rfl rfl (fun _ => rfl) (fun _ _ => rfl) ⟨by omega, by omega⟩ rfl rfl (fun b6 c6 => ?_)
        skip
        refine j_kCallO rfl rfl rfl rfl ?_
        refine jctfO [⟨b6, 54, c6 * 3, ((XG ++ YG).map encGroup).flatten⟩, ⟨b4, 2, c4 * 1, ((X ++ Y).map Go.AI.encI).flatten⟩] cI rfl (fun _ hk => nomatch hk) (fun k hk => (List.mem_cons.1 hk).elim (fun q => by subst q; simp) (fun q => by rw [List.mem_singleton] at q; subst q; simp)) (FrzL.cons (Frz.same _ _) (FrzL.cons (Frz.mono (fun _ hk => by rw [List.mem_singleton] at hk; subst hk; exact List.mem_cons_of_mem _ List.mem_cons_self) (Frz.flat (g := Go.AI.encI) (z := 1) rfl rfl (fun _ => rfl) rfl rfl)) (FrzL.cons (Frz.mono (fun _ hk => by rw [List.mem_singleton] at hk; subst hk; exact List.mem_cons_self) (Frz.flat (g := encGroup) (z := 3) rfl rfl (fun _ => rfl) rfl rfl)) (FrzL.nil _)))) cR cF rfl rfl ?_
        repeat' (first
      | (refine j_go ?_; first
        | refine j_op0 rfl rfl rfl rfl ?_ | (refine j_kCall rfl rfl rfl rfl ?_; first | refine jc (cE) (LeL.refl _) rfl rfl ?_) | (refine j_kLoad rfl ?_; first | refine j_mload 1 rfl rfl rfl rfl rfl rfl rfl ?_) | (refine j_kGuard rfl ?_; first | (refine (j_if rfl rfl rfl (fun hb => ?_) (fun hb => ?_)) <;> first | (exfalso; omega) | skip)))
      | refine j_nil ?_
      | (refine j_goO ?_; first
        | refine j_op0O rfl rfl rfl rfl ?_ | (refine j_kStoreO rfl ?_; first | refine j_storeNO 1 rfl rfl rfl rfl rfl rfl rfl rfl rfl rfl rfl rfl (by first | (intro _ hk; exact absurd hk List.not_mem_nil) | (intro k hk; simp at hk ⊢; try simp [hk])) ?_))
      | refine j_nilO ?_
      | (refine r_go ?_; first | refine run_seq ?_ | refine run_region ?_ | refine run_ret ?_)
      | refine seqQ_normal ?_)
        all_goals first | exact absurd rfl hb | exact absurd hb (by decide) | exact end1 rfl (by repeat' first | exact List.Sublist.refl _ | refine List.Sublist.cons _ ?_) rfl (.inl rfl) | trace_state
      · obtain ⟨b5, c5, rfl, rfl⟩ := hR
        refine j_twoO rfl rfl rfl rfl (alloc_at rfl rfl) rfl rfl rfl (append_list (bytes := 40) (i := 0) (g := encGroup) (ys := XG) (zs := YG) rfl rfl rfl rfl rfl rfl rfl rfl rfl rfl rfl (fun _ => rfl) (fun _ _ => rfl) (by omega) (by omega)) rfl rfl (fun v h' hR => ?_) (fun v h' hR => ?_)
        · obtain ⟨b23, rfl, rfl⟩ := hR
          refine j_appendO 1 (g := encGroup) (ys := XG) YG rfl (fun _ hk => nomatch hk) rfl rfl rfl rfl rfl rfl rfl rfl rfl rfl rfl rfl (fun _ => rfl) (fun _ _ => rfl) ⟨by omega, by omega⟩ rfl rfl (fun b6 c6 => ?_)
          skip
          refine j_kCallO rfl rfl rfl rfl ?_
          refine jctfO [⟨b6, 54, c6 * 3, ((XG ++ YG).map encGroup).flatten⟩, ⟨b4, 2, c4 * 1, ((X ++ Y).map Go.AI.encI).flatten⟩] cI rfl (fun _ hk => nomatch hk) (fun k hk => (List.mem_cons.1 hk).elim (fun q => by subst q; simp) (fun q => by rw [List.mem_singleton] at q; subst q; simp)) (FrzL.cons (Frz.same _ _) (FrzL.cons (Frz.mono (fun _ hk => by rw [List.mem_singleton] at hk; subst hk; exact List.mem_cons_of_mem _ List.mem_cons_self) (Frz.flat (g := Go.AI.encI) (z := 1) rfl rfl (fun _ => rfl) rfl rfl)) (FrzL.cons (Frz.mono (fun _ hk => by rw [List.mem_singleton] at hk; subst hk; exact List.mem_cons_self) (Frz.flat (g := encGroup) (z := 3) rfl rfl (fun _ => rfl) rfl rfl)) (FrzL.nil _)))) cR cF rfl rfl ?_
          repeat' (first
      | (refine j_go ?_; first
        | refine j_op0 rfl rfl rfl rfl ?_ | (refine j_kCall rfl rfl rfl rfl ?_; first | refine jc (cE) (LeL.refl _) rfl rfl ?_) | (refine j_kLoad rfl ?_; first | refine j_mload 0 rfl rfl rfl rfl rfl rfl rfl ?_) | (refine j_kGuard rfl ?_; first | (refine (j_if rfl rfl rfl (fun hb => ?_) (fun hb => ?_)) <;> first | (exfalso; omega) | skip)))
      | refine j_nil ?_
      | (refine j_goO ?_; first
        | refine j_op0O rfl rfl rfl rfl ?_ | (refine j_kStoreO rfl ?_; first | refine j_storeNO 0 rfl rfl rfl rfl rfl rfl rfl rfl rfl rfl rfl rfl (by first | (intro _ hk; exact absurd hk List.not_mem_nil) | (intro k hk; simp at hk ⊢; try simp [hk])) ?_))
      | refine j_nilO ?_
      | (refine r_go ?_; first | refine run_seq ?_ | refine run_region ?_ | refine run_ret ?_)
      | refine seqQ_normal ?_)
          all_goals first | exact absurd rfl hb | exact absurd hb (by decide) | exact end1 rfl (by repeat' first | exact List.Sublist.refl _ | refine List.Sublist.cons _ ?_) rfl (.inl rfl) | trace_state
        · obtain ⟨b6, c6, rfl, rfl⟩ := hR
          refine j_twoO rfl rfl rfl rfl (alloc_at rfl rfl) rfl rfl rfl (MStep.frz (call_thaw (hT := [⟨b6, 54, c6 * 3, ((XG ++ YG).map encGroup).flatten⟩, ⟨b4, 2, c4 * 1, ((X ++ Y).map Go.AI.encI).flatten⟩]) rfl rfl rfl cI (fun k hk => (List.mem_cons.1 hk).elim (fun q => by subst q; simp) (fun q => by rw [List.mem_singleton] at q; subst q; simp)) (FrzL.cons (Frz.same _ _) (FrzL.cons (Frz.mono (fun _ hk => by rw [List.mem_singleton] at hk; subst hk; exact List.mem_cons_of_mem _ List.mem_cons_self) (Frz.flat (g := Go.AI.encI) (z := 1) rfl rfl (fun _ => rfl) rfl rfl)) (FrzL.cons (Frz.mono (fun _ hk => by rw [List.mem_singleton] at hk; subst hk; exact List.mem_cons_self) (Frz.flat (g := encGroup) (z := 3) rfl rfl (fun _ => rfl) rfl rfl)) (FrzL.nil _)))) cR) cF) rfl rfl (fun v h' hR => ?_) (fun v h' hR => ?_)
          · obtain ⟨b23, rfl, rfl⟩ := hR
            refine j_kCallO rfl rfl rfl rfl ?_
            refine jctfO [⟨b6, 54, c6 * 3, ((XG ++ YG).map encGroup).flatten⟩, ⟨b4, 2, c4 * 1, ((X ++ Y).map Go.AI.encI).flatten⟩] cI rfl (fun _ hk => nomatch hk) (fun k hk => (List.mem_cons.1 hk).elim (fun q => by subst q; simp) (fun q => by rw [List.mem_singleton] at q; subst q; simp)) (FrzL.cons (Frz.same _ _) (FrzL.cons (Frz.mono (fun _ hk => by rw [List.mem_singleton] at hk; subst hk; exact List.mem_cons_of_mem _ List.mem_cons_self) (Frz.flat (g := Go.AI.encI) (z := 1) rfl rfl (fun _ => rfl) rfl rfl)) (FrzL.cons (Frz.mono (fun _ hk => by rw [List.mem_singleton] at hk; subst hk; exact List.mem_cons_self) (Frz.flat (g := encGroup) (z := 3) rfl rfl (fun _ => rfl) rfl rfl)) (FrzL.nil _)))) cR cF rfl rfl ?_
            repeat' (first
      | (refine j_go ?_; first
        | refine j_op0 rfl rfl rfl rfl ?_ | (refine j_kCall rfl rfl rfl rfl ?_; first | refine jc (cE) (LeL.refl _) rfl rfl ?_) | (refine j_kLoad rfl ?_; first | refine j_mload 0 rfl rfl rfl rfl rfl rfl rfl ?_) | (refine j_kGuard rfl ?_; first | (refine (j_if rfl rfl rfl (fun hb => ?_) (fun hb => ?_)) <;> first | (exfalso; omega) | skip)))
      | refine j_nil ?_
      | (refine j_goO ?_; first
        | refine j_op0O rfl rfl rfl rfl ?_ | (refine j_kStoreO rfl ?_; first | refine j_storeNO 0 rfl rfl rfl rfl rfl rfl rfl rfl rfl rfl rfl rfl (by first | (intro _ hk; exact absurd hk List.not_mem_nil) | (intro k hk; simp at hk ⊢; try simp [hk])) ?_))
      | refine j_nilO ?_
      | (refine r_go ?_; first | refine run_seq ?_ | refine run_region ?_ | refine run_ret ?_)
      | refine seqQ_normal ?_)
            all_goals first | exact absurd rfl hb | exact absurd hb (by decide) | exact end1 rfl (by repeat' first | exact List.Sublist.refl _ | refine List.Sublist.cons _ ?_) rfl (.inl rfl) | trace_state
          · obtain ⟨rfl, rfl⟩ := hR
            refine j_floatO rfl rfl rfl rfl rfl (alloc_at rfl rfl) rfl rfl rfl (fun _ => opVal_quiet tyOk rfl) rfl rfl (fun v h' hR => ?_) ?_
            · obtain ⟨b23, rfl, rfl⟩ := hR
              repeat' (first
      | (refine j_go ?_; first
        | refine j_op0 rfl rfl rfl rfl ?_ | (refine j_kCall rfl rfl rfl rfl ?_; first | refine jc (cE) (LeL.refl _) rfl rfl ?_) | (refine j_kLoad rfl ?_; first | refine j_mload 0 rfl rfl rfl rfl rfl rfl rfl ?_) | (refine j_kGuard rfl ?_; first | (refine (j_if rfl rfl rfl (fun hb => ?_) (fun hb => ?_)) <;> first | (exfalso; omega) | skip)))
      | refine j_nil ?_
      | (refine j_goO ?_; first
        | refine j_op0O rfl rfl rfl rfl ?_ | (refine j_kStoreO rfl ?_; first | refine j_storeNO 0 rfl rfl rfl rfl rfl rfl rfl rfl rfl rfl rfl rfl (by first | (intro _ hk; exact absurd hk List.not_mem_nil) | (intro k hk; simp at hk ⊢; try simp [hk])) ?_))
      | refine j_nilO ?_
      | (refine r_go ?_; first | refine run_seq ?_ | refine run_region ?_ | refine run_ret ?_)
      | refine seqQ_normal ?_)
              all_goals first | exact absurd rfl hb | exact absurd hb (by decide) | exact end1 rfl (by repeat' first | exact List.Sublist.refl _ | refine List.Sublist.cons _ ?_) rfl (.inl rfl) | trace_state
            · skip
              refine j_floatO rfl rfl rfl rfl rfl (alloc_at rfl rfl) rfl rfl rfl (fun _ => opVal_quiet tyOk rfl) rfl rfl (fun v h' hR => ?_) ?_
              · obtain ⟨b23, rfl, rfl⟩ := hR
                repeat' (first
      | (refine j_go ?_; first
        | refine j_op0 rfl rfl rfl rfl ?_ | (refine j_kCall rfl rfl rfl rfl ?_; first | refine jc (cE) (LeL.refl _) rfl rfl ?_) | (refine j_kLoad rfl ?_; first | refine j_mload 0 rfl rfl rfl rfl rfl rfl rfl ?_) | (refine j_kGuard rfl ?_; first | (refine (j_if rfl rfl rfl (fun hb => ?_) (fun hb => ?_)) <;> first | (exfalso; omega) | skip)))
      | refine j_nil ?_
      | (refine j_goO ?_; first
        | refine j_op0O rfl rfl rfl rfl ?_ | (refine j_kStoreO rfl ?_; first | refine j_storeNO 0 rfl rfl rfl rfl rfl rfl rfl rfl rfl rfl rfl rfl (by first | (intro _ hk; exact absurd hk List.not_mem_nil) | (intro k hk; simp at hk ⊢; try simp [hk])) ?_))
      | refine j_nilO ?_
      | (refine r_go ?_; first | refine run_seq ?_ | refine run_region ?_ | refine run_ret ?_)
      | refine seqQ_normal ?_)
                all_goals first | exact absurd rfl hb | exact absurd hb (by decide) | exact end1 rfl (by repeat' first | exact List.Sublist.refl _ | refine List.Sublist.cons _ ?_) rfl (.inl rfl) | trace_state
              · skip
                refine j_floatO rfl rfl rfl rfl rfl (alloc_at rfl rfl) rfl rfl rfl (fun _ => opVal_quiet tyOk rfl) rfl rfl (fun v h' hR => ?_) ?_
                · obtain ⟨b23, rfl, rfl⟩ := hR
                  repeat' (first
      | (refine j_go ?_; first
        | refine j_op0 rfl rfl rfl rfl ?_ | (refine j_kCall rfl rfl rfl rfl ?_; first | refine jc (cE) (LeL.refl _) rfl rfl ?_) | (refine j_kLoad rfl ?_; first | refine j_mload 0 rfl rfl rfl rfl rfl rfl rfl ?_) | (refine j_kGuard rfl ?_; first | (refine (j_if rfl rfl rfl (fun hb => ?_) (fun hb => ?_)) <;> first | (exfalso; omega) | skip)))
      | refine j_nil ?_
      | (refine j_goO ?_; first
        | refine j_op0O rfl rfl rfl rfl ?_ | (refine j_kStoreO rfl ?_; first | refine j_storeNO 0 rfl rfl rfl rfl rfl rfl rfl rfl rfl rfl rfl rfl (by first | (intro _ hk; exact absurd hk List.not_mem_nil) | (intro k hk; simp at hk ⊢; try simp [hk])) ?_))
      | refine j_nilO ?_
      | (refine r_go ?_; first | refine run_seq ?_ | refine run_region ?_ | refine run_ret ?_)
      | refine seqQ_normal ?_)
                  all_goals first | exact absurd rfl hb | exact absurd hb (by decide) | exact end1 rfl (by repeat' first | exact List.Sublist.refl _ | refine List.Sublist.cons _ ?_) rfl (.inl rfl) | trace_state
                · skip
                  refine j_allocO rfl (fun _ hk => nomatch hk) rfl rfl rfl rfl rfl (fun b23 => ?_)
                  repeat' (first
      | (refine j_go ?_; first
        | refine j_op0 rfl rfl rfl rfl ?_ | (refine j_kCall rfl rfl rfl rfl ?_; first | refine jc (cE) (LeL.refl _) rfl rfl ?_) | (refine j_kLoad rfl ?_; first | refine j_mload 0 rfl rfl rfl rfl rfl rfl rfl ?_) | (refine j_kGuard rfl ?_; first | (refine (j_if rfl rfl rfl (fun hb => ?_) (fun hb => ?_)) <;> first | (exfalso; omega) | skip)))
      | refine j_nil ?_
      | (refine j_goO ?_; first
        | refine j_op0O rfl rfl rfl rfl ?_ | (refine j_kStoreO rfl ?_; first | refine j_storeNO 0 rfl rfl rfl rfl rfl rfl rfl rfl rfl rfl rfl rfl (by first | (intro _ hk; exact absurd hk List.not_mem_nil) | (intro k hk; simp at hk ⊢; try simp [hk])) ?_))
      | refine j_nilO ?_
      | (refine r_go ?_; first | refine run_seq ?_ | refine run_region ?_ | refine run_ret ?_)
      | refine seqQ_normal ?_)
                  all_goals first | exact absurd rfl hb | exact absurd hb (by decide) | exact end1 rfl (by repeat' first | exact List.Sublist.refl _ | refine List.Sublist.cons _ ?_) rfl (.inl rfl) | trace_state
  -- TREEEND
end Go.Proofs.YtbhiaccbpbnbmaaGreat
