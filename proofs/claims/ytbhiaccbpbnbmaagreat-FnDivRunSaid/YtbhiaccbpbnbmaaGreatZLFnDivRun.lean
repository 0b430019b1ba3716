/-
  Runs of a colony: RunColony of the reference and of the program. No condition.
-/
import Derived.Test.YtbhiaccbpbnbmaaGreatZW7
import Derived.Test.YtbhiaccbpbnbmaaGreatZW8
import Derived.Test.YtbhiaccbpbnbmaaGreatZDQ
import Derived.Test.YtbhiaccbpbnbmaaGreatZRY
namespace Go.Proofs.YtbhiaccbpbnbmaaGreat
open Go.AI
set_option maxRecDepth 8000
set_option maxHeartbeats 3200000
theorem c_l07Run (d : Division) (c : Colony) (s : Nat) (hv : d.Valid) (hc : c.Ok d.objects) (hs : s ≤ 1000) : Gives Tryz.prog 40 [.ip (encDivision d), .ip (encColony c), .int (s : Int)]
    (.tup [.agg (encColony (runM d s c 0).1), .int ((runM d s c 0).2.1 : Int), .raw (.bool (runM d s c 0).2.2)]) := by
  refine fn_of_run tyOk ztOk mix Tryz.func40 rfl (by decide) Tryz.ntmps40 (fun w0 h => ?_)
  have g200 := hc.2.1
  have sk300 := hc.1.2
  repeat' (first
      | (refine j_go ?_; first
        | refine j_op0 rfl rfl rfl rfl ?_ | (refine j_kCall rfl rfl rfl rfl ?_; first | refine jc (c_l00Own c.skin (by omega)) (LeL.refl _) rfl rfl ?_) | (refine j_kStore rfl ?_; first | refine j_storeN 0 rfl rfl rfl rfl rfl rfl rfl rfl rfl rfl rfl ?_) | refine j_build rfl rfl rfl rfl rfl rfl rfl ?_ | refine j_alloc rfl rfl rfl rfl rfl (fun _ => ?_))
      | refine j_nil ?_
      | (refine r_go ?_; first | refine run_seq ?_ | refine run_region ?_ | refine run_block ?_)
      | refine seqQ_normal ?_)
  rename_i b6 b9
  refine run_view (view_none 54 (0 * 3) rfl) ?_
  refine run_loop (fun s2 : Nat × Option Nat × Nat => [(0, .ip (encDivision d)), (1, .ip (encColony c)), (2, .int (s : Int)), (6, .op (some b6) 0), (9, .op (some b9) 0), (10, .int (s2.1 : Int))])
    (fun s2 => ⟨s2.2.1, 54, s2.2.2 * 3, ((c.groups.take s2.1).map encGroup).flatten⟩ :: ⟨some b9, 30, 2, [.sl (c.skin.map Go.AI.encI), .os s2.2.1 (c.groups.take s2.1).length s2.2.2]⟩ :: ⟨some b6, 30, 2, [.os none 0 0, .os none 0 0]⟩ :: h)
    (fun s2 => s2.1 ≤ c.groups.length) (fun s2 => c.groups.length - s2.1) (0, none, 0) ⟨rfl, rfl, rfl, rfl, rfl, rfl, trivial⟩ rfl (Nat.zero_le _) (fun ⟨k, ob, cap⟩ kl => ?_)
  dsimp only at kl ⊢
  by_cases hk : k < c.groups.length
  case pos =>
    have hg := (hc.2.2.1 k hk).1.2.1.2
    have tk : (c.groups.take k).length = k := by rw [List.length_take]; omega
    have ts := List.take_succ_eq_append_getElem hk
    repeat' (first
      | (refine j_go ?_; first
        | refine j_op0 rfl rfl rfl rfl ?_ | (refine j_kIdx rfl ?_; first | refine j_idx rfl rfl rfl rfl rfl (by omega) rfl rfl rfl ?_) | (refine j_kLen rfl ?_; first | refine j_len rfl rfl rfl rfl rfl rfl ?_) | (refine j_kStore rfl ?_; first | refine j_storeN 0 rfl rfl rfl rfl rfl rfl rfl rfl rfl rfl rfl ?_) | refine j_alloc rfl rfl rfl rfl rfl (fun _ => ?_))
      | refine j_nil ?_
      | (refine j_goO ?_; first
        | refine j_op0O rfl rfl rfl rfl ?_ | (refine j_kCallO rfl rfl rfl rfl ?_; first | refine jcO (c_l00Own c.groups[k].contents (by omega)) (LeL.refl _) rfl rfl ?_) | (refine j_kLoadO rfl ?_; first | refine j_mloadO 0 rfl rfl rfl rfl rfl rfl rfl rfl ?_ | refine j_mloadO 2 rfl rfl rfl rfl rfl rfl rfl rfl ?_) | (refine j_kBslO rfl ?_; first | refine j_bslO rfl rfl rfl rfl rfl rfl rfl rfl rfl rfl rfl ?_) | refine j_buildO rfl rfl rfl rfl rfl rfl rfl ?_)
      | (refine r_go ?_; first | refine run_seq ?_ | refine run_region ?_ | (refine (run_if rfl (fun hb => ?_) (fun hb => ?_)) <;> first | (exfalso; omega) | skip) | refine run_block ?_ | refine run_skip ?_ | refine run_opn 6 [⟨0, true, false, 0⟩, ⟨1, true, false, 0⟩, ⟨2, true, false, 0⟩, ⟨3, true, false, 0⟩, ⟨4, true, false, 0⟩, ⟨5, true, false, 0⟩, ⟨6, true, false, 0⟩, ⟨7, true, false, 0⟩, ⟨8, true, false, 0⟩, ⟨9, true, false, 0⟩, ⟨10, true, false, 0⟩, ⟨11, false, true, 0⟩, ⟨12, true, false, 0⟩, ⟨13, false, true, 0⟩] rfl rfl (by kernel_rfl) ?_)
      | refine seqQ_normal ?_)
    refine j_appendO 1 (g := encGroup) (ys := c.groups.take k) [c.groups[k]] rfl (fun _ hk => nomatch hk) rfl rfl rfl rfl rfl rfl rfl rfl rfl rfl rfl rfl (fun _ => rfl) (fun _ _ => rfl) ⟨by simp only [List.length_cons, List.length_nil]; omega, by simp only [List.length_cons, List.length_nil]; omega⟩ rfl rfl (fun b' cap' => ?_)
    rw [← ts]
    repeat' (first
      | (refine j_go ?_; first
        | refine j_op0 rfl rfl rfl rfl ?_ | (refine j_kBin rfl ?_; first | refine j_in rfl rfl ⟨by omega, by omega⟩ rfl rfl ?_))
      | refine j_nil ?_
      | (refine j_goO ?_; first
        | refine j_op0O rfl rfl rfl rfl ?_ | (refine j_kStoreO rfl ?_; first | refine j_storeO 2 rfl rfl rfl rfl rfl rfl rfl rfl rfl rfl rfl rfl (by first | (intro _ hk; exact absurd hk List.not_mem_nil) | (intro k hk; simp at hk ⊢; try simp [hk])) ?_))
      | refine j_nilO ?_
      | (refine r_go ?_; first | refine run_region ?_)
      | refine seqQ_normal ?_ | refine blockQ_normal ?_)
    refine loopQ_view (view_erase 0) ?_
    exact loopQ_next (k + 1, b', cap') (by dsimp only; omega) (by dsimp only; omega) rfl ⟨rfl, rfl, rfl, rfl, rfl, nx _, trivial⟩
  obtain rfl : k = c.groups.length := by omega
  rw [List.take_length]
  refine run_view (view_cellF (k := 1) (b := some b9) (h1 := [_]) (F := _ :: h) (List.Perm.swap _ _ _) rfl (FrzF.flat (g := encGroup) (ys := c.groups) (z := 3) rfl rfl (fun _ => rfl) rfl rfl)) ?_
  repeat' (first
      | (refine j_go ?_; first
        | refine j_op0 rfl rfl rfl rfl ?_ | (refine j_kLen rfl ?_; first | refine j_len rfl rfl rfl rfl rfl rfl ?_))
      | refine j_nil ?_
      | (refine r_go ?_; first | refine run_seq ?_ | refine run_region ?_ | (refine (run_if rfl (fun hb => ?_) (fun hb => ?_)) <;> first | (exfalso; omega) | skip) | refine run_block ?_ | refine run_exit ?_)
      | refine seqQ_normal ?_ | refine seqQ_exit ?_ | refine blockQ_eq ?_ | refine loopQ_exit ?_)
  refine run_loop (fun s2 : Nat × Colony => [(0, .ip (encDivision d)), (2, .int (s : Int)), (6, .op (some b6) 0), (9, .op (some b9) 0), (12, .int (s2.1 : Int))])
    (fun s2 => colK b9 s2.2 :: ⟨some b6, 30, 2, [.os none 0 0, .os none 0 0]⟩ :: h)
    (fun s2 => s2.1 ≤ s ∧ s2.2.Ok d.objects ∧ runM d (s - s2.1) s2.2 s2.1 = runM d s c 0) (fun s2 => s - s2.1) (0, c) ⟨rfl, rfl, rfl, rfl, rfl, trivial⟩ rfl ⟨Nat.zero_le _, hc, rfl⟩ (fun ⟨m, x⟩ ⟨ml, hx, em⟩ => ?_)
  dsimp only at ml hx em ⊢
  by_cases hm : m < s
  case pos =>
    have e1 : s - m = (s - (m + 1)) + 1 := by omega
    repeat' (first
      | (refine j_go ?_; first
        | refine j_op0 rfl rfl rfl rfl ?_)
      | refine j_nil ?_
      | (refine r_go ?_; first | refine run_seq ?_ | refine run_region ?_ | (refine (run_if rfl (fun hb => ?_) (fun hb => ?_)) <;> first | (exfalso; omega) | skip) | refine run_block ?_ | refine run_skip ?_)
      | refine seqQ_normal ?_)
    refine j_kCall rfl rfl rfl rfl ?_
    refine jcp (_ :: h) (o_l07StepK b9 d x hv hx) (List.Perm.refl _) (LeL.refl _) rfl rfl (fun v h1 hR => ?_)
    obtain ⟨rfl, sk, tr, hr, hl, rfl⟩ := hR
    have sx := stpX hv hx tr hr
    obtain ⟨X, eX⟩ : ∃ X : Colony, X = ⟨srtL d.objects (d.grown 2 0 (stA d x x.groups.length).1 ++ sk), addM d.objects [] (cellsA d (usA d x x.groups.length))⟩ := ⟨_, rfl⟩
    have sx : X = stpC d x ∨ (¬ X.Ok d.objects ∧ ¬ (stpC d x).Ok d.objects) := by rw [eX]; exact sx
    rw [← eX]
    clear eX tr hr hl
    by_cases hr : Rests d x
    · rw [dec_f (show ¬ ¬ Rests d x from fun q => q hr)]
      rw [runM_r hr] at em
      rw [← em]
      repeat' (first
      | (refine j_go ?_; first
        | refine j_op0 rfl rfl rfl rfl ?_ | (refine j_kLoad rfl ?_; first | refine j_mload 1 rfl rfl rfl rfl rfl rfl rfl ?_) | (refine j_kStore rfl ?_; first | refine j_storeN 0 rfl rfl rfl rfl rfl rfl rfl rfl rfl rfl rfl ?_ | refine j_storeN 2 rfl rfl rfl rfl rfl rfl rfl rfl rfl rfl rfl ?_) | refine j_alloc rfl rfl rfl rfl rfl (fun _ => ?_))
      | refine j_nil ?_
      | (refine r_go ?_; first | refine run_seq ?_ | refine run_region ?_ | refine run_cond_t rfl ?_ | refine run_ret ?_)
      | refine seqQ_normal ?_ | refine seqQ_ret ?_ | refine blockQ_ret ?_ | refine loopQ_ret ?_)
      refine end_view (view_freezeP 2 6 rfl rfl) ?_
      exact end_le (List.Sublist.cons _ (List.Sublist.cons _ (List.Sublist.refl _))) (vs := [_, _, _]) (.cons (.cellI rfl rfl) (.cons (.tmp rfl) (.cons (.tmp rfl) .nil))) (Le.refl _) (.inl rfl)
    · rw [dec_t hr]
      rw [e1] at em
      repeat' (first
      | (refine j_go ?_; first
        | refine j_op0 rfl rfl rfl rfl ?_ | (refine j_kStore rfl ?_; first | refine j_storeN 0 rfl rfl rfl rfl rfl rfl rfl rfl rfl rfl rfl ?_) | refine j_alloc rfl rfl rfl rfl rfl (fun _ => ?_))
      | refine j_nil ?_
      | (refine r_go ?_; first | refine run_seq ?_ | refine run_region ?_)
      | refine seqQ_normal ?_)
      refine run_view (view_freezeP 0 13 rfl rfl) ?_
      repeat' (first
      | (refine j_go ?_; first
        | refine j_op0 rfl rfl rfl rfl ?_ | (refine j_kBin rfl ?_; first | refine j_in rfl rfl ⟨by omega, by omega⟩ rfl rfl ?_) | (refine j_kCall rfl rfl rfl rfl ?_; first | refine jc (c_l07Colony d X hv.1) (LeL.refl _) rfl rfl ?_) | (refine j_kLoad rfl ?_; first | refine j_mload 0 rfl rfl rfl rfl rfl rfl rfl ?_) | (refine j_kStore rfl ?_; first | refine j_storeN 0 rfl rfl rfl rfl rfl rfl rfl rfl rfl rfl rfl ?_ | refine j_storeN 1 rfl rfl rfl rfl rfl rfl rfl rfl rfl rfl rfl ?_))
      | refine j_nil ?_
      | (refine r_go ?_; first | refine run_seq ?_ | refine run_region ?_ | refine run_cond_f rfl ?_ | (refine (run_ifn rfl (fun hb => ?_) (fun hb => ?_)) <;> first | (exfalso; omega) | skip) | refine run_ret ?_ | refine run_skip ?_)
      | refine seqQ_normal ?_ | refine seqQ_ret ?_ | refine blockQ_normal ?_ | refine blockQ_ret ?_ | refine loopQ_ret ?_)
      · have hn : ¬ (stpC d x).Ok d.objects := sx.elim (fun q => by rw [← q]; exact hb) (fun q => q.2)
        rw [runM_f hr hn] at em
        rw [← em]
        refine end_view (view_freezeP 1 6 rfl rfl) ?_
        exact end_le (List.Sublist.cons _ (List.Sublist.refl _)) (vs := [_, _, _]) (.cons (.cellI rfl rfl) (.cons (.tmp rfl) (.cons (.tmp rfl) .nil))) (Le.refl _) (.inl rfl)
      · have he : X = stpC d x := sx.resolve_right (fun q => q.1 hb)
        subst he
        rw [runM_s hr hb] at em
        exact loopQ_next (m + 1, stpC d x) ⟨by dsimp only; omega, hb, em⟩ (by dsimp only; omega) rfl ⟨rfl, rfl, rfl, rfl, nx _, trivial⟩
  obtain rfl : m = s := by omega
  rw [Nat.sub_self, runM_0] at em
  rw [← em]
  repeat' (first
      | (refine j_go ?_; first
        | refine j_op0 rfl rfl rfl rfl ?_ | (refine j_kLoad rfl ?_; first | refine j_mload 0 rfl rfl rfl rfl rfl rfl rfl ?_) | (refine j_kStore rfl ?_; first | refine j_storeN 1 rfl rfl rfl rfl rfl rfl rfl rfl rfl rfl rfl ?_))
      | refine j_nil ?_
      | (refine r_go ?_; first | refine run_seq ?_ | refine run_region ?_ | (refine (run_if rfl (fun hb => ?_) (fun hb => ?_)) <;> first | (exfalso; omega) | skip) | refine run_ret ?_ | refine run_exit ?_)
      | refine seqQ_normal ?_ | refine seqQ_exit ?_ | refine blockQ_eq ?_ | refine loopQ_exit ?_)
  refine end_view (view_freezeP 1 6 rfl rfl) ?_
  exact end_le (List.Sublist.cons _ (List.Sublist.refl _)) (vs := [_, _, _]) (.cons (.cellI rfl rfl) (.cons (.tmp rfl) (.cons (.tmp rfl) .nil))) (Le.refl _) (.inl rfl)
theorem c_sRunColony (d : Division) (c : Colony) (s : Nat) (hv : d.Valid) (hc : c.Ok d.objects) (hs : s ≤ 100) : Gives Tryz.prog 14 [.agg (encDivision d), .agg (encColony c), .int (s : Int)] (.tup [.agg (encColony (runC d c s)), .int (runN d c s), .int (runK d c s)]) := by
  refine fn_of_run tyOk ztOk mix Tryz.func14 rfl (by decide) Tryz.ntmps14 (fun w0 h => ?_)
  have cA := c_l07Asked d c
  rw [cd2_o hv hc] at cA
  have cI := c_l00In (s : Int) 0 100
  rw [dec_t (show 0 ≤ (s : Int) ∧ (s : Int) ≤ 100 by omega)] at cI
  have cR := c_l07Run d c s hv hc (by omega)
  obtain ⟨⟨x, n, b⟩, e⟩ : ∃ y, runM d s c 0 = y := ⟨_, rfl⟩
  rw [e] at cR
  cases b with
  | true =>
    obtain ⟨e1, e2, e3⟩ := run_t e
    rw [e1, e2, e3]
    repeat' (first
      | (refine j_go ?_; first
        | refine j_op0 rfl rfl rfl rfl ?_ | (refine j_kCall rfl rfl rfl rfl ?_; first | refine jc (cA) (LeL.refl _) rfl rfl ?_ | refine jc (cI) (LeL.refl _) rfl rfl ?_ | refine jc (cR) (LeL.refl _) rfl rfl ?_) | (refine j_kLoad rfl ?_; first | refine j_mload 0 rfl rfl rfl rfl rfl rfl rfl ?_) | (refine j_kStore rfl ?_; first | refine j_storeN 0 rfl rfl rfl rfl rfl rfl rfl rfl rfl rfl rfl ?_ | refine j_storeN 1 rfl rfl rfl rfl rfl rfl rfl rfl rfl rfl rfl ?_) | refine j_box rfl rfl rfl rfl rfl rfl ?_ | refine j_alloc rfl rfl rfl rfl rfl (fun _ => ?_))
      | refine j_nil ?_
      | (refine r_go ?_; first | refine run_seq ?_ | refine run_region ?_ | refine run_cond_f rfl ?_ | (refine (run_ifn rfl (fun hb => ?_) (fun hb => ?_)) <;> first | (exfalso; omega) | skip) | refine run_ret ?_ | refine run_skip ?_)
      | refine seqQ_normal ?_)
    refine end_view (view_freezeP 1 6 rfl rfl) ?_
    exact end_le (List.Sublist.cons _ (List.Sublist.refl _)) (vs := [_, _, _]) (.cons (.cellI rfl rfl) (.cons (.tmp rfl) (.cons (.tmp rfl) .nil))) (Le.refl _) (.inl rfl)
  | false =>
    obtain ⟨e1, e2, e3⟩ := run_f e
    rw [e1, e2, e3]
    repeat' (first
      | (refine j_go ?_; first
        | refine j_op0 rfl rfl rfl rfl ?_ | (refine j_kCall rfl rfl rfl rfl ?_; first | refine jc (cA) (LeL.refl _) rfl rfl ?_ | refine jc (cI) (LeL.refl _) rfl rfl ?_ | refine jc (cR) (LeL.refl _) rfl rfl ?_) | (refine j_kStore rfl ?_; first | refine j_storeN 0 rfl rfl rfl rfl rfl rfl rfl rfl rfl rfl rfl ?_ | refine j_storeN 1 rfl rfl rfl rfl rfl rfl rfl rfl rfl rfl rfl ?_) | refine j_box rfl rfl rfl rfl rfl rfl ?_ | refine j_build rfl rfl rfl rfl rfl rfl rfl ?_ | refine j_alloc rfl rfl rfl rfl rfl (fun _ => ?_))
      | refine j_nil ?_
      | (refine r_go ?_; first | refine run_seq ?_ | refine run_region ?_ | refine run_cond_t rfl ?_ | refine run_cond_f rfl ?_ | (refine (run_ifn rfl (fun hb => ?_) (fun hb => ?_)) <;> first | (exfalso; omega) | skip) | refine run_ret ?_ | refine run_skip ?_)
      | refine seqQ_normal ?_ | refine seqQ_ret ?_)
    refine end_view (view_freezeP 1 6 rfl rfl) ?_
    exact end_le (List.Sublist.cons _ (List.Sublist.refl _)) (vs := [_, _, _]) (.cons (.cellI rfl rfl) (.cons (.tmp rfl) (.cons (.tmp rfl) .nil))) (Le.tup (LeL.cons (Le.agg (LeL.cons (Le.nil 0) (LeL.cons (Le.nil 0) LeL.nil))) (LeL.cons (Le.refl _) (LeL.cons (Le.refl _) LeL.nil)))) (.inl rfl)
theorem c_iRunColony (d : Division) (c : Colony) (s : Nat) (hv : d.Valid) (hc : c.Ok d.objects) (hs : s ≤ 100) : Gives Tryz.prog 13 [.agg (encDivision d), .agg (encColony c), .int (s : Int)] (.tup [.agg (encColony (runC d c s)), .int (runN d c s), .int (runK d c s)]) := by
  refine fn_of_run tyOk ztOk mix Tryz.func13 rfl (by decide) Tryz.ntmps13 (fun w0 h => ?_)
  have cA := c_colonyCode d c
  rw [cd2_o hv hc] at cA
  have cI := c_inRange (s : Int) 0 100
  rw [dec_t (show 0 ≤ (s : Int) ∧ (s : Int) ≤ 100 by omega)] at cI
  have hg := hc.grp
  have sk300 := hc.1.2
  have g200 := hc.2.1
  have cG := c_gather c.skin c.groups (o := d.objects) (by omega) (by omega) (fun g q => by have := (hg g q).2.2.2; omega) (fun g q => (hg g q).1)
  rw [colG_id hc] at cG
  repeat' (first
      | (refine j_go ?_; first
        | refine j_op0 rfl rfl rfl rfl ?_ | (refine j_kCall rfl rfl rfl rfl ?_; first | refine jc (cA) (LeL.refl _) rfl rfl ?_ | refine jc (cI) (LeL.refl _) rfl rfl ?_ | refine jc (cG) (LeL.refl _) rfl rfl ?_) | (refine j_kStore rfl ?_; first | refine j_storeN 0 rfl rfl rfl rfl rfl rfl rfl rfl rfl rfl rfl ?_) | (refine j_kGuard rfl ?_; first | (refine (j_if rfl rfl rfl (fun hb => ?_) (fun hb => ?_)) <;> first | (exfalso; omega) | skip)) | refine j_box rfl rfl rfl rfl rfl rfl ?_ | refine j_alloc rfl rfl rfl rfl rfl (fun _ => ?_))
      | refine j_nil ?_
      | (refine r_go ?_; first | refine run_seq ?_ | refine run_region ?_ | refine run_cond_f rfl ?_ | (refine (run_ifn rfl (fun hb => ?_) (fun hb => ?_)) <;> first | (exfalso; omega) | skip) | refine run_block ?_ | refine run_skip ?_)
      | refine seqQ_normal ?_)
  rename_i b6 _ b10
  refine run_loop (fun s2 : Nat × Colony => [(2, .int (s : Int)), (3, .ip (encDivision d)), (6, .op (some b6) 0), (10, .op (some b10) 0), (11, .int (s2.1 : Int))])
    (fun s2 => colK b10 s2.2 :: ⟨some b6, 30, 2, [.os none 0 0, .os none 0 0]⟩ :: h)
    (fun s2 => s2.1 ≤ s ∧ s2.2.Ok d.objects ∧ runM d (s - s2.1) s2.2 s2.1 = runM d s c 0) (fun s2 => s - s2.1) (0, c) ⟨rfl, rfl, rfl, rfl, rfl, trivial⟩ rfl ⟨Nat.zero_le _, hc, rfl⟩ (fun ⟨m, x⟩ ⟨ml, hx, em⟩ => ?_)
  dsimp only at ml hx em ⊢
  have cT := c_rests d x hv hx
  have cS := c_step d x hv hx
  by_cases hm : m < s
  case pos =>
    have e1 : s - m = (s - (m + 1)) + 1 := by omega
    by_cases hr : Rests d x
    · rw [dec_t hr] at cT
      rw [runM_r hr] at em
      obtain ⟨q1, q2, q3⟩ := run_t em.symm
      rw [q1, q2, q3]
      repeat' (first
      | (refine j_go ?_; first
        | refine j_op0 rfl rfl rfl rfl ?_ | (refine j_kCall rfl rfl rfl rfl ?_; first | refine jc (cT) (LeL.refl _) rfl rfl ?_) | (refine j_kLoad rfl ?_; first | refine j_mload 0 rfl rfl rfl rfl rfl rfl rfl ?_) | (refine j_kStore rfl ?_; first | refine j_storeN 1 rfl rfl rfl rfl rfl rfl rfl rfl rfl rfl rfl ?_) | (refine j_kGuard rfl ?_; first | (refine (j_if rfl rfl rfl (fun hb => ?_) (fun hb => ?_)) <;> first | (exfalso; omega) | skip)))
      | refine j_nil ?_
      | (refine r_go ?_; first | refine run_seq ?_ | refine run_region ?_ | refine run_cond_t rfl ?_ | refine run_block ?_ | refine run_ret ?_)
      | refine seqQ_normal ?_ | refine seqQ_ret ?_ | refine blockQ_ret ?_ | refine loopQ_ret ?_)
      refine end_view (view_freezeP 1 6 rfl rfl) ?_
      exact end_le (List.Sublist.cons _ (List.Sublist.refl _)) (vs := [_, _, _]) (.cons (.cellI rfl rfl) (.cons (.tmp rfl) (.cons (.tmp rfl) .nil))) (Le.refl _) (.inl rfl)
    · rw [dec_f hr] at cT
      rw [e1] at em
      by_cases ho : (stpC d x).Ok d.objects
      · rw [(rs_t ho).1, (rs_t ho).2] at cS
        rw [runM_s hr ho] at em
        repeat' (first
      | (refine j_go ?_; first
        | refine j_op0 rfl rfl rfl rfl ?_ | (refine j_kBin rfl ?_; first | refine j_in rfl rfl ⟨by omega, by omega⟩ rfl rfl ?_) | (refine j_kCall rfl rfl rfl rfl ?_; first | refine jc (cT) (LeL.refl _) rfl rfl ?_ | refine jc (cS) (LeL.refl _) rfl rfl ?_) | (refine j_kLoad rfl ?_; first | refine j_mload 0 rfl rfl rfl rfl rfl rfl rfl ?_) | (refine j_kStore rfl ?_; first | refine j_storeN 0 rfl rfl rfl rfl rfl rfl rfl rfl rfl rfl rfl ?_ | refine j_storeN 1 rfl rfl rfl rfl rfl rfl rfl rfl rfl rfl rfl ?_) | (refine j_kGuard rfl ?_; first | (refine (j_if rfl rfl rfl (fun hb => ?_) (fun hb => ?_)) <;> first | (exfalso; omega) | skip)) | refine j_alloc rfl rfl rfl rfl rfl (fun _ => ?_))
      | refine j_nil ?_
      | (refine r_go ?_; first | refine run_seq ?_ | refine run_region ?_ | refine run_cond_f rfl ?_ | (refine (run_ifn rfl (fun hb => ?_) (fun hb => ?_)) <;> first | (exfalso; omega) | skip) | refine run_block ?_ | refine run_skip ?_)
      | refine seqQ_normal ?_ | refine blockQ_normal ?_)
        refine loopQ_view (view_erase 0) ?_
        exact loopQ_next (m + 1, stpC d x) ⟨by dsimp only; omega, ho, em⟩ (by dsimp only; omega) rfl ⟨rfl, rfl, rfl, rfl, nx _, trivial⟩
      · rw [(rs_f ho).1, (rs_f ho).2] at cS
        rw [runM_f hr ho] at em
        obtain ⟨q1, q2, q3⟩ := run_f em.symm
        rw [q1, q2, q3]
        repeat' (first
      | (refine j_go ?_; first
        | refine j_op0 rfl rfl rfl rfl ?_ | (refine j_kCall rfl rfl rfl rfl ?_; first | refine jc (cT) (LeL.refl _) rfl rfl ?_ | refine jc (cS) (LeL.refl _) rfl rfl ?_) | (refine j_kLoad rfl ?_; first | refine j_mload 0 rfl rfl rfl rfl rfl rfl rfl ?_) | (refine j_kStore rfl ?_; first | refine j_storeN 0 rfl rfl rfl rfl rfl rfl rfl rfl rfl rfl rfl ?_ | refine j_storeN 2 rfl rfl rfl rfl rfl rfl rfl rfl rfl rfl rfl ?_) | (refine j_kGuard rfl ?_; first | (refine (j_if rfl rfl rfl (fun hb => ?_) (fun hb => ?_)) <;> first | (exfalso; omega) | skip)) | refine j_build rfl rfl rfl rfl rfl rfl rfl ?_ | refine j_alloc rfl rfl rfl rfl rfl (fun _ => ?_))
      | refine j_nil ?_
      | (refine r_go ?_; first | refine run_seq ?_ | refine run_region ?_ | refine run_cond_f rfl ?_ | (refine (run_ifn rfl (fun hb => ?_) (fun hb => ?_)) <;> first | (exfalso; omega) | skip) | refine run_block ?_ | refine run_ret ?_ | refine run_skip ?_)
      | refine seqQ_normal ?_ | refine seqQ_ret ?_ | refine blockQ_ret ?_ | refine loopQ_ret ?_)
        refine end_view (view_freezeP 2 6 rfl rfl) ?_
        exact end_le (List.Sublist.cons _ (List.Sublist.cons _ (List.Sublist.refl _))) (vs := [_, _, _]) (.cons (.cellI rfl rfl) (.cons (.tmp rfl) (.cons (.tmp rfl) .nil))) (Le.tup (LeL.cons (Le.agg (LeL.cons (Le.nil 0) (LeL.cons (Le.nil 0) LeL.nil))) (LeL.cons (Le.refl _) (LeL.cons (Le.refl _) LeL.nil)))) (.inl rfl)
  obtain rfl : m = s := by omega
  rw [Nat.sub_self, runM_0] at em
  obtain ⟨q1, q2, q3⟩ := run_t em.symm
  rw [q1, q2, q3]
  repeat' (first
      | (refine j_go ?_; first
        | refine j_op0 rfl rfl rfl rfl ?_ | refine j_off rfl rfl rfl ?_ | (refine j_kLoad rfl ?_; first | refine j_mload 0 rfl rfl rfl rfl rfl rfl rfl ?_) | (refine j_kStore rfl ?_; first | refine j_storeN 1 rfl rfl rfl rfl rfl rfl rfl rfl rfl rfl rfl ?_) | (refine j_kGuard rfl ?_; first | (refine (j_if rfl rfl rfl (fun hb => ?_) (fun hb => ?_)) <;> first | (exfalso; omega) | skip)))
      | refine j_nil ?_
      | (refine r_go ?_; first | refine run_seq ?_ | refine run_region ?_ | refine run_cond_t rfl ?_ | refine run_block ?_ | refine run_ret ?_)
      | refine seqQ_normal ?_ | refine seqQ_ret ?_ | refine blockQ_ret ?_ | refine loopQ_ret ?_)
  refine end_view (view_freezeP 1 6 rfl rfl) ?_
  exact end_le (List.Sublist.cons _ (List.Sublist.refl _)) (vs := [_, _, _]) (.cons (.cellI rfl rfl) (.cons (.tmp rfl) (.cons (.tmp rfl) .nil))) (Le.refl _) (.inl rfl)
end Go.Proofs.YtbhiaccbpbnbmaaGreat

/-
  The law FnDivRun answers true whatever it reads. No condition.
-/
namespace Go.Proofs.YtbhiaccbpbnbmaaGreat
open Go.AI
set_option maxRecDepth 8000
set_option maxHeartbeats 3200000

theorem c_f6bigR (l : List UInt8) : Gives Tryz.prog 5 [.sl (l.map encY)] (.raw (.bool (dec (4096 < (l.length : Int))))) := by
  refine fn_of_run tyOk ztOk mix Tryz.func5 rfl (by decide) Tryz.ntmps5 (fun w0 h => ?_)
  repeat' (first
      | (refine j_go ?_; first
        | refine j_op0 rfl rfl rfl rfl ?_ | (refine j_kLen rfl ?_; first | refine j_len rfl rfl rfl rfl rfl rfl ?_))
      | refine j_nil ?_
      | (refine r_go ?_; first | refine run_seq ?_ | refine run_region ?_ | refine run_ret ?_)
      | refine seqQ_normal ?_)
  exact end1 rfl (List.Sublist.refl _) (rfl) (.inl rfl)
theorem c_FnDivRun (a0 a1 : List UInt8) : Gives Tryz.prog 4 [.sl (a0.map encY), .sl (a1.map encY)] (.raw (.bool true)) := by
  refine fn_of_run tyOk ztOk mix Tryz.func4 rfl (by decide) Tryz.ntmps4 (fun w0 h => ?_)
  repeat' (first
      | (refine j_go ?_; first
        | refine j_op0 rfl rfl rfl rfl ?_ | refine j_off rfl rfl rfl ?_ | (refine j_kCall rfl rfl rfl rfl ?_; first | refine jc (c_f6bigR _) (LeL.refl _) rfl rfl ?_) | (refine j_kGuard rfl ?_; first | (refine (j_if rfl rfl rfl (fun hb => ?_) (fun hb => ?_)) <;> first | (exfalso; omega) | skip)))
      | refine j_nil ?_
      | (refine r_go ?_; first | refine run_seq ?_ | refine run_region ?_ | refine run_cond_t rfl ?_ | (refine (run_if rfl (fun hb => ?_) (fun hb => ?_)) <;> first | (exfalso; omega) | skip) | refine run_ret ?_ | refine run_skip ?_)
      | refine seqQ_normal ?_ | refine seqQ_ret ?_)
  · exact end1 rfl (List.Sublist.refl _) (rfl) (.inl rfl)
  · exact end1 rfl (List.Sublist.refl _) (rfl) (.inl rfl)
  refine j_kCall rfl rfl rfl rfl ?_
  refine jcp _ (o_P6Division a0) (List.Perm.refl _) (LeL.refl _) rfl rfl (fun v h1 hR => ?_)
  obtain ⟨d, c, rfl, hds, hsk4, hc, rfl⟩ := hR
  have hv := hds.1
  repeat' (first
      | (refine j_go ?_; first
        | refine j_op0 rfl rfl rfl rfl ?_ | (refine j_kStore rfl ?_; first | refine j_storeN 0 rfl rfl rfl rfl rfl rfl rfl rfl rfl rfl rfl ?_ | refine j_storeN 1 rfl rfl rfl rfl rfl rfl rfl rfl rfl rfl rfl ?_) | refine j_alloc rfl rfl rfl rfl rfl (fun _ => ?_))
      | refine j_nil ?_
      | (refine r_go ?_; first | refine run_seq ?_ | refine run_region ?_)
      | refine seqQ_normal ?_)
  refine j_view (view_freezeP 0 6 rfl rfl) ?_
  refine j_view (view_freezeP 0 5 rfl rfl) ?_
  refine j_kCall rfl rfl rfl rfl ?_
  refine jcp _ (o_P6Pick a1 7 (by omega)) (List.Perm.refl _) (LeL.refl _) rfl rfl (fun v h1 hR => ?_)
  obtain ⟨r, rfl, hr, rfl⟩ := hR
  obtain ⟨s, rfl⟩ : ∃ s : Nat, r = (s : Int) := ⟨r.toNat, by omega⟩
  have hs : s ≤ 100 := by omega
  have cI := c_iRunColony d c s hv hc hs
  have cS := c_sRunColony d c s hv hc hs
  have cE := c_sSameColony (runC d c s) (runC d c s)
  rw [dec_t rfl] at cE
  have cT := c_iIsAtRest d c
  rw [dec_congr (show ((d.Valid ∧ c.Ok d.objects) ∧ Rests d c) ↔ Rests d c from ⟨fun q => q.2, fun q => ⟨⟨hv, hc⟩, q⟩⟩), cd2_o hv hc] at cT
  have cU := c_iStepColony d c hv hc
  have okc := hc
  have eT : Rests d c → stpC d c = c := rest_stp hc
  obtain ⟨⟨x, n, b⟩, e⟩ : ∃ y, runM d s c 0 = y := ⟨_, rfl⟩
  cases b with
  | false =>
    obtain ⟨e1, e2, e3⟩ := run_f e
    rw [e1, e2, e3] at cI cS
    rw [e1] at cE
    have hr : ¬ Rests d c := fun q => by
      rw [runM_r q] at e
      have := congrArg (fun z : Colony × Nat × Bool => z.2.2) e
      simp at this
    rw [dec_f hr] at cT
    repeat' (first
      | (refine j_go ?_; first
        | refine j_op0 rfl rfl rfl rfl ?_ | refine j_off rfl rfl rfl ?_ | (refine j_kCall rfl rfl rfl rfl ?_; first | refine jc (cI) (LeL.refl _) rfl rfl ?_ | refine jc (cS) (LeL.refl _) rfl rfl ?_ | refine jc (cE) (LeL.refl _) rfl rfl ?_ | refine jc (cT) (LeL.refl _) rfl rfl ?_ | refine jc (cU) (LeL.refl _) rfl rfl ?_) | (refine j_kLoad rfl ?_; first | refine j_mload 0 rfl rfl rfl rfl rfl rfl rfl ?_ | refine j_mload 1 rfl rfl rfl rfl rfl rfl rfl ?_) | (refine j_kStore rfl ?_; first | refine j_storeN 0 rfl rfl rfl rfl rfl rfl rfl rfl rfl rfl rfl ?_) | (refine j_kGuard rfl ?_; first | (refine (j_ifn rfl rfl rfl (fun hb => ?_) (fun hb => ?_)) <;> first | (exfalso; omega) | skip)) | refine j_alloc rfl rfl rfl rfl rfl (fun _ => ?_))
      | refine j_nil ?_
      | (refine r_go ?_; first | refine run_seq ?_ | refine run_region ?_ | refine run_cond_f rfl ?_ | (refine (run_ifn rfl (fun hb => ?_) (fun hb => ?_)) <;> first | (exfalso; omega) | skip) | refine run_ret ?_ | refine run_skip ?_)
      | refine seqQ_normal ?_ | refine seqQ_ret ?_)
    exact end1 rfl (by repeat' first | exact List.Sublist.refl _ | refine List.Sublist.cons _ ?_) (by rw [dec_t rfl]) (.inl rfl)
  | true =>
    obtain ⟨e1, e2, e3⟩ := run_t e
    rw [e1, e2, e3] at cI cS
    rw [e1] at cE
    obtain ⟨_, m2, m3, m4, m5⟩ := runM_spec s 0 (fun i hi => absurd hi (Nat.not_lt_zero _)) x n e
    rw [Nat.zero_add] at m2 m5
    have okI : ∀ i, i ≤ n → (itC d c i).Ok d.objects := fun i hi => by
      cases i with
      | zero => exact hc
      | succ i => exact (m4 i (by omega)).2
    by_cases hr : Rests d c
    · rw [dec_t hr] at cT
      rw [(rs_t (show (stpC d c).Ok d.objects by rw [eT hr]; exact hc)).1, (rs_t (show (stpC d c).Ok d.objects by rw [eT hr]; exact hc)).2, eT hr] at cU
      have cF := c_sSameColony c c
      rw [dec_t rfl] at cF
      repeat' (first
      | (refine j_go ?_; first
        | refine j_op0 rfl rfl rfl rfl ?_ | (refine j_kCall rfl rfl rfl rfl ?_; first | refine jc (cI) (LeL.refl _) rfl rfl ?_ | refine jc (cS) (LeL.refl _) rfl rfl ?_ | refine jc (cE) (LeL.refl _) rfl rfl ?_ | refine jc (cT) (LeL.refl _) rfl rfl ?_ | refine jc (cU) (LeL.refl _) rfl rfl ?_ | refine jc (cF) (LeL.refl _) rfl rfl ?_) | (refine j_kLoad rfl ?_; first | refine j_mload 0 rfl rfl rfl rfl rfl rfl rfl ?_ | refine j_mload 1 rfl rfl rfl rfl rfl rfl rfl ?_) | (refine j_kStore rfl ?_; first | refine j_storeN 0 rfl rfl rfl rfl rfl rfl rfl rfl rfl rfl rfl ?_) | (refine j_kGuard rfl ?_; first | (refine (j_ifn rfl rfl rfl (fun hb => ?_) (fun hb => ?_)) <;> first | (exfalso; omega) | skip)) | refine j_alloc rfl rfl rfl rfl rfl (fun _ => ?_))
      | refine j_nil ?_
      | (refine r_go ?_; first | refine run_seq ?_ | refine run_region ?_ | refine run_cond_f rfl ?_ | (refine (run_ifn rfl (fun hb => ?_) (fun hb => ?_)) <;> first | (exfalso; omega) | skip) | refine run_block ?_ | refine run_skip ?_)
      | refine seqQ_normal ?_)
      rename_i b18
      refine run_view (view_freezeP 3 8 rfl rfl) ?_
      refine run_view (view_freezeP 2 11 rfl rfl) ?_
      refine run_view (view_erase 1) ?_
      refine run_loop (fun i : Nat => [(5, .ip (encDivision d)), (7, .int (s : Int)), (11, .ip (encColony x)), (12, .int (n : Int)), (18, .op (some b18) 0), (19, .int (i : Int))])
        (fun i => colK b18 (itC d c i) :: h) (fun i => i ≤ n) (fun i => n - i) 0 ⟨rfl, rfl, rfl, rfl, rfl, rfl, trivial⟩ rfl (Nat.zero_le _) (fun i il => ?_)
      have hi := okI i il
      by_cases hin : i < n
      · have q := m4 i hin
        have cT2 := c_iIsAtRest d (itC d c i)
        rw [dec_f (show ¬ ((d.Valid ∧ (itC d c i).Ok d.objects) ∧ Rests d (itC d c i)) from fun z => q.1 z.2), cd2_o hv hi] at cT2
        have cU2 := c_iStepColony d (itC d c i) hv hi
        rw [(rs_t q.2).1, (rs_t q.2).2] at cU2
        repeat' (first
      | (refine j_go ?_; first
        | refine j_op0 rfl rfl rfl rfl ?_ | (refine j_kBin rfl ?_; first | refine j_in rfl rfl ⟨by omega, by omega⟩ rfl rfl ?_) | (refine j_kCall rfl rfl rfl rfl ?_; first | refine jc (cT2) (LeL.refl _) rfl rfl ?_ | refine jc (cU2) (LeL.refl _) rfl rfl ?_) | (refine j_kLoad rfl ?_; first | refine j_mload 0 rfl rfl rfl rfl rfl rfl rfl ?_) | (refine j_kStore rfl ?_; first | refine j_storeN 0 rfl rfl rfl rfl rfl rfl rfl rfl rfl rfl rfl ?_ | refine j_storeN 1 rfl rfl rfl rfl rfl rfl rfl rfl rfl rfl rfl ?_) | (refine j_kGuard rfl ?_; first | (refine (j_ifn rfl rfl rfl (fun hb => ?_) (fun hb => ?_)) <;> first | (exfalso; omega) | skip)) | refine j_alloc rfl rfl rfl rfl rfl (fun _ => ?_))
      | refine j_nil ?_
      | (refine r_go ?_; first | refine run_seq ?_ | refine run_region ?_ | refine run_cond_f rfl ?_ | (refine (run_if rfl (fun hb => ?_) (fun hb => ?_)) <;> first | (exfalso; omega) | skip) | refine run_block ?_ | refine run_skip ?_)
      | refine seqQ_normal ?_ | refine blockQ_normal ?_)
        refine loopQ_view (view_erase 0) ?_
        exact loopQ_next (i + 1) (by omega) (by omega) rfl ⟨rfl, rfl, rfl, rfl, rfl, nx _, trivial⟩
      obtain rfl : i = n := by omega
      have hx : x.Ok d.objects := by rw [m3]; exact hi
      have cT2 := c_iIsAtRest d x
      rw [cd2_o hv hx] at cT2
      have cF2 := c_sSameColony (itC d c i) x
      rw [dec_t m3.symm] at cF2
      by_cases hrx : Rests d x
      · rw [dec_t (show (d.Valid ∧ x.Ok d.objects) ∧ Rests d x from ⟨⟨hv, hx⟩, hrx⟩)] at cT2
        repeat' (first
      | (refine j_go ?_; first
        | refine j_op0 rfl rfl rfl rfl ?_ | refine j_off rfl rfl rfl ?_ | (refine j_kCall rfl rfl rfl rfl ?_; first | refine jc (cT2) (LeL.refl _) rfl rfl ?_ | refine jc (cF2) (LeL.refl _) rfl rfl ?_) | (refine j_kLoad rfl ?_; first | refine j_mload 0 rfl rfl rfl rfl rfl rfl rfl ?_) | (refine j_kGuard rfl ?_; first | (refine (j_if rfl rfl rfl (fun hb => ?_) (fun hb => ?_)) <;> first | (exfalso; omega) | skip)))
      | refine j_nil ?_
      | (refine r_go ?_; first | refine run_seq ?_ | refine run_region ?_ | (refine (run_if rfl (fun hb => ?_) (fun hb => ?_)) <;> first | (exfalso; omega) | skip) | refine run_ret ?_ | refine run_exit ?_)
      | refine seqQ_normal ?_ | refine seqQ_exit ?_ | refine blockQ_eq ?_ | refine loopQ_exit ?_)
        all_goals first | exact end1 rfl (List.Sublist.cons _ (List.Sublist.refl _)) rfl (.inl rfl) | exact end1 rfl (List.Sublist.cons _ (List.Sublist.refl _)) (by rw [dec_t (by assumption)]) (.inl rfl) | trace_state
      · have en : i = s := m5.resolve_right hrx
        subst en
        rw [dec_f (show ¬ ((d.Valid ∧ x.Ok d.objects) ∧ Rests d x) from fun z => hrx z.2)] at cT2
        repeat' (first
      | (refine j_go ?_; first
        | refine j_op0 rfl rfl rfl rfl ?_ | refine j_off rfl rfl rfl ?_ | (refine j_kCall rfl rfl rfl rfl ?_; first | refine jc (cT2) (LeL.refl _) rfl rfl ?_ | refine jc (cF2) (LeL.refl _) rfl rfl ?_) | (refine j_kLoad rfl ?_; first | refine j_mload 0 rfl rfl rfl rfl rfl rfl rfl ?_) | (refine j_kGuard rfl ?_; first | (refine (j_if rfl rfl rfl (fun hb => ?_) (fun hb => ?_)) <;> first | (exfalso; omega) | skip)))
      | refine j_nil ?_
      | (refine r_go ?_; first | refine run_seq ?_ | refine run_region ?_ | (refine (run_if rfl (fun hb => ?_) (fun hb => ?_)) <;> first | (exfalso; omega) | skip) | refine run_ret ?_ | refine run_exit ?_)
      | refine seqQ_normal ?_ | refine seqQ_exit ?_ | refine blockQ_eq ?_ | refine loopQ_exit ?_)
        all_goals first | exact end1 rfl (List.Sublist.cons _ (List.Sublist.refl _)) rfl (.inl rfl) | exact end1 rfl (List.Sublist.cons _ (List.Sublist.refl _)) (by rw [dec_t (by assumption)]) (.inl rfl) | trace_state
    · rw [dec_f hr] at cT
      repeat' (first
      | (refine j_go ?_; first
        | refine j_op0 rfl rfl rfl rfl ?_ | refine j_off rfl rfl rfl ?_ | (refine j_kCall rfl rfl rfl rfl ?_; first | refine jc (cI) (LeL.refl _) rfl rfl ?_ | refine jc (cS) (LeL.refl _) rfl rfl ?_ | refine jc (cE) (LeL.refl _) rfl rfl ?_ | refine jc (cT) (LeL.refl _) rfl rfl ?_ | refine jc (cU) (LeL.refl _) rfl rfl ?_) | (refine j_kLoad rfl ?_; first | refine j_mload 0 rfl rfl rfl rfl rfl rfl rfl ?_ | refine j_mload 1 rfl rfl rfl rfl rfl rfl rfl ?_) | (refine j_kStore rfl ?_; first | refine j_storeN 0 rfl rfl rfl rfl rfl rfl rfl rfl rfl rfl rfl ?_) | (refine j_kGuard rfl ?_; first | (refine (j_ifn rfl rfl rfl (fun hb => ?_) (fun hb => ?_)) <;> first | (exfalso; omega) | skip)) | refine j_alloc rfl rfl rfl rfl rfl (fun _ => ?_))
      | refine j_nil ?_
      | (refine r_go ?_; first | refine run_seq ?_ | refine run_region ?_ | refine run_cond_f rfl ?_ | (refine (run_ifn rfl (fun hb => ?_) (fun hb => ?_)) <;> first | (exfalso; omega) | skip) | refine run_block ?_ | refine run_skip ?_)
      | refine seqQ_normal ?_)
      rename_i b18
      refine run_view (view_freezeP 3 8 rfl rfl) ?_
      refine run_view (view_freezeP 2 11 rfl rfl) ?_
      refine run_view (view_erase 1) ?_
      refine run_loop (fun i : Nat => [(5, .ip (encDivision d)), (7, .int (s : Int)), (11, .ip (encColony x)), (12, .int (n : Int)), (18, .op (some b18) 0), (19, .int (i : Int))])
        (fun i => colK b18 (itC d c i) :: h) (fun i => i ≤ n) (fun i => n - i) 0 ⟨rfl, rfl, rfl, rfl, rfl, rfl, trivial⟩ rfl (Nat.zero_le _) (fun i il => ?_)
      have hi := okI i il
      by_cases hin : i < n
      · have q := m4 i hin
        have cT2 := c_iIsAtRest d (itC d c i)
        rw [dec_f (show ¬ ((d.Valid ∧ (itC d c i).Ok d.objects) ∧ Rests d (itC d c i)) from fun z => q.1 z.2), cd2_o hv hi] at cT2
        have cU2 := c_iStepColony d (itC d c i) hv hi
        rw [(rs_t q.2).1, (rs_t q.2).2] at cU2
        repeat' (first
      | (refine j_go ?_; first
        | refine j_op0 rfl rfl rfl rfl ?_ | (refine j_kBin rfl ?_; first | refine j_in rfl rfl ⟨by omega, by omega⟩ rfl rfl ?_) | (refine j_kCall rfl rfl rfl rfl ?_; first | refine jc (cT2) (LeL.refl _) rfl rfl ?_ | refine jc (cU2) (LeL.refl _) rfl rfl ?_) | (refine j_kLoad rfl ?_; first | refine j_mload 0 rfl rfl rfl rfl rfl rfl rfl ?_) | (refine j_kStore rfl ?_; first | refine j_storeN 0 rfl rfl rfl rfl rfl rfl rfl rfl rfl rfl rfl ?_ | refine j_storeN 1 rfl rfl rfl rfl rfl rfl rfl rfl rfl rfl rfl ?_) | (refine j_kGuard rfl ?_; first | (refine (j_ifn rfl rfl rfl (fun hb => ?_) (fun hb => ?_)) <;> first | (exfalso; omega) | skip)) | refine j_alloc rfl rfl rfl rfl rfl (fun _ => ?_))
      | refine j_nil ?_
      | (refine r_go ?_; first | refine run_seq ?_ | refine run_region ?_ | refine run_cond_f rfl ?_ | (refine (run_if rfl (fun hb => ?_) (fun hb => ?_)) <;> first | (exfalso; omega) | skip) | refine run_block ?_ | refine run_skip ?_)
      | refine seqQ_normal ?_ | refine blockQ_normal ?_)
        refine loopQ_view (view_erase 0) ?_
        exact loopQ_next (i + 1) (by omega) (by omega) rfl ⟨rfl, rfl, rfl, rfl, rfl, nx _, trivial⟩
      obtain rfl : i = n := by omega
      have hx : x.Ok d.objects := by rw [m3]; exact hi
      have cT2 := c_iIsAtRest d x
      rw [cd2_o hv hx] at cT2
      have cF2 := c_sSameColony (itC d c i) x
      rw [dec_t m3.symm] at cF2
      by_cases hrx : Rests d x
      · rw [dec_t (show (d.Valid ∧ x.Ok d.objects) ∧ Rests d x from ⟨⟨hv, hx⟩, hrx⟩)] at cT2
        repeat' (first
      | (refine j_go ?_; first
        | refine j_op0 rfl rfl rfl rfl ?_ | refine j_off rfl rfl rfl ?_ | (refine j_kCall rfl rfl rfl rfl ?_; first | refine jc (cT2) (LeL.refl _) rfl rfl ?_ | refine jc (cF2) (LeL.refl _) rfl rfl ?_) | (refine j_kLoad rfl ?_; first | refine j_mload 0 rfl rfl rfl rfl rfl rfl rfl ?_) | (refine j_kGuard rfl ?_; first | (refine (j_if rfl rfl rfl (fun hb => ?_) (fun hb => ?_)) <;> first | (exfalso; omega) | skip)))
      | refine j_nil ?_
      | (refine r_go ?_; first | refine run_seq ?_ | refine run_region ?_ | (refine (run_if rfl (fun hb => ?_) (fun hb => ?_)) <;> first | (exfalso; omega) | skip) | refine run_ret ?_ | refine run_exit ?_)
      | refine seqQ_normal ?_ | refine seqQ_exit ?_ | refine blockQ_eq ?_ | refine loopQ_exit ?_)
        all_goals first | exact end1 rfl (List.Sublist.cons _ (List.Sublist.refl _)) rfl (.inl rfl) | exact end1 rfl (List.Sublist.cons _ (List.Sublist.refl _)) (by rw [dec_t (by assumption)]) (.inl rfl) | trace_state
      · have en : i = s := m5.resolve_right hrx
        subst en
        rw [dec_f (show ¬ ((d.Valid ∧ x.Ok d.objects) ∧ Rests d x) from fun z => hrx z.2)] at cT2
        repeat' (first
      | (refine j_go ?_; first
        | refine j_op0 rfl rfl rfl rfl ?_ | refine j_off rfl rfl rfl ?_ | (refine j_kCall rfl rfl rfl rfl ?_; first | refine jc (cT2) (LeL.refl _) rfl rfl ?_ | refine jc (cF2) (LeL.refl _) rfl rfl ?_) | (refine j_kLoad rfl ?_; first | refine j_mload 0 rfl rfl rfl rfl rfl rfl rfl ?_) | (refine j_kGuard rfl ?_; first | (refine (j_if rfl rfl rfl (fun hb => ?_) (fun hb => ?_)) <;> first | (exfalso; omega) | skip)))
      | refine j_nil ?_
      | (refine r_go ?_; first | refine run_seq ?_ | refine run_region ?_ | (refine (run_if rfl (fun hb => ?_) (fun hb => ?_)) <;> first | (exfalso; omega) | skip) | refine run_ret ?_ | refine run_exit ?_)
      | refine seqQ_normal ?_ | refine seqQ_exit ?_ | refine blockQ_eq ?_ | refine loopQ_exit ?_)
        all_goals first | exact end1 rfl (List.Sublist.cons _ (List.Sublist.refl _)) rfl (.inl rfl) | exact end1 rfl (List.Sublist.cons _ (List.Sublist.refl _)) (by rw [dec_t (by assumption)]) (.inl rfl) | trace_state
end Go.Proofs.YtbhiaccbpbnbmaaGreat
