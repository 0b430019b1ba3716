/-
  A step of a colony: the reference, exactly. No condition.
-/
import Derived.Test.YtbhiaccbpbnbmaaGreatZW3
import Derived.Test.YtbhiaccbpbnbmaaGreatZS7u
import Derived.Test.YtbhiaccbpbnbmaaGreatZW5
import Derived.Test.YtbhiaccbpbnbmaaGreatZMY
import Derived.Test.YtbhiaccbpbnbmaaGreatZRY
import Derived.Test.YtbhiaccbpbnbmaaGreatZE5
namespace Go.Proofs.YtbhiaccbpbnbmaaGreat
open Go.AI
set_option maxRecDepth 8000
set_option maxHeartbeats 3200000
theorem pmx5 {α : Type} (a b c d e : α) (r : List α) : (a :: b :: c :: d :: e :: r).Perm (e :: ([a] ++ (b :: c :: d :: r))) := by
  classical exact List.perm_iff_count.2 fun _ => by simp only [List.count_cons, List.count_append, List.count_nil]; omega
theorem pmx4 {α : Type} (e b c d : α) (r : List α) : (e :: b :: c :: d :: r).Perm (e :: ([d] ++ (b :: c :: r))) := by
  classical exact List.perm_iff_count.2 fun _ => by simp only [List.count_cons, List.count_append, List.count_nil]; omega
/-- What a step of the reference hands back. -/
def StepX (d : Division) (c : Colony) : A → Heap → Prop := fun v h' => h' = [] ∧ ∃ sk, TrP (outA d (usA d c c.groups.length)) sk ∧ (∀ y ∈ sk, 0 ≤ y ∧ y ≤ d.objects - 1) ∧ sk.length ≤ 5000 ∧
  v = .tup [.agg (encColony ⟨srtL d.objects (d.grown 2 0 (stA d c c.groups.length).1 ++ sk), addM d.objects [] (cellsA d (usA d c c.groups.length))⟩), .raw (.bool (dec (¬ Rests d c)))]
theorem o_l07StepX (d : Division) (c : Colony) (hv : d.Valid) (hc : c.Ok d.objects) : Does Tryz.prog 25 [.ip (encDivision d), .ip (encColony c)] [] (StepX d c) := by
  refine fn_of_runD tyOk ztOk mix Tryz.func25 rfl (by decide) Tryz.ntmps25 (fun w0 h => ?_)
  change Run _ _ _ _ _ h
  have hd := hv.1
  have r120 := hv.2.1
  have sk300 := hc.1.2
  have g200 := hc.2.1
  have hnn : ∀ g ∈ c.groups, 0 ≤ g.count := hc.nn
  repeat' (first
      | (refine j_go ?_; first
        | refine j_op0 rfl rfl rfl rfl ?_ | (refine j_kCall rfl rfl rfl rfl ?_; first | refine jc (c_l00Own c.skin (by omega)) (LeL.refl _) rfl rfl ?_) | refine j_build rfl rfl rfl rfl rfl rfl rfl ?_ | refine j_alloc rfl rfl rfl rfl rfl (fun _ => ?_))
      | refine j_nil ?_
      | (refine r_go ?_; first | refine run_seq ?_ | refine run_region ?_)
      | refine seqQ_normal ?_)
  rename_i b0
  refine j_boxM rfl rfl rfl rfl rfl rfl (fun b1 => ?_)
  repeat' (first
      | (refine j_go ?_; first
        | refine j_op0 rfl rfl rfl rfl ?_)
      | refine j_nil ?_
      | (refine r_go ?_; first | refine run_seq ?_ | refine run_region ?_ | refine run_block ?_)
      | refine seqQ_normal ?_)
  refine run_view (view_none 2 (0 * 1) rfl) ?_
  refine run_view (view_none 54 (0 * 3) rfl) ?_
  refine run_view (view_perm rev3) ?_
  have e0 : dec (stA d c 0).2 = false := dec_f (fun q => q)
  refine run_loop (fun s : Nat × List Int × List Group × Option Nat × Nat × Option Nat × Nat => [(0, .ip (encDivision d)), (1, .ip (encColony c)), (4, .op (some b0) 0), (6, .op (some b1) 0), (7, .int (s.1 : Int))])
    (fun s => mvB b1 d (stA d c s.1).1 s.2.2.2.1 s.2.1.length s.2.2.2.2.1 s.2.2.2.2.2.1 s.2.2.1.length s.2.2.2.2.2.2 (.raw (.bool (dec (stA d c s.1).2))) :: mvS s.2.2.2.1 s.2.2.2.2.1 s.2.1 :: mvC s.2.2.2.2.2.1 s.2.2.2.2.2.2 s.2.2.1 :: ⟨some b0, 30, 2, [.os none 0 0, .os none 0 0]⟩ :: h)
    (fun s => s.1 ≤ c.groups.length ∧ MvOk d (241 * s.1) s.2.1 s.2.2.1 ∧ s.2.2.1 = addM d.objects [] (cellsA d (usA d c s.1)) ∧ TrP (outA d (usA d c s.1)) s.2.1) (fun s => c.groups.length - s.1) (0, [], [], none, 0, none, 0) ⟨rfl, rfl, rfl, rfl, rfl, trivial⟩ (by dsimp only; rw [e0]; rfl) ⟨Nat.zero_le _, ⟨by simp, by simp, by simp, by simp⟩, rfl, TrP.same []⟩ (fun ⟨k, sk, gs, bs, cs, bc, cc⟩ ⟨kl, ok, eg, tr⟩ => ?_)
  dsimp only at kl ok eg tr ⊢
  have sl := (stA_sub (d := d) hnn k kl).length_le
  by_cases hk : k < c.groups.length
  case pos =>
    have hu := hc.upto hk
    have hg := (hc.2.2.1 k hk).1
    repeat' (first
      | (refine j_go ?_; first
        | refine j_op0 rfl rfl rfl rfl ?_ | (refine j_kIdx rfl ?_; first | refine j_idx rfl rfl rfl rfl rfl (by omega) rfl rfl rfl ?_) | (refine j_kLen rfl ?_; first | refine j_len rfl rfl rfl rfl rfl rfl ?_))
      | refine j_nil ?_
      | (refine r_go ?_; first | refine run_seq ?_ | refine run_region ?_ | (refine (run_if rfl (fun hb => ?_) (fun hb => ?_)) <;> first | (exfalso; omega) | skip) | refine run_block ?_ | refine run_skip ?_)
      | refine seqQ_normal ?_)
    refine j_kCall rfl rfl rfl rfl ?_
    refine jcp (_ :: h) (o_mvGroupX b1 d (stA d c k).1 sk gs c.groups[k] (241 * k) (stA d c k).2 bs bc cs cc hv (by omega) hg.1 (by omega) hg.2.1 ok (by omega) _ tr) (List.Perm.refl _) (LeL.refl _) rfl rfl (fun v h3 hR => ?_)
    obtain ⟨sk2, b2, c2, b3, c3, ok2, tr2, rfl⟩ := hR
    repeat' (first
      | (refine j_go ?_; first
        | refine j_op0 rfl rfl rfl rfl ?_ | (refine j_kBin rfl ?_; first | refine j_in rfl rfl ⟨by omega, by omega⟩ rfl rfl ?_))
      | refine j_nil ?_
      | (refine r_go ?_; first | refine run_region ?_)
      | refine seqQ_normal ?_ | refine blockQ_normal ?_)
    exact loopQ_next (k + 1, sk2, addM d.objects gs (cellsA d (usG d (stA d c k).1 c.groups[k])), b2, c2, b3, c3) ⟨by dsimp only; omega, ok2.mono (by dsimp only; omega), by dsimp only; rw [usA_succ hk, cellsA_app, addM_app, ← eg], by dsimp only; rw [usA_succ hk, outA_app]; exact tr2⟩ (by dsimp only; omega) (by dsimp only; rw [stA_succ hk]; rfl) ⟨rfl, rfl, rfl, rfl, nx _, trivial⟩
  obtain rfl : k = c.groups.length := by omega
  have hsk := hc.1.rng
  have hlr : ∀ y ∈ (stA d c c.groups.length).1, 0 ≤ y ∧ y ≤ d.objects - 1 := fun y hy => hsk y ((stA_sub (d := d) hnn _ kl).subset hy)
  have gr := grown_rng hv (kind := 2) (charge := 0) hlr
  have gl := grown_len hv (kind := 2) (charge := 0) (stA d c c.groups.length).1
  repeat' (first
      | (refine j_go ?_; first
        | refine j_op0 rfl rfl rfl rfl ?_ | (refine j_kLen rfl ?_; first | refine j_len rfl rfl rfl rfl rfl rfl ?_) | (refine j_kLoad rfl ?_; first | refine j_mload 0 rfl rfl rfl rfl rfl rfl rfl ?_))
      | refine j_nil ?_
      | (refine r_go ?_; first | refine run_seq ?_ | refine run_region ?_ | (refine (run_if rfl (fun hb => ?_) (fun hb => ?_)) <;> first | (exfalso; omega) | skip) | refine run_exit ?_)
      | refine seqQ_normal ?_ | refine seqQ_exit ?_ | refine blockQ_eq ?_ | refine loopQ_exit ?_)
  refine j_kCall rfl rfl rfl rfl ?_
  refine jcp (_ :: _ :: _ :: _ :: h) (o_l07Grown d 2 0 (stA d c c.groups.length).1 hv (by omega)) (List.Perm.refl _) (LeL.refl _) rfl rfl (fun v h1 hR => ?_)
  obtain ⟨ob, cp, rfl, rfl⟩ := hR
  repeat' (first
      | (refine j_go ?_; first
        | refine j_op0 rfl rfl rfl rfl ?_)
      | refine j_nil ?_
      | (refine r_go ?_; first | refine run_seq ?_)
      | refine seqQ_normal ?_)
  have ok1 := ok.1
  refine run_view (view_cellF (k := 2) (b := some b1) (h1 := [_]) (F := _ :: _ :: _ :: h) ((List.Perm.swap _ _ _).trans (List.Perm.cons _ (List.Perm.swap _ _ _))) rfl (FrzF.flat (g := Go.AI.encI) (ys := sk) (z := 1) rfl rfl (fun _ => rfl) rfl rfl)) ?_
  repeat' (first
      | (refine j_goO ?_; first
        | refine j_op0O rfl rfl rfl rfl ?_ | (refine j_kLoadO rfl ?_; first | refine j_mloadO 0 rfl rfl rfl rfl rfl rfl rfl rfl ?_ | refine j_mloadS 0 rfl rfl rfl rfl rfl rfl rfl ?_))
      | (refine r_go ?_; first | refine run_opn 7 [⟨0, false, false, 0⟩, ⟨1, false, false, 0⟩, ⟨2, false, false, 0⟩, ⟨3, false, false, 0⟩, ⟨4, true, false, 0⟩, ⟨5, true, false, 0⟩, ⟨6, true, false, 0⟩, ⟨7, true, false, 0⟩, ⟨8, true, false, 0⟩, ⟨11, false, false, 0⟩, ⟨12, false, false, 0⟩, ⟨13, false, false, 0⟩, ⟨14, false, false, 0⟩, ⟨16, false, false, 0⟩, ⟨17, false, false, 0⟩, ⟨18, false, false, 0⟩, ⟨19, false, false, 0⟩, ⟨9, false, true, 0⟩, ⟨10, false, true, 0⟩, ⟨15, true, false, 0⟩, ⟨20, true, false, 0⟩, ⟨21, false, false, 0⟩, ⟨22, false, false, 0⟩, ⟨23, false, true, 0⟩, ⟨24, true, false, 0⟩] rfl rfl (by kernel_rfl) ?_))
  · refine j_appendO 1 (g := Go.AI.encI) (ys := d.grown 2 0 (stA d c c.groups.length).1) sk rfl (fun k hk => by rw [memB2 hk]; exact List.mem_cons_self) rfl rfl rfl rfl rfl rfl rfl rfl rfl rfl rfl rfl (fun _ => rfl) (fun _ _ => rfl) ⟨by omega, by omega⟩ rfl rfl (fun b' cap' => ?_)
    refine j_kCallO rfl rfl rfl rfl ?_
    refine jctO [⟨b', 2, cap' * 1, ((d.grown 2 0 (stA d c c.groups.length).1 ++ sk).map Go.AI.encI).flatten⟩] (o_l07Sorted d.objects (d.grown 2 0 (stA d c c.groups.length).1 ++ sk) hd (by rw [List.length_append]; omega) (mem_rng2 gr ok.2.1)) rfl (fun k hk => by rw [memB2 hk]; exact List.mem_cons_self) (fun k hk => by rw [List.mem_singleton] at hk; subst hk; exact List.mem_cons_of_mem _ List.mem_cons_self) (FrzL.cons (Frz.same _ _) (FrzL.cons (Frz.flat (g := Go.AI.encI) (z := 1) rfl rfl (fun _ => rfl) rfl rfl) (FrzL.nil _))) (fun v h1 q => q.clo) rfl rfl (fun v h1 hR => ?_)
    obtain ⟨b6, c6, rfl, rfl⟩ := hR
    have dr : dec (¬ Rests d c) = dec ((stA d c c.groups.length).2 ∨ ∃ x ∈ (stA d c c.groups.length).1, d.hasR 2 0 x) := dec_congr ⟨fun q => Classical.byContradiction q, fun q z => z q⟩
    have sh : ∀ (a1 a2 a3 a4 a5 : Blk), h.Sublist (a1 :: a2 :: a3 :: a4 :: a5 :: h) := fun _ _ _ _ _ => sub2.trans sub3
    unfold StepX
    rw [dr]
    repeat' (first
      | (refine j_goO ?_; first
        | refine j_op0O rfl rfl rfl rfl ?_ | refine j_offO rfl rfl rfl ?_ | (refine j_kGuardO rfl ?_; first | (refine (j_ifO rfl rfl rfl (fun hb => ?_) (fun hb => ?_)) <;> first | (exfalso; omega) | skip)) | refine j_buildO rfl rfl rfl rfl rfl rfl rfl ?_))
    all_goals
      refine j_storeNO 4 rfl rfl rfl rfl rfl rfl rfl rfl rfl rfl rfl rfl (fun k hk => by rw [memB2 hk]; exact List.mem_cons_of_mem _ List.mem_cons_self) ?_
      repeat' (first
      | (refine j_goO ?_; first
        | refine j_op0O rfl rfl rfl rfl ?_)
      | refine j_nilO ?_
      | (refine r_go ?_; first | refine run_ret ?_)
      | refine seqQ_normal ?_)
    · skip
      refine endD_view (view_cellF (k := 0) (b := some b0) (T := 30) (room := 2) (cs := [.os b6 (srtL d.objects (d.grown 2 0 (stA d c c.groups.length).1 ++ sk)).length c6, .os bc gs.length cc]) (h1 := [⟨b6, 2, c6 * 1, ((srtL d.objects (d.grown 2 0 (stA d c c.groups.length).1 ++ sk)).map Go.AI.encI).flatten⟩]) (F := _ :: _ :: mvC bc cc gs :: h) (pmx5 _ _ _ _ _ _) rfl (FrzF.flat (g := Go.AI.encI) (ys := srtL d.objects (d.grown 2 0 (stA d c c.groups.length).1 ++ sk)) (z := 1) rfl rfl (fun _ => rfl) rfl rfl)) ?_
      refine endD_view (view_cellF (k := 1) (b := some b0) (T := 30) (room := 2) (cs := [.sl ((srtL d.objects (d.grown 2 0 (stA d c c.groups.length).1 ++ sk)).map Go.AI.encI), .os bc gs.length cc]) (h1 := [mvC bc cc gs]) (F := _ :: _ :: h) (pmx4 _ _ _ _ _) rfl (FrzF.flat (g := encGroup) (ys := gs) (z := 3) rfl rfl (fun _ => rfl) rfl rfl)) ?_
      refine endD_view (view_freezeP 0 4 rfl rfl) ?_
      refine endD_view (view_sub sub2) ?_
      exact endD_ret (h1 := []) rfl (vs := [_, _]) (.cons (.cellI rfl rfl) (.cons (.tmp rfl) .nil)) (Le.refl _) ⟨rfl, sk, tr, ok.2.1, ok.1, by rw [dec_t (.inl (by assumption)), eg]; rfl⟩ (.inl rfl)
    · skip
      refine endD_view (view_cellF (k := 0) (b := some b0) (T := 30) (room := 2) (cs := [.os b6 (srtL d.objects (d.grown 2 0 (stA d c c.groups.length).1 ++ sk)).length c6, .os bc gs.length cc]) (h1 := [⟨b6, 2, c6 * 1, ((srtL d.objects (d.grown 2 0 (stA d c c.groups.length).1 ++ sk)).map Go.AI.encI).flatten⟩]) (F := _ :: _ :: mvC bc cc gs :: h) (pmx5 _ _ _ _ _ _) rfl (FrzF.flat (g := Go.AI.encI) (ys := srtL d.objects (d.grown 2 0 (stA d c c.groups.length).1 ++ sk)) (z := 1) rfl rfl (fun _ => rfl) rfl rfl)) ?_
      refine endD_view (view_cellF (k := 1) (b := some b0) (T := 30) (room := 2) (cs := [.sl ((srtL d.objects (d.grown 2 0 (stA d c c.groups.length).1 ++ sk)).map Go.AI.encI), .os bc gs.length cc]) (h1 := [mvC bc cc gs]) (F := _ :: _ :: h) (pmx4 _ _ _ _ _) rfl (FrzF.flat (g := encGroup) (ys := gs) (z := 3) rfl rfl (fun _ => rfl) rfl rfl)) ?_
      refine endD_view (view_freezeP 0 4 rfl rfl) ?_
      refine endD_view (view_sub sub2) ?_
      exact endD_ret (h1 := []) rfl (vs := [_, _]) (.cons (.cellI rfl rfl) (.cons (.tmp rfl) .nil)) (Le.refl _) ⟨rfl, sk, tr, ok.2.1, ok.1, by rw [dec_congr (show ((stA d c c.groups.length).2 ∨ ∃ x ∈ (stA d c c.groups.length).1, d.hasR 2 0 x) ↔ ∃ x ∈ (stA d c c.groups.length).1, d.hasR 2 0 x from ⟨fun q => q.resolve_left (by assumption), .inr⟩), eg]; rfl⟩ (.inl rfl)
end Go.Proofs.YtbhiaccbpbnbmaaGreat

/-
  A step of a colony: StepColony of the reference. No condition.
-/
namespace Go.Proofs.YtbhiaccbpbnbmaaGreat
open Go.AI
set_option maxRecDepth 8000
set_option maxHeartbeats 3200000
theorem c_sStepColony (d : Division) (c : Colony) (hv : d.Valid) (hc : c.Ok d.objects) : Gives Tryz.prog 8 [.agg (encDivision d), .agg (encColony c)] (.tup [.agg (encColony (resStep d c)), .int (cdStep d c)]) := by
  refine fn_of_run tyOk ztOk mix Tryz.func8 rfl (by decide) Tryz.ntmps8 (fun w0 h => ?_)
  have cA := c_l07Asked d c
  rw [cd2_o hv hc] at cA
  repeat' (first
      | (refine j_go ?_; first
        | refine j_op0 rfl rfl rfl rfl ?_ | (refine j_kCall rfl rfl rfl rfl ?_; first | refine jc (cA) (LeL.refl _) rfl rfl ?_) | refine j_box rfl rfl rfl rfl rfl rfl ?_ | refine j_alloc rfl rfl rfl rfl rfl (fun _ => ?_))
      | refine j_nil ?_
      | (refine r_go ?_; first | refine run_seq ?_ | refine run_region ?_ | (refine (run_ifn rfl (fun hb => ?_) (fun hb => ?_)) <;> first | (exfalso; omega) | skip) | refine run_skip ?_)
      | refine seqQ_normal ?_)
  rename_i b4
  refine j_kCall rfl rfl rfl rfl ?_
  refine jcp (_ :: h) (o_l07StepX d c hv hc) (List.Perm.refl _) (LeL.refl _) rfl rfl (fun v h1 hR => ?_)
  obtain ⟨rfl, sk, tr, hr, hl, rfl⟩ := hR
  have sx := stpX hv hc tr hr
  obtain ⟨X, eX⟩ : ∃ X : Colony, X = ⟨srtL d.objects (d.grown 2 0 (stA d c c.groups.length).1 ++ sk), addM d.objects [] (cellsA d (usA d c c.groups.length))⟩ := ⟨_, rfl⟩
  have sx : X = stpC d c ∨ (¬ X.Ok d.objects ∧ ¬ (stpC d c).Ok d.objects) := by rw [eX]; exact sx
  rw [← eX]
  clear eX tr hr hl
  repeat' (first
      | (refine j_go ?_; first
        | refine j_op0 rfl rfl rfl rfl ?_ | (refine j_kStore rfl ?_; first | refine j_storeN 0 rfl rfl rfl rfl rfl rfl rfl rfl rfl rfl rfl ?_) | refine j_alloc rfl rfl rfl rfl rfl (fun _ => ?_))
      | refine j_nil ?_
      | (refine r_go ?_; first | refine run_seq ?_ | refine run_region ?_)
      | refine seqQ_normal ?_)
  rename_i b7
  refine j_view (view_freezeP 0 7 rfl rfl) ?_
  repeat' (first
      | (refine j_go ?_; first
        | refine j_op0 rfl rfl rfl rfl ?_ | (refine j_kCall rfl rfl rfl rfl ?_; first | refine jc (c_l07Colony d X hv.1) (LeL.refl _) rfl rfl ?_) | (refine j_kStore rfl ?_; first | refine j_storeN 0 rfl rfl rfl rfl rfl rfl rfl rfl rfl rfl rfl ?_) | refine j_build rfl rfl rfl rfl rfl rfl rfl ?_)
      | refine j_nil ?_
      | (refine r_go ?_; first | refine run_seq ?_ | refine run_region ?_ | (refine (run_ifn rfl (fun hb => ?_) (fun hb => ?_)) <;> first | (exfalso; omega) | skip) | refine run_ret ?_ | refine run_skip ?_)
      | refine seqQ_normal ?_ | refine seqQ_ret ?_)
  · have hn : ¬ (stpC d c).Ok d.objects := sx.elim (fun q => by rw [← q]; exact hb) (fun q => q.2)
    rw [(rs_f hn).1, (rs_f hn).2]
    exact end_view (view_freezeP 0 4 rfl rfl) (end_le (List.Sublist.refl _) (vs := [_, _]) (.cons (.cellI rfl rfl) (.cons (.tmp rfl) .nil)) (Le.tup2 (Le.agg (LeL.cons (Le.nil 0) (LeL.cons (Le.nil 0) LeL.nil)))) (.inl rfl))
  · have he : X = stpC d c := sx.resolve_right (fun q => q.1 hb)
    subst he
    rw [(rs_t hb).1, (rs_t hb).2]
    exact end_view (view_freezeP 0 4 rfl rfl) (end_le (List.Sublist.refl _) (vs := [_, _]) (.cons (.cellI rfl rfl) (.cons (.tmp rfl) .nil)) (Le.refl _) (.inl rfl))
end Go.Proofs.YtbhiaccbpbnbmaaGreat

/-
  A step of a colony: the program. No condition.
-/
namespace Go.Proofs.YtbhiaccbpbnbmaaGreat
open Go.AI
set_option maxRecDepth 8000
set_option maxHeartbeats 3200000
abbrev sgB (b9 : Nat) (ob : Option Nat) (n cap : Nat) : Blk := ⟨some b9, 28, 1, [.os ob n cap]⟩
abbrev slG (ob : Option Nat) (cap : Nat) (gs : List Group) : Blk := ⟨ob, 54, cap * 3, (gs.map encGroup).flatten⟩
theorem o_stepC (b9 : Nat) (gs : List Group) (ob : Option Nat) (cap : Nat) (ct more : List Int) (u : Use) (ch : Int) (hg : gs.length ≤ 1000000) (hc : ct.length ≤ 5000) (hm : more.length ≤ 5000) :
    Does Tryz.prog 49 [.int ch, .sl (more.map Go.AI.encI), .op (some b9) 0, .ip [.sl (ct.map Go.AI.encI)], .ip (encUse u)] [sgB b9 ob gs.length cap, slG ob cap gs]
      (fun _ h' => ∃ ob' cap', h' = [sgB b9 ob' (gs ++ [(⟨ch, ct ++ more, u.many⟩ : Group)]).length cap', slG ob' cap' (gs ++ [⟨ch, ct ++ more, u.many⟩])]) := by
  refine fn_of_runD tyOk ztOk mix Tryz.func49 rfl (by decide) Tryz.ntmps49 (fun w0 F => ?_)
  change Run _ _ _ _ _ (_ :: _ :: F)
  have cC := c_concat [ct, more] (by simp) (by simp only [List.flatten_cons, List.flatten_nil, List.append_nil, List.length_append]; omega)
  rw [show [ct, more].flatten = ct ++ more from by simp] at cC
  repeat' (first
      | (refine j_goO ?_; first
        | refine j_op0O rfl rfl rfl rfl ?_ | (refine j_kCallO rfl rfl rfl rfl ?_; first | refine jcO (cC) (LeL.refl _) rfl rfl ?_) | (refine j_kLoadO rfl ?_; first | refine j_mloadO 0 rfl rfl rfl rfl rfl rfl rfl rfl ?_) | (refine j_kBslO rfl ?_; first | refine j_bslO rfl rfl rfl rfl rfl rfl rfl rfl rfl rfl rfl ?_) | refine j_buildO rfl rfl rfl rfl rfl rfl rfl ?_)
      | (refine r_go ?_; first | refine run_opn 0 [⟨0, true, false, 0⟩, ⟨1, true, false, 0⟩, ⟨2, true, false, 0⟩, ⟨3, true, false, 0⟩, ⟨4, true, false, 0⟩, ⟨5, true, false, 0⟩, ⟨6, true, false, 0⟩, ⟨7, true, false, 0⟩, ⟨8, true, false, 0⟩, ⟨9, true, false, 0⟩, ⟨10, false, true, 0⟩, ⟨11, false, true, 0⟩] rfl rfl (by kernel_rfl) ?_))
  refine j_appendO 1 (g := encGroup) (ys := gs) [⟨ch, ct ++ more, u.many⟩] rfl (fun _ hk => nomatch hk) rfl rfl rfl rfl rfl rfl rfl rfl rfl rfl rfl rfl (fun _ => rfl) (fun _ _ => rfl) ⟨by simp only [List.length_cons, List.length_nil]; omega, by simp only [List.length_cons, List.length_nil]; omega⟩ rfl rfl (fun b' cap' => ?_)
  repeat' (first
      | (refine j_goO ?_; first
        | (refine j_kStoreO rfl ?_; first | refine j_storeO 0 rfl rfl rfl rfl rfl rfl rfl rfl rfl rfl rfl rfl (by first | (intro _ hk; exact absurd hk List.not_mem_nil) | (intro k hk; simp at hk ⊢; try simp [hk])) ?_))
      | refine j_nilO ?_)
  exact endD_ret (h1 := [_, _]) rfl .nil (Le.refl _) ⟨b', cap', rfl⟩ (.inr rfl)
theorem c_grown (d : Division) (kind charge : Int) (l : List Int) (hv : d.Valid) (hl : l.length ≤ 1100000) : Gives Tryz.prog 47 [.agg (encDivision d), .int kind, .int charge, .sl (l.map Go.AI.encI)] (.sl ((d.grown kind charge l).map Go.AI.encI)) := (o_grown d kind charge l hv hl).frozen fun _ _ ⟨b, cap, q1, q2⟩ => by rw [q1, q2]; exact FrzF.flat rfl rfl (fun _ => rfl) rfl rfl
theorem usK_mem {d : Division} {g : Group} {l : List Int} : ∀ k, k ≤ d.rules.length → ∀ u ∈ usK d g l k, u.r.kind = 5 ∨ u.r.object ∈ u.g.contents
  | 0, _, u, hu => absurd hu List.not_mem_nil
  | k + 1, hk, u, hu => by
    have hk' : k < d.rules.length := by omega
    by_cases q : 0 < manyOf g (stK d g l k).1 (stK d g l k).2 d.rules[k]
    · rw [usK_yes hk' q] at hu
      rcases List.mem_append.1 hu with hu | hu
      · exact usK_mem k (by omega) u hu
      · rw [List.mem_singleton] at hu
        subst hu
        dsimp only
        by_cases h5 : d.rules[k].kind = 5
        · exact .inl h5
        · refine .inr (Classical.byContradiction fun hm => ?_)
          by_cases z : d.rules[k].kind = 1 ∨ d.rules[k].kind = 2 ∨ d.rules[k].charge ≠ g.charge ∨ (stK d g l k).2 = 0
          · rw [many_no z] at q; omega
          · rw [many_out z h5 hm] at q; omega
    · rw [usK_no hk' q] at hu
      exact usK_mem k (by omega) u hu
theorem usC_mem {d : Division} {c : Colony} : ∀ u ∈ usC d c, u.r.kind = 0 ∨ u.r.kind = 5 ∨ u.r.object ∈ u.g.contents := by
  have key : ∀ k, k ≤ c.groups.length → ∀ u ∈ usA d c k, u.r.kind = 0 ∨ u.r.kind = 5 ∨ u.r.object ∈ u.g.contents := by
    intro k
    induction k with
    | zero => intro _ u hu; cases hu
    | succ k ih =>
      intro hk u hu
      rw [usA_succ (by omega)] at hu
      rcases List.mem_append.1 hu with hu | hu
      · exact ih (by omega) u hu
      · unfold usG at hu
        rcases List.mem_append.1 hu with hu | hu
        · exact .inr (usK_mem _ (Nat.le_refl _) u hu)
        · split at hu
          · rw [List.mem_singleton] at hu; subst hu; exact .inl rfl
          · cases hu
  exact key _ (Nat.le_refl _)
theorem c_gather (skin : List Int) (gs : List Group) {o : Int} (hs : skin.length ≤ 1048576) (hl : gs.length ≤ 1048576) (hc : ∀ g ∈ gs, g.contents.length ≤ 1048576) (hG : ∀ g ∈ gs, GrpOk o g) :
    Gives Tryz.prog 37 [.sl (skin.map Go.AI.encI), .sl (gs.map encGroup)] (.agg (encColony (colG skin gs))) :=
  (o_gather skin gs hs hl (fun g hg => ⟨hc g hg, (hG g hg).2.1⟩)).frozen fun v h1 ⟨ks, ag, oC⟩ => by
    obtain rfl := ag.uniq (ksG_agg hG)
    exact oC.frzF
open Classical in
theorem c_colonyOrLimit (d : Division) (c : Colony) (hd : 1 ≤ d.objects ∧ d.objects ≤ 64) : Gives Tryz.prog 36 [.agg (encDivision d), .agg (encColony c)] (.tup [.agg (encColony (if c.Ok d.objects then c else ⟨[], []⟩)), .int (if c.Ok d.objects then 0 else 3)]) := by
  refine fn_of_run tyOk ztOk mix Tryz.func36 rfl (by decide) Tryz.ntmps36 (fun w0 h => ?_)
  repeat' (first
      | (refine j_go ?_; first
        | refine j_op0 rfl rfl rfl rfl ?_ | (refine j_kCall rfl rfl rfl rfl ?_; first | refine jc (c_isColony d c hd) (LeL.refl _) rfl rfl ?_) | (refine j_kStore rfl ?_; first | refine j_storeN 0 rfl rfl rfl rfl rfl rfl rfl rfl rfl rfl rfl ?_) | refine j_box rfl rfl rfl rfl rfl rfl ?_ | refine j_build rfl rfl rfl rfl rfl rfl rfl ?_ | refine j_alloc rfl rfl rfl rfl rfl (fun _ => ?_))
      | refine j_nil ?_
      | (refine r_go ?_; first | refine run_seq ?_ | refine run_region ?_ | (refine (run_ifn rfl (fun hb => ?_) (fun hb => ?_)) <;> first | (exfalso; omega) | skip) | refine run_ret ?_ | refine run_skip ?_)
      | refine seqQ_normal ?_ | refine seqQ_ret ?_)
  · rw [if_neg hb, if_neg hb]
    exact end_view (view_freezeP 0 4 rfl rfl) (end_le (List.Sublist.refl _) (vs := [_, _]) (.cons (.cellI rfl rfl) (.cons (.tmp rfl) .nil)) (Le.tup2 (Le.agg (LeL.cons (Le.nil 0) (LeL.cons (Le.nil 0) LeL.nil)))) (.inl rfl))
  · rw [if_pos hb, if_pos hb]
    exact end_view (view_freezeP 0 4 rfl rfl) (end_le (List.Sublist.refl _) (vs := [_, _]) (.cons (.cellI rfl rfl) (.cons (.tmp rfl) .nil)) (Le.refl _) (.inl rfl))
end Go.Proofs.YtbhiaccbpbnbmaaGreat
