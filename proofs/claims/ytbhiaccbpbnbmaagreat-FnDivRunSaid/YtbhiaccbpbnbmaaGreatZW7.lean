/-
  A step of a colony: the reference, where the colony lies in a block of the call's own. No condition.
-/
import Derived.Test.YtbhiaccbpbnbmaaGreatZW4
import Derived.Test.YtbhiaccbpbnbmaaGreatZDQ
import Derived.Test.YtbhiaccbpbnbmaaGreatZMX
import Derived.Test.YtbhiaccbpbnbmaaGreatZS0
import Derived.Test.YtbhiaccbpbnbmaaGreatZRY
import Derived.Test.YtbhiaccbpbnbmaaGreatZE5
namespace Go.Proofs.YtbhiaccbpbnbmaaGreat
open Go.AI
set_option maxRecDepth 8000
set_option maxHeartbeats 3200000
abbrev colK (b : Nat) (c : Colony) : Blk := ⟨some b, 30, 2, encColony c⟩
/-- What a step hands back, with the colony's own block. -/
def StepK (b : Nat) (d : Division) (c : Colony) : A → Heap → Prop := fun v h' => h' = [colK b c] ∧ ∃ sk, TrP (outA d (usA d c c.groups.length)) sk ∧ (∀ y ∈ sk, 0 ≤ y ∧ y ≤ d.objects - 1) ∧ sk.length ≤ 5000 ∧
  v = .tup [.agg (encColony ⟨srtL d.objects (d.grown 2 0 (stA d c c.groups.length).1 ++ sk), addM d.objects [] (cellsA d (usA d c c.groups.length))⟩), .raw (.bool (dec (¬ Rests d c)))]
theorem o_l07StepK (bc0 : Nat) (d : Division) (c : Colony) (hv : d.Valid) (hc : c.Ok d.objects) : Does Tryz.prog 25 [.ip (encDivision d), .op (some bc0) 0] [colK bc0 c] (StepK bc0 d c) := by
  refine fn_of_runD tyOk ztOk mix Tryz.func25 rfl (by decide) Tryz.ntmps25 (fun w0 h => ?_)
  change Run _ _ _ _ _ (_ :: h)
  have hd := hv.1
  have r120 := hv.2.1
  have sk300 := hc.1.2
  have g200 := hc.2.1
  have hnn : ∀ g ∈ c.groups, 0 ≤ g.count := hc.nn
  repeat' (first
      | (refine j_go ?_; first
        | refine j_op0 rfl rfl rfl rfl ?_ | (refine j_kCall rfl rfl rfl rfl ?_; first | refine jc (c_l00Own c.skin (by omega)) (LeL.refl _) rfl rfl ?_) | (refine j_kLoad rfl ?_; first | refine j_mload 1 rfl rfl rfl rfl rfl rfl rfl ?_) | refine j_build rfl rfl rfl rfl rfl rfl rfl ?_ | refine j_alloc rfl rfl rfl rfl rfl (fun _ => ?_))
      | refine j_nil ?_
      | (refine r_go ?_; first | refine run_seq ?_ | refine run_region ?_)
      | refine seqQ_normal ?_)
  rename_i b0
  refine j_boxM rfl rfl rfl rfl rfl rfl (fun b1 => ?_)
  repeat' (first
      | (refine j_go ?_; first
        | refine j_op0 rfl rfl rfl rfl ?_)
      | refine j_nil ?_
      | (refine r_go ?_; first | refine run_seq ?_ | refine run_region ?_ | refine run_block ?_)
      | refine seqQ_normal ?_)
  refine run_view (view_none 2 (0 * 1) rfl) ?_
  refine run_view (view_none 54 (0 * 3) rfl) ?_
  refine run_view (view_perm rev3) ?_
  have e0 : dec (stA d c 0).2 = false := dec_f (fun q => q)
  refine run_loop (fun s : Nat × List Int × List Group × Option Nat × Nat × Option Nat × Nat => [(0, .ip (encDivision d)), (1, .op (some bc0) 0), (4, .op (some b0) 0), (6, .op (some b1) 0), (7, .int (s.1 : Int))])
    (fun s => mvB b1 d (stA d c s.1).1 s.2.2.2.1 s.2.1.length s.2.2.2.2.1 s.2.2.2.2.2.1 s.2.2.1.length s.2.2.2.2.2.2 (.raw (.bool (dec (stA d c s.1).2))) :: mvS s.2.2.2.1 s.2.2.2.2.1 s.2.1 :: mvC s.2.2.2.2.2.1 s.2.2.2.2.2.2 s.2.2.1 :: ⟨some b0, 30, 2, [.os none 0 0, .os none 0 0]⟩ :: colK bc0 c :: h)
    (fun s => s.1 ≤ c.groups.length ∧ MvOk d (241 * s.1) s.2.1 s.2.2.1 ∧ s.2.2.1 = addM d.objects [] (cellsA d (usA d c s.1)) ∧ TrP (outA d (usA d c s.1)) s.2.1) (fun s => c.groups.length - s.1) (0, [], [], none, 0, none, 0) ⟨rfl, rfl, rfl, rfl, rfl, trivial⟩ (by dsimp only; rw [e0]; rfl) ⟨Nat.zero_le _, ⟨by simp, by simp, by simp, by simp⟩, rfl, TrP.same []⟩ (fun ⟨k, sk, gs, bs, cs, bc, cc⟩ ⟨kl, ok, eg, tr⟩ => ?_)
  dsimp only at kl ok eg tr ⊢
  have sl := (stA_sub (d := d) hnn k kl).length_le
  by_cases hk : k < c.groups.length
  case pos =>
    have hu := hc.upto hk
    have hg := (hc.2.2.1 k hk).1
    repeat' (first
      | (refine j_go ?_; first
        | refine j_op0 rfl rfl rfl rfl ?_ | (refine j_kIdx rfl ?_; first | refine j_idx rfl rfl rfl rfl rfl (by omega) rfl rfl rfl ?_) | (refine j_kLen rfl ?_; first | refine j_len rfl rfl rfl rfl rfl rfl ?_) | (refine j_kLoad rfl ?_; first | refine j_mload 4 rfl rfl rfl rfl rfl rfl rfl ?_))
      | refine j_nil ?_
      | (refine r_go ?_; first | refine run_seq ?_ | refine run_region ?_ | (refine (run_if rfl (fun hb => ?_) (fun hb => ?_)) <;> first | (exfalso; omega) | skip) | refine run_block ?_ | refine run_skip ?_)
      | refine seqQ_normal ?_)
    refine j_kCall rfl rfl rfl rfl ?_
    refine jcp (_ :: _ :: h) (o_mvGroupX b1 d (stA d c k).1 sk gs c.groups[k] (241 * k) (stA d c k).2 bs bc cs cc hv (by omega) hg.1 (by omega) hg.2.1 ok (by omega) _ tr) (List.Perm.refl _) (LeL.refl _) rfl rfl (fun v h3 hR => ?_)
    obtain ⟨sk2, b2, c2, b3, c3, ok2, tr2, rfl⟩ := hR
    repeat' (first
      | (refine j_go ?_; first
        | refine j_op0 rfl rfl rfl rfl ?_ | (refine j_kBin rfl ?_; first | refine j_in rfl rfl ⟨by omega, by omega⟩ rfl rfl ?_))
      | refine j_nil ?_
      | (refine r_go ?_; first | refine run_region ?_)
      | refine seqQ_normal ?_ | refine blockQ_normal ?_)
    exact loopQ_next (k + 1, sk2, addM d.objects gs (cellsA d (usG d (stA d c k).1 c.groups[k])), b2, c2, b3, c3) ⟨by dsimp only; omega, ok2.mono (by dsimp only; omega), by dsimp only; rw [usA_succ hk, cellsA_app, addM_app, ← eg], by dsimp only; rw [usA_succ hk, outA_app]; exact tr2⟩ (by dsimp only; omega) (by dsimp only; rw [stA_succ hk]; rfl) ⟨rfl, rfl, rfl, rfl, nx _, trivial⟩
  obtain rfl : k = c.groups.length := by omega
  have hsk := hc.1.rng
  have hlr : ∀ y ∈ (stA d c c.groups.length).1, 0 ≤ y ∧ y ≤ d.objects - 1 := fun y hy => hsk y ((stA_sub (d := d) hnn _ kl).subset hy)
  have gr := grown_rng hv (kind := 2) (charge := 0) hlr
  have gl := grown_len hv (kind := 2) (charge := 0) (stA d c c.groups.length).1
  repeat' (first
      | (refine j_go ?_; first
        | refine j_op0 rfl rfl rfl rfl ?_ | (refine j_kLen rfl ?_; first | refine j_len rfl rfl rfl rfl rfl rfl ?_) | (refine j_kLoad rfl ?_; first | refine j_mload 0 rfl rfl rfl rfl rfl rfl rfl ?_ | refine j_mload 4 rfl rfl rfl rfl rfl rfl rfl ?_))
      | refine j_nil ?_
      | (refine r_go ?_; first | refine run_seq ?_ | refine run_region ?_ | (refine (run_if rfl (fun hb => ?_) (fun hb => ?_)) <;> first | (exfalso; omega) | skip) | refine run_exit ?_)
      | refine seqQ_normal ?_ | refine seqQ_exit ?_ | refine blockQ_eq ?_ | refine loopQ_exit ?_)
  refine j_kCall rfl rfl rfl rfl ?_
  refine jcp (_ :: _ :: _ :: _ :: _ :: h) (o_l07Grown d 2 0 (stA d c c.groups.length).1 hv (by omega)) (List.Perm.refl _) (LeL.refl _) rfl rfl (fun v h1 hR => ?_)
  obtain ⟨ob, cp, rfl, rfl⟩ := hR
  repeat' (first
      | (refine j_go ?_; first
        | refine j_op0 rfl rfl rfl rfl ?_)
      | refine j_nil ?_
      | (refine r_go ?_; first | refine run_seq ?_)
      | refine seqQ_normal ?_)
  have ok1 := ok.1
  refine run_view (view_cellF (k := 2) (b := some b1) (h1 := [_]) (F := _ :: _ :: _ :: _ :: h) ((List.Perm.swap _ _ _).trans (List.Perm.cons _ (List.Perm.swap _ _ _))) rfl (FrzF.flat (g := Go.AI.encI) (ys := sk) (z := 1) rfl rfl (fun _ => rfl) rfl rfl)) ?_
  repeat' (first
      | (refine j_goO ?_; first
        | refine j_op0O rfl rfl rfl rfl ?_ | (refine j_kLoadO rfl ?_; first | refine j_mloadO 0 rfl rfl rfl rfl rfl rfl rfl rfl ?_ | refine j_mloadS 0 rfl rfl rfl rfl rfl rfl rfl ?_))
      | (refine r_go ?_; first | refine run_opn 7 [⟨0, false, false, 0⟩, ⟨1, false, false, 0⟩, ⟨2, false, false, 0⟩, ⟨3, false, false, 0⟩, ⟨4, true, false, 0⟩, ⟨5, true, false, 0⟩, ⟨6, true, false, 0⟩, ⟨7, true, false, 0⟩, ⟨8, true, false, 0⟩, ⟨11, false, false, 0⟩, ⟨12, false, false, 0⟩, ⟨13, false, false, 0⟩, ⟨14, false, false, 0⟩, ⟨16, false, false, 0⟩, ⟨17, false, false, 0⟩, ⟨18, false, false, 0⟩, ⟨19, false, false, 0⟩, ⟨9, false, true, 0⟩, ⟨10, false, true, 0⟩, ⟨15, true, false, 0⟩, ⟨20, true, false, 0⟩, ⟨21, false, false, 0⟩, ⟨22, false, false, 0⟩, ⟨23, false, true, 0⟩, ⟨24, true, false, 0⟩] rfl rfl (by kernel_rfl) ?_))
  · refine j_appendO 1 (g := Go.AI.encI) (ys := d.grown 2 0 (stA d c c.groups.length).1) sk rfl (fun k hk => by rw [memB2 hk]; exact List.mem_cons_self) rfl rfl rfl rfl rfl rfl rfl rfl rfl rfl rfl rfl (fun _ => rfl) (fun _ _ => rfl) ⟨by omega, by omega⟩ rfl rfl (fun b' cap' => ?_)
    refine j_kCallO rfl rfl rfl rfl ?_
    refine jctO [⟨b', 2, cap' * 1, ((d.grown 2 0 (stA d c c.groups.length).1 ++ sk).map Go.AI.encI).flatten⟩] (o_l07Sorted d.objects (d.grown 2 0 (stA d c c.groups.length).1 ++ sk) hd (by rw [List.length_append]; omega) (mem_rng2 gr ok.2.1)) rfl (fun k hk => by rw [memB2 hk]; exact List.mem_cons_self) (fun k hk => by rw [List.mem_singleton] at hk; subst hk; exact List.mem_cons_of_mem _ List.mem_cons_self) (FrzL.cons (Frz.same _ _) (FrzL.cons (Frz.flat (g := Go.AI.encI) (z := 1) rfl rfl (fun _ => rfl) rfl rfl) (FrzL.nil _))) (fun v h1 q => q.clo) rfl rfl (fun v h1 hR => ?_)
    obtain ⟨b6, c6, rfl, rfl⟩ := hR
    have dr : dec (¬ Rests d c) = dec ((stA d c c.groups.length).2 ∨ ∃ x ∈ (stA d c c.groups.length).1, d.hasR 2 0 x) := dec_congr ⟨fun q => Classical.byContradiction q, fun q z => z q⟩
    unfold StepK
    rw [dr]
    repeat' (first
      | (refine j_goO ?_; first
        | refine j_op0O rfl rfl rfl rfl ?_ | refine j_offO rfl rfl rfl ?_ | (refine j_kGuardO rfl ?_; first | (refine (j_ifO rfl rfl rfl (fun hb => ?_) (fun hb => ?_)) <;> first | (exfalso; omega) | skip)) | refine j_buildO rfl rfl rfl rfl rfl rfl rfl ?_))
    all_goals
      refine j_storeNO 4 rfl rfl rfl rfl rfl rfl rfl rfl rfl rfl rfl rfl (fun k hk => by rw [memB2 hk]; exact List.mem_cons_of_mem _ List.mem_cons_self) ?_
      repeat' (first
      | (refine j_goO ?_; first
        | refine j_op0O rfl rfl rfl rfl ?_)
      | refine j_nilO ?_
      | (refine r_go ?_; first | refine run_ret ?_)
      | refine seqQ_normal ?_)
    · skip
      refine endD_view (view_cellF (k := 0) (b := some b0) (T := 30) (room := 2) (cs := [.os b6 (srtL d.objects (d.grown 2 0 (stA d c c.groups.length).1 ++ sk)).length c6, .os bc gs.length cc]) (h1 := [⟨b6, 2, c6 * 1, ((srtL d.objects (d.grown 2 0 (stA d c c.groups.length).1 ++ sk)).map Go.AI.encI).flatten⟩]) (F := _ :: _ :: mvC bc cc gs :: _ :: h) (pmx5 _ _ _ _ _ _) rfl (FrzF.flat (g := Go.AI.encI) (ys := srtL d.objects (d.grown 2 0 (stA d c c.groups.length).1 ++ sk)) (z := 1) rfl rfl (fun _ => rfl) rfl rfl)) ?_
      refine endD_view (view_cellF (k := 1) (b := some b0) (T := 30) (room := 2) (cs := [.sl ((srtL d.objects (d.grown 2 0 (stA d c c.groups.length).1 ++ sk)).map Go.AI.encI), .os bc gs.length cc]) (h1 := [mvC bc cc gs]) (F := _ :: _ :: _ :: h) (pmx4 _ _ _ _ _) rfl (FrzF.flat (g := encGroup) (ys := gs) (z := 3) rfl rfl (fun _ => rfl) rfl rfl)) ?_
      refine endD_view (view_freezeP 0 4 rfl rfl) ?_
      refine endD_view (view_sub sub2) ?_
      exact endD_ret (h1 := [_]) rfl (vs := [_, _]) (.cons (.cellI rfl rfl) (.cons (.tmp rfl) .nil)) (Le.refl _) ⟨rfl, sk, tr, ok.2.1, ok.1, by rw [dec_t (.inl (by assumption)), eg]; rfl⟩ (.inl rfl)
    · skip
      refine endD_view (view_cellF (k := 0) (b := some b0) (T := 30) (room := 2) (cs := [.os b6 (srtL d.objects (d.grown 2 0 (stA d c c.groups.length).1 ++ sk)).length c6, .os bc gs.length cc]) (h1 := [⟨b6, 2, c6 * 1, ((srtL d.objects (d.grown 2 0 (stA d c c.groups.length).1 ++ sk)).map Go.AI.encI).flatten⟩]) (F := _ :: _ :: mvC bc cc gs :: _ :: h) (pmx5 _ _ _ _ _ _) rfl (FrzF.flat (g := Go.AI.encI) (ys := srtL d.objects (d.grown 2 0 (stA d c c.groups.length).1 ++ sk)) (z := 1) rfl rfl (fun _ => rfl) rfl rfl)) ?_
      refine endD_view (view_cellF (k := 1) (b := some b0) (T := 30) (room := 2) (cs := [.sl ((srtL d.objects (d.grown 2 0 (stA d c c.groups.length).1 ++ sk)).map Go.AI.encI), .os bc gs.length cc]) (h1 := [mvC bc cc gs]) (F := _ :: _ :: _ :: h) (pmx4 _ _ _ _ _) rfl (FrzF.flat (g := encGroup) (ys := gs) (z := 3) rfl rfl (fun _ => rfl) rfl rfl)) ?_
      refine endD_view (view_freezeP 0 4 rfl rfl) ?_
      refine endD_view (view_sub sub2) ?_
      exact endD_ret (h1 := [_]) rfl (vs := [_, _]) (.cons (.cellI rfl rfl) (.cons (.tmp rfl) .nil)) (Le.refl _) ⟨rfl, sk, tr, ok.2.1, ok.1, by rw [dec_congr (show ((stA d c c.groups.length).2 ∨ ∃ x ∈ (stA d c c.groups.length).1, d.hasR 2 0 x) ↔ ∃ x ∈ (stA d c c.groups.length).1, d.hasR 2 0 x from ⟨fun q => q.resolve_left (by assumption), .inr⟩), eg]; rfl⟩ (.inl rfl)
end Go.Proofs.YtbhiaccbpbnbmaaGreat

/-
  Runs of a colony, plain: what a run hands back; a colony at rest stays as it is. No condition.
-/
namespace Go.Proofs.YtbhiaccbpbnbmaaGreat
open Go.AI
set_option maxRecDepth 8000
set_option maxHeartbeats 1600000
theorem grown_no {d : Division} {kind charge : Int} : ∀ {l : List Int}, (∀ x ∈ l, ¬ d.hasR kind charge x) → d.grown kind charge l = l
  | [], _ => rfl
  | x :: l, h => by
    have e : d.grown kind charge (x :: l) = d.grw kind charge x ++ d.grown kind charge l := rfl
    have e2 : d.grw kind charge x = [x] := by unfold Division.grw; rw [if_neg (h x List.mem_cons_self)]
    rw [e, e2, grown_no fun y hy => h y (List.mem_cons_of_mem _ hy)]; rfl
theorem stK_full {d : Division} {g : Group} {l : List Int} (h0 : 0 ≤ g.count) (h : (stK d g l d.rules.length).2 = g.count) : ∀ k, k ≤ d.rules.length → stK d g l k = (l, g.count) ∧ usK d g l k = []
  | 0, _ => ⟨by unfold stK; simp, rfl⟩
  | k + 1, hk => by
    have hk' : k < d.rules.length := by omega
    obtain ⟨i1, i2⟩ := stK_full h0 h k (by omega)
    have e : stK d g l d.rules.length = (d.rules.drop (k + 1)).foldl (stR g) (stK d g l (k + 1)) := by
      unfold stK; rw [List.take_length, ← List.foldl_append, List.take_append_drop]
    have b1 := stK_bnd (d := d) (l := l) (k := k + 1) h0
    have b2 := stF_bnd (g := g) (d.rules.drop (k + 1)) (stK d g l (k + 1)) b1.2.1
    rw [← e] at b2
    have es := stK_succ (d := d) (g := g) (l := l) hk'
    rw [i1] at es
    have e2 : (stK d g l (k + 1)).2 = g.count - manyOf g l g.count d.rules[k] := by rw [es]; rfl
    have m0 : manyOf g l g.count d.rules[k] = 0 := by omega
    refine ⟨by rw [es, stR_0 m0], ?_⟩
    rw [usK_no hk' (by rw [i1]; dsimp only; omega), i2]
theorem rest_upto {d : Division} {c : Colony} (hc : c.Ok d.objects) : ∀ k, k ≤ c.groups.length → ¬ (stA d c k).2 → (stA d c k).1 = c.skin ∧ cellsA d (usA d c k) = c.groups.take k ∧ outA d (usA d c k) = []
  | 0, _, _ => ⟨rfl, rfl, rfl⟩
  | k + 1, hk, h => by
    have hk' : k < c.groups.length := by omega
    have e := stA_succ (d := d) hk'
    rw [e] at h
    have hn : ¬ (stA d c k).2 := fun q => h (.inl q)
    have hu : ¬ usedG d (stA d c k).1 c.groups[k] := fun q => h (.inr q)
    obtain ⟨i1, i2, i3⟩ := rest_upto hc k (by omega) hn
    have hg := hc.upto hk'
    have h0 : 0 ≤ c.groups[k].count := by omega
    have hb := stK_bnd (d := d) (g := c.groups[k]) (l := (stA d c k).1) (k := d.rules.length) h0
    have hf : (stK d c.groups[k] (stA d c k).1 d.rules.length).2 = c.groups[k].count := by
      have : ¬ (stK d c.groups[k] (stA d c k).1 d.rules.length).2 < c.groups[k].count := fun q => hu (.inl q)
      omega
    have hr : ∀ x ∈ c.groups[k].contents, ¬ d.hasR 1 c.groups[k].charge x := fun x hx q => hu (.inr ⟨by omega, x, hx, q⟩)
    obtain ⟨f1, f2⟩ := stK_full h0 hf _ (Nat.le_refl _)
    have eU : usG d (stA d c k).1 c.groups[k] = [⟨c.groups[k], rule0, c.groups[k].count⟩] := by
      unfold usG; rw [f2, f1, if_pos (by dsimp only; omega)]; rfl
    have eC : cellsU d ⟨c.groups[k], rule0, c.groups[k].count⟩ = [c.groups[k]] := by
      unfold cellsU ctU rule0
      dsimp only
      rw [if_neg (by omega), if_neg (by omega), if_neg (by omega), if_neg (by omega), if_pos (.inl rfl), grown_no hr]
    have eO : outU d ⟨c.groups[k], rule0, c.groups[k].count⟩ = [] := rfl
    refine ⟨?_, ?_, ?_⟩
    · rw [e]; show stG d (stA d c k).1 c.groups[k] = _; unfold stG; rw [f1]; exact i1
    · rw [usA_succ hk', cellsA_app, eU, cellsA_one, eC, i2, List.take_succ_eq_append_getElem hk']
    · rw [usA_succ hk', outA_app, eU, outA_one, eO, i3, repL_nil]; rfl
theorem rest_stp {d : Division} {c : Colony} (hc : c.Ok d.objects) (h : Rests d c) : stpC d c = c := by
  unfold Rests at h
  obtain ⟨h1, h2, h3⟩ := rest_upto hc _ (Nat.le_refl _) (fun q => h (.inl q))
  have hs : ∀ x ∈ c.skin, ¬ d.hasR 2 0 x := fun x hx q => h (.inr ⟨x, by rw [h1]; exact hx, q⟩)
  have e1 : skC d c = c.skin := by
    unfold skC usC; rw [h3, h1, grown_no hs, List.append_nil]
  have e2 : cellsA d (usC d c) = c.groups := by unfold usC; rw [h2, List.take_length]
  unfold stpC
  rw [e1, e2, colG_id hc]
open Classical in
/-- Where a run ends: the colony, how many steps were made, and whether no colony on the way was too large. -/
noncomputable def runM (d : Division) : Nat → Colony → Nat → Colony × Nat × Bool
  | 0, c, n => (c, n, true)
  | f + 1, c, n => if Rests d c then (c, n, true) else if (stpC d c).Ok d.objects then runM d f (stpC d c) (n + 1) else (c, n, false)
theorem runM_0 (d : Division) (c : Colony) (n : Nat) : runM d 0 c n = (c, n, true) := rfl
theorem runM_r {d : Division} {f : Nat} {c : Colony} {n : Nat} (h : Rests d c) : runM d f c n = (c, n, true) := by
  cases f with
  | zero => rfl
  | succ f => unfold runM; rw [if_pos h]
theorem runM_s {d : Division} {f : Nat} {c : Colony} {n : Nat} (h : ¬ Rests d c) (ho : (stpC d c).Ok d.objects) : runM d (f + 1) c n = runM d f (stpC d c) (n + 1) := by
  rw [runM, if_neg h, if_pos ho]
theorem runM_f {d : Division} {f : Nat} {c : Colony} {n : Nat} (h : ¬ Rests d c) (ho : ¬ (stpC d c).Ok d.objects) : runM d (f + 1) c n = (c, n, false) := by
  rw [runM, if_neg h, if_neg ho]
noncomputable def runC (d : Division) (c : Colony) (s : Nat) : Colony := if (runM d s c 0).2.2 then (runM d s c 0).1 else ⟨[], []⟩
noncomputable def runN (d : Division) (c : Colony) (s : Nat) : Int := if (runM d s c 0).2.2 then ((runM d s c 0).2.1 : Int) else 0
noncomputable def runK (d : Division) (c : Colony) (s : Nat) : Int := if (runM d s c 0).2.2 then 0 else 3
theorem run_t {d : Division} {c x : Colony} {s n : Nat} (h : runM d s c 0 = (x, n, true)) : runC d c s = x ∧ runN d c s = (n : Int) ∧ runK d c s = 0 := by
  unfold runC runN runK; rw [h]; exact ⟨rfl, rfl, rfl⟩
theorem run_f {d : Division} {c x : Colony} {s n : Nat} (h : runM d s c 0 = (x, n, false)) : runC d c s = ⟨[], []⟩ ∧ runN d c s = 0 ∧ runK d c s = 3 := by
  unfold runC runN runK; rw [h]; exact ⟨rfl, rfl, rfl⟩
/-- So many steps. -/
noncomputable def itC (d : Division) (c : Colony) : Nat → Colony
  | 0 => c
  | n + 1 => stpC d (itC d c n)
theorem runM_spec {d : Division} {c0 : Colony} : ∀ (f n : Nat), (∀ i, i < n → ¬ Rests d (itC d c0 i) ∧ (itC d c0 (i + 1)).Ok d.objects) → ∀ x m, runM d f (itC d c0 n) n = (x, m, true) →
    n ≤ m ∧ m ≤ n + f ∧ x = itC d c0 m ∧ (∀ i, i < m → ¬ Rests d (itC d c0 i) ∧ (itC d c0 (i + 1)).Ok d.objects) ∧ (m = n + f ∨ Rests d x)
  | 0, n, h, x, m, e => by
    rw [runM_0, Prod.mk.injEq, Prod.mk.injEq] at e
    obtain ⟨e1, e2, _⟩ := e
    subst e1 e2
    exact ⟨Nat.le_refl _, Nat.le_refl _, rfl, h, .inl rfl⟩
  | f + 1, n, h, x, m, e => by
    by_cases hr : Rests d (itC d c0 n)
    · rw [runM_r hr, Prod.mk.injEq, Prod.mk.injEq] at e
      obtain ⟨e1, e2, _⟩ := e
      subst e1 e2
      exact ⟨Nat.le_refl _, by omega, rfl, h, .inr hr⟩
    · by_cases ho : (stpC d (itC d c0 n)).Ok d.objects
      · rw [runM_s hr ho] at e
        obtain ⟨h1, h2, h3, h4, h5⟩ := runM_spec f (n + 1) (fun i hi => by
          by_cases q : i = n
          · subst q; exact ⟨hr, ho⟩
          · exact h i (by omega)) x m e
        exact ⟨by omega, by omega, h3, h4, by rw [show n + (f + 1) = n + 1 + f by omega]; exact h5⟩
      · rw [runM_f hr ho, Prod.mk.injEq, Prod.mk.injEq] at e
        exact absurd e.2.2 (by decide)
end Go.Proofs.YtbhiaccbpbnbmaaGreat

/-
  GatherColony of the program. No condition.
-/
namespace Go.Proofs.YtbhiaccbpbnbmaaGreat
open Go.AI
set_option maxRecDepth 8000
set_option maxHeartbeats 3200000

theorem mid_get {α : Type} : ∀ (a : List α) (x : α) (b : List α), (a ++ x :: b)[a.length]? = some x
  | [], _, _ => rfl
  | _ :: a, x, b => mid_get a x b
theorem mid_set {α : Type} : ∀ (a : List α) (x y : α) (b : List α), (a ++ x :: b).set a.length y = a ++ y :: b
  | [], _, _, _ => rfl
  | z :: a, x, y, b => congrArg (z :: ·) (mid_set a x y b)
/-- A colony and a code in memory of the call's own. -/
def ColR (c : Colony) (cd : Int) (v : A) (h : Heap) : Prop := ∃ a, v = .tup [a, .int cd] ∧ ROColony c a h
theorem ColR.nil {c : Int} : ColR ⟨[], []⟩ c (.tup [.agg [.sl [], .sl []], .int c]) [] := ⟨_, rfl, .sl [], [], .inr ⟨rfl, rfl, rfl⟩, .sl [], [], .inr ⟨rfl, rfl, rfl⟩, rfl, rfl⟩
open Classical in
theorem o_colonyOrLimit (d : Division) (c : Colony) (a : A) (h0 : Heap) (hd : 1 ≤ d.objects ∧ d.objects ≤ 64) (o : ROColony c a h0) :
    Does Tryz.prog 36 [.agg (encDivision d), a] h0 (ColR (if c.Ok d.objects then c else ⟨[], []⟩) (if c.Ok d.objects then 0 else 3)) := by
  refine fn_of_runD tyOk ztOk mix Tryz.func36 rfl (by decide) Tryz.ntmps36 (fun w0 F => ?_)
  change Run _ _ _ _ _ (h0 ++ F)
  have fz := o.frz
  obtain ⟨a0, a1, rfl, okc⟩ := o.cells
  repeat' (first
      | (refine j_go ?_; first
        | refine j_op0 rfl rfl rfl rfl ?_ | refine j_box rfl rfl rfl rfl rfl rfl ?_ | refine j_alloc rfl rfl rfl rfl rfl (fun _ => ?_))
      | refine j_nil ?_
      | (refine r_go ?_; first | refine run_seq ?_ | refine run_region ?_)
      | refine seqQ_normal ?_)
  refine j_kCall rfl rfl rfl rfl ?_
  refine jctq h0 (c_isColony d c hd) (Clo.raw _) (fun k hk => List.mem_cons_of_mem _ (List.mem_append_left _ hk)) (FrzL.cons (Frz.same _ _) (FrzL.cons fz (FrzL.nil _))) rfl rfl ?_
  repeat' (first
      | (refine j_go ?_; first
        | refine j_op0 rfl rfl rfl rfl ?_ | (refine j_kStore rfl ?_; first | refine j_storeN 0 rfl rfl rfl rfl rfl rfl rfl rfl rfl rfl rfl ?_) | refine j_build rfl rfl rfl rfl rfl rfl rfl ?_)
      | refine j_nil ?_
      | (refine r_go ?_; first | refine run_seq ?_ | refine run_region ?_ | (refine (run_ifn rfl (fun hb => ?_) (fun hb => ?_)) <;> first | (exfalso; omega) | skip) | refine run_ret ?_ | refine run_skip ?_)
      | refine seqQ_normal ?_ | refine seqQ_ret ?_)
  · rw [if_neg hb, if_neg hb]
    refine endD_view (view_freezeP 0 4 rfl rfl) ?_
    refine endD_view (view_sub (List.sublist_append_right h0 F)) ?_
    exact endD_ret (h1 := []) rfl (.cons (.cellI rfl rfl) (.cons (.tmp rfl) .nil)) (Le.tup2 (Le.agg (LeL.cons (Le.nil 0) (LeL.cons (Le.nil 0) LeL.nil)))) ColR.nil (.inl rfl)
  · rw [if_pos hb, if_pos hb]
    refine j_storeN 0 rfl rfl rfl rfl rfl rfl rfl rfl okc rfl rfl ?_
    repeat' (first
      | (refine j_go ?_; first
        | refine j_op0 rfl rfl rfl rfl ?_)
      | refine j_nil ?_
      | (refine r_go ?_; first | refine run_ret ?_)
      | refine seqQ_normal ?_)
    refine endD_view (view_freezeP 0 4 rfl rfl) ?_
    exact endD_ret (h1 := h0) rfl (.cons (.cellI rfl rfl) (.cons (.tmp rfl) .nil)) (Le.refl _) ⟨_, rfl, o⟩ (.inl rfl)
theorem c_gatC1 (d : Division) (x : Int) (hd : 1 ≤ d.objects ∧ d.objects ≤ 64) : Gives Tryz.prog 29 [.int x, .ip (encDivision d)] (.raw (.bool (dec (¬ (0 ≤ x ∧ x ≤ d.objects - 1))))) := by
  refine fn_of_run tyOk ztOk mix Tryz.func29 rfl (by decide) Tryz.ntmps29 (fun w0 h => ?_)
  repeat' (first
      | (refine j_go ?_; first
        | refine j_op0 rfl rfl rfl rfl ?_ | (refine j_kCall rfl rfl rfl rfl ?_; first | refine jc (c_isObject _ _ hd) (LeL.refl _) rfl rfl ?_))
      | refine j_nil ?_
      | (refine r_go ?_; first | refine run_seq ?_ | refine run_region ?_ | refine run_ret ?_)
      | refine seqQ_normal ?_)
  exact end1 rfl (List.Sublist.refl _) (rbN Iff.rfl) (.inl rfl)
theorem c_gatC2 (d : Division) (g : Group) (hd : 1 ≤ d.objects ∧ d.objects ≤ 64) : Gives Tryz.prog 33 [.agg (encGroup g), .ip [.fn 29 [.ip (encDivision d)]]] (.raw (.bool (dec (¬ GrpOk d.objects g)))) := by
  refine fn_of_run tyOk ztOk mix Tryz.func33 rfl (by decide) Tryz.ntmps33 (fun w0 h => ?_)
  repeat' (first
      | (refine j_go ?_; first
        | refine j_op0 rfl rfl rfl rfl ?_ | refine j_off rfl rfl rfl ?_ | (refine j_kCall rfl rfl rfl rfl ?_; first | refine jc (c_cfI _ _ (fun x => ¬ (0 ≤ x ∧ x ≤ d.objects - 1)) g.contents (fun x _ => c_gatC1 d x hd)) (LeL.refl _) rfl rfl ?_ | refine jc (c_isCharge _) (LeL.refl _) rfl rfl ?_ | refine jc (c_inRange _ _ _) (LeL.refl _) rfl rfl ?_) | (refine j_kGuard rfl ?_; first | (refine (j_if rfl rfl rfl (fun hb => ?_) (fun hb => ?_)) <;> first | (exfalso; omega) | skip) | (refine (j_ifn rfl rfl rfl (fun hb => ?_) (fun hb => ?_)) <;> first | (exfalso; omega) | skip)) | refine j_box rfl rfl rfl rfl rfl rfl ?_)
      | refine j_nil ?_
      | (refine r_go ?_; first | refine run_seq ?_ | refine run_region ?_ | refine run_ret ?_)
      | refine seqQ_normal ?_)
  all_goals first
    | exact end1 rfl (by first | exact List.Sublist.refl _ | exact sub1 | exact sub2 | exact sub3) (rbT (fun q => absurd hb (objs_iff.2 q.2.2))) (.inl rfl)
    | exact end1 rfl (by first | exact List.Sublist.refl _ | exact sub1 | exact sub2 | exact sub3) (rbT (fun q => hb q.1)) (.inl rfl)
    | exact end1 rfl (List.Sublist.refl _) (rbN ⟨fun q z => q z.2.1, fun q z => q ⟨by assumption, z, objs_iff.1 (by assumption)⟩⟩) (.inl rfl)
    | trace_state
open Classical in
theorem c_iGatherColony (d : Division) (skin : List Int) (gs : List Group) (hs : skin.length ≤ 1048576) (hl : gs.length ≤ 1048576) (hcl : ∀ g ∈ gs, g.contents.length ≤ 1048576) : Does Tryz.prog 12 [.agg (encDivision d), .sl (skin.map Go.AI.encI), .sl (gs.map encGroup)] [] (ColR (resGatherColony d skin gs) (codeGatherColony d skin gs)) := by
  refine fn_of_runD tyOk ztOk mix Tryz.func12 rfl (by decide) Tryz.ntmps12 (fun w0 F => ?_)
  change Run _ _ _ _ _ F
  unfold codeGatherColony
  repeat' (first
      | (refine j_go ?_; first
        | refine j_op0 rfl rfl rfl rfl ?_ | (refine j_kCall rfl rfl rfl rfl ?_; first | refine jc (c_iValidDivision _) (LeL.refl _) rfl rfl ?_) | (refine j_kLoad rfl ?_; first | refine j_mload 0 rfl rfl rfl rfl rfl rfl rfl ?_) | (refine j_kStore rfl ?_; first | refine j_store 0 rfl rfl rfl rfl rfl rfl rfl rfl rfl rfl rfl ?_ | refine j_storeN 0 rfl rfl rfl rfl rfl rfl rfl rfl rfl rfl rfl ?_) | refine j_box rfl rfl rfl rfl rfl rfl ?_ | refine j_build rfl rfl rfl rfl rfl rfl rfl ?_ | refine j_alloc rfl rfl rfl rfl rfl (fun _ => ?_))
      | refine j_nil ?_
      | (refine r_go ?_; first | refine run_seq ?_ | refine run_region ?_ | (refine (run_ifn rfl (fun hb => ?_) (fun hb => ?_)) <;> first | (exfalso; omega) | skip) | refine run_ret ?_ | refine run_skip ?_)
      | refine seqQ_normal ?_ | refine seqQ_ret ?_)
  · rw [rg_f (fun q => hb q.1), cdG_f hb]
    refine endD_view (view_freezeP 0 6 rfl rfl) ?_
    exact endD_ret (h1 := []) rfl (.cons (.cellI rfl rfl) (.cons (.tmp rfl) .nil)) (Le.tup2 (Le.agg (LeL.cons (Le.nil 0) (LeL.cons (Le.nil 0) LeL.nil)))) ColR.nil (.inl rfl)
  have hv := hb
  have hd := hv.1
  skip
  refine j_view (view_freezeP 0 8 rfl rfl) ?_
  repeat' (first
      | (refine j_go ?_; first
        | refine j_op0 rfl rfl rfl rfl ?_ | refine j_off rfl rfl rfl ?_ | (refine j_kCall rfl rfl rfl rfl ?_; first | refine jc (c_cfI _ _ (fun x => ¬ (0 ≤ x ∧ x ≤ d.objects - 1)) skin (fun x _ => c_gatC1 d x hd)) (LeL.refl _) rfl rfl ?_ | refine jc (c_cfG _ _ (fun g => ¬ GrpOk d.objects g) gs (fun g _ => c_gatC2 d g hd)) (LeL.refl _) rfl rfl ?_) | (refine j_kStore rfl ?_; first | refine j_storeN 0 rfl rfl rfl rfl rfl rfl rfl rfl rfl rfl rfl ?_) | (refine j_kGuard rfl ?_; first | (refine (j_if rfl rfl rfl (fun hb => ?_) (fun hb => ?_)) <;> first | (exfalso; omega) | skip)) | refine j_build rfl rfl rfl rfl rfl rfl rfl ?_)
      | refine j_nil ?_
      | (refine j_goO ?_; first
        | refine j_op0O rfl rfl rfl rfl ?_)
      | (refine r_go ?_; first | refine run_seq ?_ | refine run_region ?_ | refine run_cond_t rfl ?_ | (refine (run_if rfl (fun hb => ?_) (fun hb => ?_)) <;> first | (exfalso; omega) | skip) | refine run_ret ?_ | refine run_skip ?_ | refine run_opn 6 [⟨0, false, false, 0⟩, ⟨1, true, false, 0⟩, ⟨2, true, false, 0⟩, ⟨3, false, true, 0⟩, ⟨4, false, true, 0⟩, ⟨5, true, false, 0⟩, ⟨6, true, false, 0⟩, ⟨7, false, true, 0⟩, ⟨8, true, false, 0⟩] rfl rfl (by kernel_rfl) ?_)
      | refine seqQ_normal ?_ | refine seqQ_ret ?_)
  · have hg : ¬ GoodC d skin gs := fun q => objs_iff.2 q.1 hb
    rw [rg_f (fun q => hg q.2.1), cdG_r hv hg]
    refine endD_view (view_freezeP 0 6 rfl rfl) ?_
    exact endD_ret (h1 := []) rfl (.cons (.cellI rfl rfl) (.cons (.tmp rfl) .nil)) (Le.tup2 (Le.agg (LeL.cons (Le.nil 0) (LeL.cons (Le.nil 0) LeL.nil)))) ColR.nil (.inl rfl)
  · have hg : ¬ GoodC d skin gs := fun q => by
      obtain ⟨g, h1, h2⟩ := hb
      exact h2 (q.2 g h1)
    rw [rg_f (fun q => hg q.2.1), cdG_r hv hg]
    refine endD_view (view_freezeP 0 6 rfl rfl) ?_
    exact endD_ret (h1 := []) rfl (.cons (.cellI rfl rfl) (.cons (.tmp rfl) .nil)) (Le.tup2 (Le.agg (LeL.cons (Le.nil 0) (LeL.cons (Le.nil 0) LeL.nil)))) ColR.nil (.inl rfl)
  have hG : ∀ g ∈ gs, GrpOk d.objects g := fun g hg => Classical.byContradiction fun q => hb ⟨g, hg, q⟩
  have hg : GoodC d skin gs := ⟨objs_iff.1 (by assumption), hG⟩
  refine j_kCallO rfl rfl rfl rfl ?_
  refine jcpO (_ :: F) (o_gather skin gs hs hl (fun g hg => ⟨hcl g hg, (hG g hg).2.1⟩)) rfl (List.Perm.refl _) (LeL.refl _) rfl rfl (fun v h1 hR => ?_)
  obtain ⟨ks, ag, oC⟩ := hR
  obtain rfl := ag.uniq (ksG_agg hG)
  skip
  refine j_kCallO rfl rfl rfl rfl ?_
  refine jcpO (_ :: F) (o_colonyOrLimit d (colG skin gs) v h1 hd oC) rfl (List.Perm.refl _) (LeL.refl _) rfl rfl (fun v2 h2 hR => ?_)
  obtain ⟨a2, rfl, o2⟩ := hR
  obtain ⟨c0, c1, rfl, okc⟩ := o2.cells
  repeat' (first
      | (refine j_goO ?_; first
        | refine j_op0O rfl rfl rfl rfl ?_))
  refine j_storeNO h2.length rfl rfl rfl rfl rfl rfl (mid_get _ _ _) rfl rfl okc rfl rfl (fun _ hk => nomatch hk) ?_
  rw [mid_set]
  repeat' (first
      | (refine j_goO ?_; first
        | refine j_op0O rfl rfl rfl rfl ?_)
      | refine j_nilO ?_
      | (refine r_go ?_; first | refine run_ret ?_)
      | refine seqQ_normal ?_)
  refine endD_view (view_perm List.perm_middle) ?_
  refine endD_view (view_freezeP 0 6 rfl rfl) ?_
  have er : (if (colG skin gs).Ok d.objects then colG skin gs else ⟨[], []⟩) = resGatherColony d skin gs := by
    by_cases q : (colG skin gs).Ok d.objects
    · rw [if_pos q, rg_t ⟨hv, hg, q⟩]
    · rw [if_neg q, rg_f (fun z => q z.2.2)]
  have ec : (if (colG skin gs).Ok d.objects then (0 : Int) else 3) = cdG d.Valid (GoodC d skin gs) ((colG skin gs).Ok d.objects) := by
    by_cases q : (colG skin gs).Ok d.objects
    · rw [if_pos q, cdG_o hv hg q]
    · rw [if_neg q, cdG_l hv hg q]
  rw [er] at o2
  rw [ec]
  exact endD_ret (h1 := h2) rfl (.cons (.cellI rfl rfl) (.cons (.tmp rfl) .nil)) (Le.refl _) ⟨_, rfl, o2⟩ (.inl rfl)
end Go.Proofs.YtbhiaccbpbnbmaaGreat

/-
  A step of a colony: the program. No condition.
-/
namespace Go.Proofs.YtbhiaccbpbnbmaaGreat
open Go.AI
set_option maxRecDepth 8000
set_option maxHeartbeats 3200000
abbrev sgB (b9 : Nat) (ob : Option Nat) (n cap : Nat) : Blk := ⟨some b9, 28, 1, [.os ob n cap]⟩
abbrev slG (ob : Option Nat) (cap : Nat) (gs : List Group) : Blk := ⟨ob, 54, cap * 3, (gs.map encGroup).flatten⟩
theorem o_stepC (b9 : Nat) (gs : List Group) (ob : Option Nat) (cap : Nat) (ct more : List Int) (u : Use) (ch : Int) (hg : gs.length ≤ 1000000) (hc : ct.length ≤ 5000) (hm : more.length ≤ 5000) :
    Does Tryz.prog 49 [.int ch, .sl (more.map Go.AI.encI), .op (some b9) 0, .ip [.sl (ct.map Go.AI.encI)], .ip (encUse u)] [sgB b9 ob gs.length cap, slG ob cap gs]
      (fun _ h' => ∃ ob' cap', h' = [sgB b9 ob' (gs ++ [(⟨ch, ct ++ more, u.many⟩ : Group)]).length cap', slG ob' cap' (gs ++ [⟨ch, ct ++ more, u.many⟩])]) := by
  refine fn_of_runD tyOk ztOk mix Tryz.func49 rfl (by decide) Tryz.ntmps49 (fun w0 F => ?_)
  change Run _ _ _ _ _ (_ :: _ :: F)
  have cC := c_concat [ct, more] (by simp) (by simp only [List.flatten_cons, List.flatten_nil, List.append_nil, List.length_append]; omega)
  rw [show [ct, more].flatten = ct ++ more from by simp] at cC
  repeat' (first
      | (refine j_goO ?_; first
        | refine j_op0O rfl rfl rfl rfl ?_ | (refine j_kCallO rfl rfl rfl rfl ?_; first | refine jcO (cC) (LeL.refl _) rfl rfl ?_) | (refine j_kLoadO rfl ?_; first | refine j_mloadO 0 rfl rfl rfl rfl rfl rfl rfl rfl ?_) | (refine j_kBslO rfl ?_; first | refine j_bslO rfl rfl rfl rfl rfl rfl rfl rfl rfl rfl rfl ?_) | refine j_buildO rfl rfl rfl rfl rfl rfl rfl ?_)
      | (refine r_go ?_; first | refine run_opn 0 [⟨0, true, false, 0⟩, ⟨1, true, false, 0⟩, ⟨2, true, false, 0⟩, ⟨3, true, false, 0⟩, ⟨4, true, false, 0⟩, ⟨5, true, false, 0⟩, ⟨6, true, false, 0⟩, ⟨7, true, false, 0⟩, ⟨8, true, false, 0⟩, ⟨9, true, false, 0⟩, ⟨10, false, true, 0⟩, ⟨11, false, true, 0⟩] rfl rfl (by kernel_rfl) ?_))
  refine j_appendO 1 (g := encGroup) (ys := gs) [⟨ch, ct ++ more, u.many⟩] rfl (fun _ hk => nomatch hk) rfl rfl rfl rfl rfl rfl rfl rfl rfl rfl rfl rfl (fun _ => rfl) (fun _ _ => rfl) ⟨by simp only [List.length_cons, List.length_nil]; omega, by simp only [List.length_cons, List.length_nil]; omega⟩ rfl rfl (fun b' cap' => ?_)
  repeat' (first
      | (refine j_goO ?_; first
        | (refine j_kStoreO rfl ?_; first | refine j_storeO 0 rfl rfl rfl rfl rfl rfl rfl rfl rfl rfl rfl rfl (by first | (intro _ hk; exact absurd hk List.not_mem_nil) | (intro k hk; simp at hk ⊢; try simp [hk])) ?_))
      | refine j_nilO ?_)
  exact endD_ret (h1 := [_, _]) rfl .nil (Le.refl _) ⟨b', cap', rfl⟩ (.inr rfl)
theorem c_grown (d : Division) (kind charge : Int) (l : List Int) (hv : d.Valid) (hl : l.length ≤ 1100000) : Gives Tryz.prog 47 [.agg (encDivision d), .int kind, .int charge, .sl (l.map Go.AI.encI)] (.sl ((d.grown kind charge l).map Go.AI.encI)) := (o_grown d kind charge l hv hl).frozen fun _ _ ⟨b, cap, q1, q2⟩ => by rw [q1, q2]; exact FrzF.flat rfl rfl (fun _ => rfl) rfl rfl
theorem usK_mem {d : Division} {g : Group} {l : List Int} : ∀ k, k ≤ d.rules.length → ∀ u ∈ usK d g l k, u.r.kind = 5 ∨ u.r.object ∈ u.g.contents
  | 0, _, u, hu => absurd hu List.not_mem_nil
  | k + 1, hk, u, hu => by
    have hk' : k < d.rules.length := by omega
    by_cases q : 0 < manyOf g (stK d g l k).1 (stK d g l k).2 d.rules[k]
    · rw [usK_yes hk' q] at hu
      rcases List.mem_append.1 hu with hu | hu
      · exact usK_mem k (by omega) u hu
      · rw [List.mem_singleton] at hu
        subst hu
        dsimp only
        by_cases h5 : d.rules[k].kind = 5
        · exact .inl h5
        · refine .inr (Classical.byContradiction fun hm => ?_)
          by_cases z : d.rules[k].kind = 1 ∨ d.rules[k].kind = 2 ∨ d.rules[k].charge ≠ g.charge ∨ (stK d g l k).2 = 0
          · rw [many_no z] at q; omega
          · rw [many_out z h5 hm] at q; omega
    · rw [usK_no hk' q] at hu
      exact usK_mem k (by omega) u hu
theorem usC_mem {d : Division} {c : Colony} : ∀ u ∈ usC d c, u.r.kind = 0 ∨ u.r.kind = 5 ∨ u.r.object ∈ u.g.contents := by
  have key : ∀ k, k ≤ c.groups.length → ∀ u ∈ usA d c k, u.r.kind = 0 ∨ u.r.kind = 5 ∨ u.r.object ∈ u.g.contents := by
    intro k
    induction k with
    | zero => intro _ u hu; cases hu
    | succ k ih =>
      intro hk u hu
      rw [usA_succ (by omega)] at hu
      rcases List.mem_append.1 hu with hu | hu
      · exact ih (by omega) u hu
      · unfold usG at hu
        rcases List.mem_append.1 hu with hu | hu
        · exact .inr (usK_mem _ (Nat.le_refl _) u hu)
        · split at hu
          · rw [List.mem_singleton] at hu; subst hu; exact .inl rfl
          · cases hu
  exact key _ (Nat.le_refl _)
theorem c_gather (skin : List Int) (gs : List Group) {o : Int} (hs : skin.length ≤ 1048576) (hl : gs.length ≤ 1048576) (hc : ∀ g ∈ gs, g.contents.length ≤ 1048576) (hG : ∀ g ∈ gs, GrpOk o g) :
    Gives Tryz.prog 37 [.sl (skin.map Go.AI.encI), .sl (gs.map encGroup)] (.agg (encColony (colG skin gs))) :=
  (o_gather skin gs hs hl (fun g hg => ⟨hc g hg, (hG g hg).2.1⟩)).frozen fun v h1 ⟨ks, ag, oC⟩ => by
    obtain rfl := ag.uniq (ksG_agg hG)
    exact oC.frzF
open Classical in
theorem c_colonyOrLimit (d : Division) (c : Colony) (hd : 1 ≤ d.objects ∧ d.objects ≤ 64) : Gives Tryz.prog 36 [.agg (encDivision d), .agg (encColony c)] (.tup [.agg (encColony (if c.Ok d.objects then c else ⟨[], []⟩)), .int (if c.Ok d.objects then 0 else 3)]) := by
  refine fn_of_run tyOk ztOk mix Tryz.func36 rfl (by decide) Tryz.ntmps36 (fun w0 h => ?_)
  repeat' (first
      | (refine j_go ?_; first
        | refine j_op0 rfl rfl rfl rfl ?_ | (refine j_kCall rfl rfl rfl rfl ?_; first | refine jc (c_isColony d c hd) (LeL.refl _) rfl rfl ?_) | (refine j_kStore rfl ?_; first | refine j_storeN 0 rfl rfl rfl rfl rfl rfl rfl rfl rfl rfl rfl ?_) | refine j_box rfl rfl rfl rfl rfl rfl ?_ | refine j_build rfl rfl rfl rfl rfl rfl rfl ?_ | refine j_alloc rfl rfl rfl rfl rfl (fun _ => ?_))
      | refine j_nil ?_
      | (refine r_go ?_; first | refine run_seq ?_ | refine run_region ?_ | (refine (run_ifn rfl (fun hb => ?_) (fun hb => ?_)) <;> first | (exfalso; omega) | skip) | refine run_ret ?_ | refine run_skip ?_)
      | refine seqQ_normal ?_ | refine seqQ_ret ?_)
  · rw [if_neg hb, if_neg hb]
    exact end_view (view_freezeP 0 4 rfl rfl) (end_le (List.Sublist.refl _) (vs := [_, _]) (.cons (.cellI rfl rfl) (.cons (.tmp rfl) .nil)) (Le.tup2 (Le.agg (LeL.cons (Le.nil 0) (LeL.cons (Le.nil 0) LeL.nil)))) (.inl rfl))
  · rw [if_pos hb, if_pos hb]
    exact end_view (view_freezeP 0 4 rfl rfl) (end_le (List.Sublist.refl _) (vs := [_, _]) (.cons (.cellI rfl rfl) (.cons (.tmp rfl) .nil)) (Le.refl _) (.inl rfl))
end Go.Proofs.YtbhiaccbpbnbmaaGreat
