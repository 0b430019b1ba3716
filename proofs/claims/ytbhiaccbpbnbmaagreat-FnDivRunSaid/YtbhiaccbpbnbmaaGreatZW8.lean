/-
  A step of a colony: the program's step. No condition.
-/
import Derived.Test.YtbhiaccbpbnbmaaGreatZW7
namespace Go.Proofs.YtbhiaccbpbnbmaaGreat
open Go.AI
set_option maxRecDepth 8000
set_option maxHeartbeats 3200000
theorem cellsA_take {d : Division} {us : List Use} {k : Nat} (hk : k < us.length) : cellsA d (us.take (k + 1)) = cellsA d (us.take k) ++ cellsU d us[k] := by
  rw [List.take_succ_eq_append_getElem hk, cellsA_app, cellsA_one]
theorem outA_take {d : Division} {us : List Use} {k : Nat} (hk : k < us.length) : outA d (us.take (k + 1)) = outA d (us.take k) ++ repL us[k].many.toNat (outU d us[k]) := by
  rw [List.take_succ_eq_append_getElem hk, outA_app, outA_one]
theorem outA_le {d : Division} (us : List Use) (k : Nat) : (outA d (us.take k)).length ≤ (outA d us).length := by
  have e : outA d us = outA d (us.take k) ++ outA d (us.drop k) := by rw [← outA_app, List.take_append_drop]
  rw [e, List.length_append]; omega
theorem cU_3 {d : Division} {u : Use} (h : u.r.kind = 3 ∨ u.r.kind = 5) : cellsU d u = [⟨u.r.to, ctU d u.g u.r ++ u.r.first, u.many⟩] ∧ outU d u = [] := by
  unfold cellsU outU; rw [if_pos h, if_neg (by omega), if_neg (by omega)]; exact ⟨rfl, rfl⟩
theorem cU_4 {d : Division} {u : Use} (h : u.r.kind = 4) : cellsU d u = [⟨u.r.to, ctU d u.g u.r, u.many⟩] ∧ outU d u = u.r.first := by
  unfold cellsU outU; rw [if_neg (by omega), if_pos h, if_pos h]; exact ⟨rfl, rfl⟩
theorem cU_6 {d : Division} {u : Use} (h : u.r.kind = 6) : cellsU d u = [⟨u.r.to, ctU d u.g u.r ++ u.r.first, u.many⟩, ⟨u.r.toB, ctU d u.g u.r ++ u.r.second, u.many⟩] ∧ outU d u = [] := by
  unfold cellsU outU; rw [if_neg (by omega), if_neg (by omega), if_pos h, if_neg (by omega), if_neg (by omega)]; exact ⟨rfl, rfl⟩
theorem cU_7 {d : Division} {u : Use} (h : u.r.kind = 7) : cellsU d u = [] ∧ outU d u = ctU d u.g u.r ++ u.r.first := by
  unfold cellsU outU; rw [if_neg (by omega), if_neg (by omega), if_neg (by omega), if_pos h, if_neg (by omega), if_pos h]; exact ⟨rfl, rfl⟩
theorem cU_0 {d : Division} {u : Use} (h3 : ¬ u.r.kind = 3) (h5 : ¬ u.r.kind = 5) (h4 : ¬ u.r.kind = 4) (h6 : ¬ u.r.kind = 6) (h7 : ¬ u.r.kind = 7) : cellsU d u = [⟨u.g.charge, ctU d u.g u.r, u.many⟩] ∧ outU d u = [] := by
  unfold cellsU outU; rw [if_neg (by omega), if_neg (by omega), if_neg (by omega), if_neg (by omega), if_neg (by omega), if_neg (by omega)]; exact ⟨rfl, rfl⟩
theorem c_step (d : Division) (c : Colony) (hv : d.Valid) (hc : c.Ok d.objects) : Gives Tryz.prog 23 [.agg (encDivision d), .agg (encColony c)] (.tup [.agg (encColony (resStep d c)), .int (cdStep d c)]) := by
  refine fn_of_run tyOk ztOk mix Tryz.func23 rfl (by decide) Tryz.ntmps23 (fun w0 h => ?_)
  have hd := hv.1
  have r120 := hv.2.1
  have sk300 := hc.1.2
  have g200 := hc.2.1
  have hlr := stA_rng hc
  have stl := (stA_sub (d := d) hc.nn _ (Nat.le_refl c.groups.length)).length_le
  have gr := grown_rng hv (kind := 2) (charge := 0) hlr
  have gl := grown_len hv (kind := 2) (charge := 0) (stA d c c.groups.length).1
  have uo := usC_ok hv hc
  have ul := usA_len (d := d) (c := c) r120 c.groups.length
  have ck := cellsA_ok hv uo
  have cl := cellsA_len (d := d) (usC d c)
  have sr := skC_rng hv hc
  have eS : skC d c = d.grown 2 0 (stA d c c.groups.length).1 ++ outA d (usC d c) := rfl
  have ul : (usC d c).length ≤ 24200 := by unfold usC; omega
  have um := usC_mem (d := d) (c := c)
  have cU : Gives Tryz.prog 46 [.agg (encDivision d), .agg (encColony c)] (.tup [.sl ((usC d c).map encUse), .sl ((stA d c c.groups.length).1.map Go.AI.encI)]) := c_uses d c hv hc
  have eR : stpC d c = colG (skC d c) (cellsA d (usC d c)) := rfl
  generalize usC d c = us at uo ul ck cl eS um cU eR
  repeat' (first
      | (refine j_go ?_; first
        | refine j_op0 rfl rfl rfl rfl ?_ | (refine j_kCall rfl rfl rfl rfl ?_; first | refine jc (cU) (LeL.refl _) rfl rfl ?_) | refine j_box rfl rfl rfl rfl rfl rfl ?_ | refine j_alloc rfl rfl rfl rfl rfl (fun _ => ?_))
      | refine j_nil ?_
      | (refine r_go ?_; first | refine run_seq ?_ | refine run_region ?_)
      | refine seqQ_normal ?_)
  rename_i b4
  refine j_kCall rfl rfl rfl rfl ?_
  refine jcp (_ :: h) (o_grown d 2 0 (stA d c c.groups.length).1 hv (by omega)) (List.Perm.refl _) (LeL.refl _) rfl rfl (fun v h1 hR => ?_)
  obtain ⟨bs0, cs0, rfl, rfl⟩ := hR
  generalize d.grown 2 0 (stA d c c.groups.length).1 = G at gr gl eS ⊢
  repeat' (first
      | (refine j_go ?_; first
        | refine j_op0 rfl rfl rfl rfl ?_ | (refine j_kLen rfl ?_; first | refine j_len rfl rfl rfl rfl rfl rfl ?_) | (refine j_kStore rfl ?_; first | refine j_store 0 rfl rfl rfl rfl rfl rfl rfl rfl rfl rfl rfl ?_) | (refine j_kBsl rfl ?_; first | refine j_bs0 rfl rfl rfl rfl rfl rfl ?_) | refine j_alloc rfl rfl rfl rfl rfl (fun _ => ?_))
      | refine j_nil ?_
      | (refine r_go ?_; first | refine run_seq ?_ | refine run_region ?_ | refine run_block ?_)
      | refine seqQ_normal ?_)
  rename_i b9
  refine run_view (view_none 54 (0 * 3) rfl) ?_
  refine run_view (view_perm (List.Perm.swap _ _ _)) ?_
  have e0 : G ++ outA d (us.take 0) = G := by simp [outA]
  have c0 : cellsA d (us.take 0) = [] := rfl
  refine run_loop (fun s : Nat × Option Nat × Nat × Option Nat × Nat => [(2, .ip (encDivision d)), (4, .op (some b4) 0), (9, .op (some b9) 0), (25, .sl (us.map encUse)), (26, .int us.length), (8, .os s.2.1 (G ++ outA d (us.take s.1)).length s.2.2.1), (27, .int (s.1 : Int))])
    (fun s => sgB b9 s.2.2.2.1 (cellsA d (us.take s.1)).length s.2.2.2.2 :: slG s.2.2.2.1 s.2.2.2.2 (cellsA d (us.take s.1)) :: ⟨s.2.1, 2, s.2.2.1 * 1, ((G ++ outA d (us.take s.1)).map Go.AI.encI).flatten⟩ :: ⟨some b4, 30, 2, [.os none 0 0, .os none 0 0]⟩ :: h)
    (fun s => s.1 ≤ us.length ∧ (G ++ outA d (us.take s.1)).length ≤ 5000) (fun s => us.length - s.1) (0, bs0, cs0, none, 0) ⟨rfl, rfl, rfl, rfl, rfl, (by dsimp only; rw [e0]; rfl), rfl, trivial⟩ (by dsimp only; rw [e0, c0]; rfl) ⟨Nat.zero_le _, by dsimp only; rw [e0]; omega⟩ (fun ⟨k, bs, cs, ob, cap⟩ ⟨kl, sl⟩ => ?_)
  dsimp only at kl sl ⊢
  by_cases hk : k < us.length
  case pos =>
    have hu := uo _ (List.getElem_mem hk)
    have hm := um _ (List.getElem_mem hk)
    obtain ⟨u, eu⟩ : ∃ u, us[k] = u := ⟨_, rfl⟩
    have ec1 := cellsA_take (d := d) hk
    have eo1 := outA_take (d := d) hk
    have eo2 : G ++ outA d (us.take (k + 1)) = (G ++ outA d (us.take k)) ++ repL us[k].many.toNat (outU d us[k]) := by rw [eo1, List.append_assoc]
    have ole := outA_le (d := d) us (k + 1)
    rw [eu] at hu hm ec1 eo2
    have hu3 := hu.2.2.1
    have hu0 := hu.2.2.2
    have g60 := hu.2.1.2
    have ctl := ctU_len hv (r := u.r) hu.2.1
    have ouo := outU_ok hv hu
    have cga := cellsA_len (d := d) (us.take k)
    have cgk : (us.take k).length ≤ k := List.length_take_le _ _
    repeat' (first
      | (refine j_go ?_; first
        | refine j_op0 rfl rfl rfl rfl ?_)
      | refine j_nil ?_
      | (refine r_go ?_; first | refine run_seq ?_ | refine run_region ?_ | (refine (run_if rfl (fun hb => ?_) (fun hb => ?_)) <;> first | (exfalso; omega) | skip) | refine run_skip ?_)
      | refine seqQ_normal ?_)
    refine run_block ?_
    refine run_seq ?_
    refine run_region ?_
    repeat' (first
      | (refine j_go ?_; first
        | refine j_op0 rfl rfl rfl rfl ?_ | (refine j_kIdx rfl ?_; first | refine j_idx rfl rfl rfl rfl rfl (by omega) rfl rfl rfl ?_) | (refine j_kStore rfl ?_; first | refine j_storeN 0 rfl rfl rfl rfl rfl rfl rfl rfl rfl rfl rfl ?_) | refine j_alloc rfl rfl rfl rfl rfl (fun _ => ?_))
      | refine j_nil ?_)
    rename_i b11
    refine seqQ_normal ?_
    refine run_seq ?_
    refine run_region ?_
    repeat' (first
      | (refine j_go ?_; first
        | refine j_op0 rfl rfl rfl rfl ?_ | (refine j_kLoad rfl ?_; first | refine j_mload 0 rfl rfl rfl rfl rfl rfl rfl ?_) | (refine j_kStore rfl ?_; first | refine j_store 0 rfl rfl rfl rfl rfl rfl rfl rfl rfl rfl rfl ?_) | refine j_alloc rfl rfl rfl rfl rfl (fun _ => ?_))
      | refine j_nil ?_)
    rename_i b12
    refine seqQ_normal ?_
    refine run_seq ?_
    rw [eu]
    generalize cellsA d (us.take k) = gs at *
    generalize G ++ outA d (us.take k) = SK at *
    have fa : ∀ (x : List Int), x.length ≤ 5000 → (∃ v, ctU d u.g u.r = v) := fun _ _ => ⟨_, rfl⟩
    obtain ⟨L, eL⟩ : ∃ L, (if u.r.kind = 0 ∨ u.r.kind = 5 then u.g.contents else u.g.contents.erase u.r.object) = L := ⟨_, rfl⟩
    have eC : ctU d u.g u.r = d.grown 1 u.g.charge L := by rw [← eL]; rfl
    have lL : L.length ≤ 60 := by
      rw [← eL]
      split
      · omega
      · have := (List.erase_sublist (a := u.r.object) (l := u.g.contents)).length_le; omega
    refine run_join (fun _ : Unit => [(2, .ip (encDivision d)), (4, .op (some b4) 0), (9, .op (some b9) 0), (25, .sl (us.map encUse)), (26, .int us.length), (8, .os bs SK.length cs), (27, .int (k : Int)), (11, .op (some b11) 0), (12, .op (some b12) 0)])
      (fun _ => ⟨some b12, 27, 1, [.sl (L.map Go.AI.encI)]⟩ :: ⟨some b11, 88, 11, encUse u⟩ :: sgB b9 ob gs.length cap :: slG ob cap gs :: ⟨bs, 2, cs * 1, (SK.map Go.AI.encI).flatten⟩ :: ⟨some b4, 30, 2, [.os none 0 0, .os none 0 0]⟩ :: h)
      (fun _ => True) ?_ (fun _ _ => ?_)
    · by_cases hz : u.r.kind = 0 ∨ u.r.kind = 5
      · rw [if_pos hz] at eL
        subst eL
        repeat' (first
      | (refine j_go ?_; first
        | refine j_op0 rfl rfl rfl rfl ?_ | refine j_off rfl rfl rfl ?_ | (refine j_kLoad rfl ?_; first | refine j_mload 1 rfl rfl rfl rfl rfl rfl rfl ?_) | (refine j_kGuard rfl ?_; first | (refine (j_ifn rfl rfl rfl (fun hb => ?_) (fun hb => ?_)) <;> first | (exfalso; omega) | skip)))
      | refine j_nil ?_
      | (refine r_go ?_; first | refine run_seq ?_ | refine run_region ?_ | refine run_cond_f rfl ?_ | (refine (run_ifn rfl (fun hb => ?_) (fun hb => ?_)) <;> first | (exfalso; omega) | skip) | refine run_skip ?_)
      | refine seqQ_normal ?_)
        all_goals exact joinQ_done () trivial rfl ⟨rfl, rfl, rfl, rfl, rfl, rfl, rfl, rfl, rfl, trivial⟩
      · rw [if_neg hz] at eL
        subst eL
        repeat' (first
      | (refine j_go ?_; first
        | refine j_op0 rfl rfl rfl rfl ?_ | (refine j_kCall rfl rfl rfl rfl ?_; first | refine jc (c_less u.g.contents u.r.object (by omega) (hm.elim (fun q => absurd (.inl q) hz) (fun q => q.elim (fun q => absurd (.inr q) hz) id))) (LeL.refl _) rfl rfl ?_) | (refine j_kLoad rfl ?_; first | refine j_mload 0 rfl rfl rfl rfl rfl rfl rfl ?_ | refine j_mload 1 rfl rfl rfl rfl rfl rfl rfl ?_) | (refine j_kStore rfl ?_; first | refine j_store 0 rfl rfl rfl rfl rfl rfl rfl rfl rfl rfl rfl ?_) | (refine j_kGuard rfl ?_; first | (refine (j_ifn rfl rfl rfl (fun hb => ?_) (fun hb => ?_)) <;> first | (exfalso; omega) | skip)))
      | refine j_nil ?_
      | (refine r_go ?_; first | refine run_seq ?_ | refine run_region ?_ | (refine (run_ifn rfl (fun hb => ?_) (fun hb => ?_)) <;> first | (exfalso; omega) | skip))
      | refine seqQ_normal ?_)
        all_goals exact joinQ_done () trivial rfl ⟨rfl, rfl, rfl, rfl, rfl, rfl, rfl, rfl, rfl, trivial⟩
    refine run_seq ?_
    refine run_region ?_
    repeat' (first
      | (refine j_go ?_; first
        | refine j_op0 rfl rfl rfl rfl ?_ | (refine j_kCall rfl rfl rfl rfl ?_; first | refine jc (c_grown d 1 u.g.charge L hv (by omega)) (LeL.refl _) rfl rfl ?_) | (refine j_kLoad rfl ?_; first | refine j_mload 0 rfl rfl rfl rfl rfl rfl rfl ?_ | refine j_mload 1 rfl rfl rfl rfl rfl rfl rfl ?_) | (refine j_kStore rfl ?_; first | refine j_store 0 rfl rfl rfl rfl rfl rfl rfl rfl rfl rfl rfl ?_))
      | refine j_nil ?_)
    rw [← eC]
    have q3 := @cU_3 d u
    have q4 := @cU_4 d u
    have q6 := @cU_6 d u
    have q7 := @cU_7 d u
    have q0 := @cU_0 d u
    clear eC eL fa
    generalize ctU d u.g u.r = ct at *
    have f16 : u.r.kind ≠ 0 → u.r.first.length ≤ 16 ∧ u.r.second.length ≤ 16 := fun q => by
      have r := hu.rule hv q
      have := r.2.2.2.2.2.1.2
      have := r.2.2.2.2.2.2.1.2
      omega
    refine seqQ_normal ?_
    refine run_view (view_freezeP 0 12 rfl rfl) ?_
    refine run_view (view_freezeP 0 11 rfl rfl) ?_
    repeat' (first
      | (refine j_go ?_; first
        | refine j_op0 rfl rfl rfl rfl ?_ | (refine j_kBsl rfl ?_; first | refine j_bs0 rfl rfl rfl rfl rfl rfl ?_))
      | refine j_nil ?_
      | (refine r_go ?_; first | refine run_seq ?_ | refine run_region ?_)
      | refine seqQ_normal ?_)
    refine run_view (view_le (t := 14) rfl (u := .sl []) (Le.nil 0)) ?_
    refine run_join (fun s : Option Nat × Nat => [(2, .ip (encDivision d)), (4, .op (some b4) 0), (9, .op (some b9) 0), (11, .ip (encUse u)), (14, .sl ((outU d u).map Go.AI.encI)), (25, .sl (us.map encUse)), (26, .int us.length), (8, .os bs SK.length cs), (27, .int (k : Int))])
      (fun s => sgB b9 s.1 (gs ++ cellsU d u).length s.2 :: slG s.1 s.2 (gs ++ cellsU d u) :: ⟨bs, 2, cs * 1, (SK.map Go.AI.encI).flatten⟩ :: ⟨some b4, 30, 2, [.os none 0 0, .os none 0 0]⟩ :: h)
      (fun _ => True) ?_ (fun ⟨ob2, cap2⟩ _ => ?_)
    · repeat' (first
      | (refine j_go ?_; first
        | refine j_op0 rfl rfl rfl rfl ?_ | (refine j_kBsl rfl ?_; first | refine j_bsl rfl rfl rfl rfl rfl rfl rfl rfl rfl rfl rfl ?_))
      | refine j_nil ?_
      | (refine r_go ?_; first | refine run_seq ?_ | refine run_region ?_ | (refine (run_if rfl (fun hb => ?_) (fun hb => ?_)) <;> first | (exfalso; omega) | skip) | refine run_block ?_ | refine run_skip ?_)
      | refine seqQ_normal ?_)
      · have fl := f16 (by omega)
        rw [(q3 (.inl hb)).1, (q3 (.inl hb)).2]
        refine j_kCall rfl rfl rfl rfl ?_
        refine jcp (_ :: _ :: h) (o_stepC b9 gs ob cap ct u.r.first u u.r.to (by omega) (by omega) (by first | omega | (simp; done))) (List.Perm.refl _) (LeL.refl _) rfl rfl (fun v h1 hR => ?_)
        obtain ⟨b', c', rfl⟩ := hR
        repeat' (first
      | refine j_nil ?_
      | refine blockQ_normal ?_)
        exact joinQ_done (b', c') trivial rfl ⟨rfl, rfl, rfl, rfl, rfl, rfl, rfl, rfl, rfl, trivial⟩
      · have fl := f16 (by omega)
        rw [(q3 (.inr hb)).1, (q3 (.inr hb)).2]
        refine j_kCall rfl rfl rfl rfl ?_
        refine jcp (_ :: _ :: h) (o_stepC b9 gs ob cap ct u.r.first u u.r.to (by omega) (by omega) (by first | omega | (simp; done))) (List.Perm.refl _) (LeL.refl _) rfl rfl (fun v h1 hR => ?_)
        obtain ⟨b', c', rfl⟩ := hR
        repeat' (first
      | refine j_nil ?_
      | refine blockQ_normal ?_)
        exact joinQ_done (b', c') trivial rfl ⟨rfl, rfl, rfl, rfl, rfl, rfl, rfl, rfl, rfl, trivial⟩
      · have fl := f16 (by omega)
        rw [(q4 hb).1, (q4 hb).2]
        refine j_kCall rfl rfl rfl rfl ?_
        refine jcp (_ :: _ :: h) (o_stepC b9 gs ob cap ct [] u u.r.to (by omega) (by omega) (by first | omega | (simp; done))) (List.Perm.refl _) (by repeat' (first | exact LeL.nil | refine LeL.cons ?_ ?_ | exact Le.refl _ | exact Le.nilm _ _ | exact Le.nil _)) rfl rfl (fun v h1 hR => ?_)
        obtain ⟨b', c', rfl⟩ := hR
        rw [List.append_nil]
        repeat' (first
      | (refine j_go ?_; first
        | refine j_op0 rfl rfl rfl rfl ?_)
      | refine j_nil ?_
      | (refine r_go ?_; first | refine run_region ?_)
      | refine seqQ_normal ?_ | refine blockQ_normal ?_)
        exact joinQ_done (b', c') trivial rfl ⟨rfl, rfl, rfl, rfl, rfl, rfl, rfl, rfl, rfl, trivial⟩
      · have fl := f16 (by omega)
        rw [(q6 hb).1, (q6 hb).2]
        refine j_kCall rfl rfl rfl rfl ?_
        refine jcp (_ :: _ :: h) (o_stepC b9 gs ob cap ct u.r.first u u.r.to (by omega) (by omega) (by first | omega | (simp; done))) (List.Perm.refl _) (LeL.refl _) rfl rfl (fun v h1 hR => ?_)
        obtain ⟨b', c', rfl⟩ := hR
        repeat' (first
      | (refine j_go ?_; first
        | refine j_op0 rfl rfl rfl rfl ?_)
      | refine j_nil ?_
      | (refine r_go ?_; first | refine run_region ?_)
      | refine seqQ_normal ?_)
        refine j_kCall rfl rfl rfl rfl ?_
        refine jcp (_ :: _ :: h) (o_stepC b9 (gs ++ [⟨u.r.to, ct ++ u.r.first, u.many⟩]) b' c' ct u.r.second u u.r.toB (by rw [List.length_append]; simp only [List.length_cons, List.length_nil]; omega) (by omega) (by first | omega | (simp; done))) (List.Perm.refl _) (LeL.refl _) rfl rfl (fun v h1 hR => ?_)
        obtain ⟨b2, c2, rfl⟩ := hR
        rw [List.append_assoc]
        repeat' (first
      | refine j_nil ?_
      | refine blockQ_normal ?_)
        exact joinQ_done (b2, c2) trivial rfl ⟨rfl, rfl, rfl, rfl, rfl, rfl, rfl, rfl, rfl, trivial⟩
      · have fl := f16 (by omega)
        rw [(q7 hb).1, (q7 hb).2, List.append_nil]
        have cC := c_concat [ct, u.r.first] (by simp) (by simp only [List.flatten_cons, List.flatten_nil, List.append_nil, List.length_append]; omega)
        rw [show [ct, u.r.first].flatten = ct ++ u.r.first from by simp] at cC
        repeat' (first
      | (refine j_go ?_; first
        | refine j_op0 rfl rfl rfl rfl ?_ | (refine j_kCall rfl rfl rfl rfl ?_; first | refine jc (cC) (LeL.refl _) rfl rfl ?_))
      | refine j_nil ?_
      | refine blockQ_normal ?_)
        exact joinQ_done (ob, cap) trivial rfl ⟨rfl, rfl, rfl, rfl, rfl, rfl, rfl, rfl, rfl, trivial⟩
      · have e := q0 (by assumption) (by assumption) (by assumption) (by assumption) hb
        rw [e.1, e.2]
        refine j_kCall rfl rfl rfl rfl ?_
        refine jcp (_ :: _ :: h) (o_stepC b9 gs ob cap ct [] u u.g.charge (by omega) (by omega) (by first | omega | (simp; done))) (List.Perm.refl _) (by repeat' (first | exact LeL.nil | refine LeL.cons ?_ ?_ | exact Le.refl _ | exact Le.nilm _ _ | exact Le.nil _)) rfl rfl (fun v h1 hR => ?_)
        obtain ⟨b', c', rfl⟩ := hR
        rw [List.append_nil]
        repeat' (first
      | refine j_nil ?_
      | refine blockQ_normal ?_)
        exact joinQ_done (b', c') trivial rfl ⟨rfl, rfl, rfl, rfl, rfl, rfl, rfl, rfl, rfl, trivial⟩
    dsimp only
    rw [← ec1]
    clear q0 q3 q4 q6 q7 f16 hm
    have cga2 := cellsA_len (d := d) (us.take (k + 1))
    have ctk : (us.take (k + 1)).length ≤ k + 1 := List.length_take_le _ _
    generalize outU d u = ou at *
    repeat' (first
      | (refine j_go ?_; first
        | refine j_op0 rfl rfl rfl rfl ?_)
      | refine j_nil ?_
      | (refine r_go ?_; first | refine run_seq ?_ | refine run_region ?_ | refine run_block ?_)
      | refine seqQ_normal ?_)
    refine run_loop (fun s : Nat × Option Nat × Nat => [(2, .ip (encDivision d)), (4, .op (some b4) 0), (9, .op (some b9) 0), (14, .sl (ou.map Go.AI.encI)), (25, .sl (us.map encUse)), (26, .int us.length), (27, .int (k : Int)), (113, .int u.many), (8, .os s.2.1 (SK ++ repL s.1 ou).length s.2.2), (114, .int (s.1 : Int))])
      (fun s => sgB b9 ob2 (cellsA d (us.take (k + 1))).length cap2 :: slG ob2 cap2 (cellsA d (us.take (k + 1))) :: ⟨s.2.1, 2, s.2.2 * 1, ((SK ++ repL s.1 ou).map Go.AI.encI).flatten⟩ :: ⟨some b4, 30, 2, [.os none 0 0, .os none 0 0]⟩ :: h)
      (fun s => (s.1 : Int) ≤ u.many ∧ (SK ++ repL s.1 ou).length ≤ 5000) (fun s => u.many.toNat - s.1) (0, bs, cs) ⟨rfl, rfl, rfl, rfl, rfl, rfl, rfl, rfl, (by dsimp only; rw [repL_zero, List.append_nil]; rfl), rfl, trivial⟩ (by dsimp only; rw [repL_zero, List.append_nil]) ⟨by dsimp only; omega, by dsimp only; rw [repL_zero, List.append_nil]; exact sl⟩ (fun ⟨j, bs2, cs2⟩ ⟨jl, jh⟩ => ?_)
    dsimp only at jl jh ⊢
    by_cases hj : (j : Int) < u.many
    case pos =>
      have rs := repL_succ j ou
      have rm := repL_mono (l := ou) (show j + 1 ≤ u.many.toNat by omega)
      have e1 : (SK ++ repL j ou) ++ ou = SK ++ repL (j + 1) ou := by rw [rs, List.append_assoc]
      have l1 : (SK ++ repL (j + 1) ou).length = (SK ++ repL j ou).length + ou.length := by rw [← e1, List.length_append]
      have ou1 := ouo.2
      have l2 : (SK ++ repL (j + 1) ou).length ≤ (skC d c).length := by
        have q := congrArg List.length eo2
        rw [eS]
        simp only [List.length_append] at q ⊢
        omega
      repeat' (first
      | (refine j_go ?_; first
        | refine j_op0 rfl rfl rfl rfl ?_)
      | refine j_nil ?_
      | (refine r_go ?_; first | refine run_seq ?_ | refine run_region ?_ | (refine (run_if rfl (fun hb => ?_) (fun hb => ?_)) <;> first | (exfalso; omega) | skip) | refine run_block ?_ | refine run_skip ?_)
      | refine seqQ_normal ?_)
      refine j_append 2 (g := Go.AI.encI) (ys := SK ++ repL j ou) ou rfl rfl rfl rfl rfl rfl rfl rfl rfl rfl rfl rfl (fun _ => rfl) (fun _ _ => rfl) ⟨by omega, by omega⟩ rfl rfl (fun b' cap' => ?_)
      rw [e1]
      repeat' (first
      | (refine j_go ?_; first
        | refine j_op0 rfl rfl rfl rfl ?_ | (refine j_kBin rfl ?_; first | refine j_in rfl rfl ⟨by omega, by omega⟩ rfl rfl ?_) | (refine j_kLen rfl ?_; first | refine j_op rfl rfl rfl rfl ?_) | (refine j_kStore rfl ?_; first | refine j_storeN 3 rfl rfl rfl rfl rfl rfl rfl rfl rfl rfl rfl ?_) | refine j_build rfl rfl rfl rfl rfl rfl rfl ?_)
      | refine j_nil ?_
      | (refine r_go ?_; first | refine run_seq ?_ | refine run_region ?_ | (refine (run_if rfl (fun hb => ?_) (fun hb => ?_)) <;> first | (exfalso; omega) | skip) | refine run_ret ?_ | refine run_skip ?_)
      | refine seqQ_normal ?_ | refine seqQ_ret ?_ | refine blockQ_normal ?_ | refine blockQ_ret ?_ | refine loopQ_ret ?_)
      · have hn := stp_long (show 300 < (skC d c).length by omega)
        rw [(rs_f hn).1, (rs_f hn).2]
        refine end_view (view_freezeP 3 4 rfl rfl) ?_
        exact end_le (by repeat' first | exact List.Sublist.refl _ | refine List.Sublist.cons _ ?_) (vs := [_, _]) (.cons (.cellI rfl rfl) (.cons (.tmp rfl) .nil)) (Le.tup2 (Le.agg (LeL.cons (Le.nil 0) (LeL.cons (Le.nil 0) LeL.nil)))) (.inl rfl)
      · exact loopQ_next (j + 1, b', cap') ⟨by dsimp only; omega, by dsimp only; omega⟩ (by dsimp only; omega) rfl ⟨rfl, rfl, rfl, rfl, rfl, rfl, rfl, rfl, rfl, nx _, trivial⟩
    have ej : j = u.many.toNat := by omega
    subst ej
    rw [← eo2] at jh ⊢
    repeat' (first
      | (refine j_go ?_; first
        | refine j_op0 rfl rfl rfl rfl ?_ | (refine j_kBin rfl ?_; first | refine j_in rfl rfl ⟨by omega, by omega⟩ rfl rfl ?_))
      | refine j_nil ?_
      | (refine r_go ?_; first | refine run_seq ?_ | refine run_region ?_ | (refine (run_if rfl (fun hb => ?_) (fun hb => ?_)) <;> first | (exfalso; omega) | skip) | refine run_exit ?_)
      | refine seqQ_normal ?_ | refine seqQ_exit ?_ | refine blockQ_normal ?_ | refine blockQ_eq ?_ | refine loopQ_exit ?_)
    exact loopQ_next (k + 1, bs2, cs2, ob2, cap2) ⟨by dsimp only; omega, jh⟩ (by dsimp only; omega) rfl ⟨rfl, rfl, rfl, rfl, rfl, rfl, nx _, trivial⟩
  obtain rfl : k = us.length := by omega
  rw [List.take_length] at sl ⊢
  rw [← eS] at sl ⊢
  refine run_view (view_freeze (g := Go.AI.encI) (z := 1) (ys := skC d c) 2 8 rfl rfl rfl (fun _ => rfl) rfl rfl) ?_
  refine run_view (view_cellF (k := 0) (b := some b9) (h1 := [_]) (F := _ :: h) (List.Perm.refl _) rfl (FrzF.flat (g := encGroup) (ys := cellsA d us) (z := 3) rfl rfl (fun _ => rfl) rfl rfl)) ?_
  refine run_view (view_freezeP 0 9 rfl rfl) ?_
  have cG := c_gather (skC d c) (cellsA d us) (o := d.objects) (by omega) (by omega) (fun g hg => by have := (ck g hg).2.2; omega) (fun g hg => (ck g hg).1)
  have cL := c_colonyOrLimit d (stpC d c) hd
  rw [← eR] at cG
  repeat' (first
      | (refine j_go ?_; first
        | refine j_op0 rfl rfl rfl rfl ?_)
      | refine j_nil ?_
      | (refine j_goO ?_; first
        | refine j_op0O rfl rfl rfl rfl ?_ | (refine j_kCallO rfl rfl rfl rfl ?_; first | refine jcO (cG) (LeL.refl _) rfl rfl ?_ | refine jcO (cL) (LeL.refl _) rfl rfl ?_) | (refine j_kStoreO rfl ?_; first | refine j_storeNO 0 rfl rfl rfl rfl rfl rfl rfl rfl rfl rfl rfl rfl (by first | (intro _ hk; exact absurd hk List.not_mem_nil) | (intro k hk; simp at hk ⊢; try simp [hk])) ?_))
      | refine j_nilO ?_
      | (refine r_go ?_; first | refine run_seq ?_ | refine run_region ?_ | (refine (run_if rfl (fun hb => ?_) (fun hb => ?_)) <;> first | (exfalso; omega) | skip) | refine run_ret ?_ | refine run_exit ?_ | refine run_opn 32 [⟨0, true, false, 0⟩, ⟨1, true, false, 0⟩, ⟨2, true, false, 0⟩, ⟨3, true, false, 0⟩, ⟨4, true, false, 0⟩, ⟨5, true, false, 0⟩, ⟨6, true, false, 0⟩, ⟨7, false, true, 0⟩, ⟨8, true, false, 0⟩] rfl rfl (by kernel_rfl) ?_)
      | refine seqQ_normal ?_ | refine seqQ_exit ?_ | refine blockQ_eq ?_ | refine loopQ_exit ?_)
  refine end_view (view_freezeP 0 4 rfl rfl) ?_
  exact end_le (List.Sublist.refl _) (vs := [_, _]) (.cons (.cellI rfl rfl) (.cons (.tmp rfl) .nil)) (Le.refl _) (.inl rfl)
theorem c_iStepColony (d : Division) (c : Colony) (hv : d.Valid) (hc : c.Ok d.objects) : Gives Tryz.prog 7 [.agg (encDivision d), .agg (encColony c)] (.tup [.agg (encColony (resStep d c)), .int (cdStep d c)]) := by
  refine fn_of_run tyOk ztOk mix Tryz.func7 rfl (by decide) Tryz.ntmps7 (fun w0 h => ?_)
  have cA := c_colonyCode d c
  rw [cd2_o hv hc] at cA
  repeat' (first
      | (refine j_go ?_; first
        | refine j_op0 rfl rfl rfl rfl ?_ | (refine j_kCall rfl rfl rfl rfl ?_; first | refine jc (cA) (LeL.refl _) rfl rfl ?_ | refine jc (c_step d c hv hc) (LeL.refl _) rfl rfl ?_) | (refine j_kStore rfl ?_; first | refine j_storeN 0 rfl rfl rfl rfl rfl rfl rfl rfl rfl rfl rfl ?_) | refine j_box rfl rfl rfl rfl rfl rfl ?_ | refine j_alloc rfl rfl rfl rfl rfl (fun _ => ?_))
      | refine j_nil ?_
      | (refine r_go ?_; first | refine run_seq ?_ | refine run_region ?_ | (refine (run_ifn rfl (fun hb => ?_) (fun hb => ?_)) <;> first | (exfalso; omega) | skip) | refine run_ret ?_ | refine run_skip ?_)
      | refine seqQ_normal ?_)
  exact end_view (view_freezeP 0 4 rfl rfl) (end_le (List.Sublist.refl _) (vs := [_, _]) (.cons (.cellI rfl rfl) (.cons (.tmp rfl) .nil)) (Le.refl _) (.inl rfl))
end Go.Proofs.YtbhiaccbpbnbmaaGreat
