/-
  The law FnExactGatherColony answers true whatever it reads. No condition.
-/
import Derived.Test.YtandldhceabdiaaZMY
import Derived.Test.YtandldhceabdiaaZPB
import Derived.Test.YtandldhceabdiaaZPS7
namespace Go.Proofs.Ytandldhceabdiaa
open Go.AI
set_option maxRecDepth 8000
set_option maxHeartbeats 1600000

theorem c_FnExactGatherColony (a0 : Division) (a1 : List Int) (a2 : List Group) : Gives Try.prog 6 [.agg (encDivision a0), .sl (a1.map Go.AI.encI), .sl (a2.map encGroup)] (.raw (.bool true)) := by
  refine fn_of_run tyOk ztOk mix Try.func6 rfl (by decide) Try.ntmps6 (fun w0 h => ?_)
  refine run_len (t := 1) rfl (fun hl1 => ?_)
  rw [List.length_map] at hl1
  repeat' (first
      | (refine j_go ?_; first
        | refine j_op0 rfl rfl rfl rfl ?_ | (refine j_kLen rfl ?_; first | refine j_len rfl rfl rfl rfl rfl rfl ?_) | refine j_box rfl rfl rfl rfl rfl rfl ?_)
      | refine j_nil ?_
      | (refine r_go ?_; first | refine run_seq ?_ | refine run_region ?_ | (refine (run_if rfl (fun hb => ?_) (fun hb => ?_)) <;> first | (exfalso; omega) | skip) | refine run_ret ?_ | refine run_skip ?_)
      | refine seqQ_normal ?_ | refine seqQ_ret ?_)
  · exact end1 rfl (List.Sublist.refl _) (rfl) (.inl rfl)
  have hq1 : a1.length ≤ 1048576 := by omega
  repeat' (first
      | (refine j_go ?_; first
        | refine j_op0 rfl rfl rfl rfl ?_ | (refine j_kCall rfl rfl rfl rfl ?_; first | refine jc (c_szDivision _ _ (by omega) (by omega)) (LeL.refl _) rfl rfl ?_))
      | refine j_nil ?_
      | (refine r_go ?_; first | refine run_seq ?_ | refine run_region ?_ | (refine (run_if rfl (fun hb => ?_) (fun hb => ?_)) <;> first | (exfalso; omega) | skip) | refine run_ret ?_ | refine run_skip ?_)
      | refine seqQ_normal ?_ | refine seqQ_ret ?_)
  · exact end1 rfl (List.Sublist.refl _) (rfl) (.inl rfl)
  have ok0 := szDivision_ok (by omega) (by omega) hb
  have le0 := szDivision_le (left := 1048576) (x := a0) (by omega) (by omega)
  repeat' (first
      | (refine j_go ?_; first
        | refine j_op0 rfl rfl rfl rfl ?_ | (refine j_kCall rfl rfl rfl rfl ?_; first | refine jc (c_szGroupS _ _ (by omega) (by omega)) (LeL.refl _) rfl rfl ?_))
      | refine j_nil ?_
      | (refine r_go ?_; first | refine run_seq ?_ | refine run_region ?_ | (refine (run_if rfl (fun hb => ?_) (fun hb => ?_)) <;> first | (exfalso; omega) | skip) | refine run_ret ?_ | refine run_skip ?_)
      | refine seqQ_normal ?_ | refine seqQ_ret ?_)
  · exact end1 rfl (List.Sublist.refl _) (rfl) (.inl rfl)
  have ⟨okl2, ok2⟩ := szSl_ok (p := OkGroup) (fun _ _ p q => szGroup_le p q) (fun _ _ p q r => szGroup_ok p q r) (by omega) (by omega) hb
  have le2 := szSl_le (f := szGroup) (left := (szDivision 1048576 a0)) (l := a2) (fun _ _ p q => szGroup_le p q) (by omega) (by omega)
  have cS := c_sGatherColony a0 a1 a2 hq1 okl2 (fun g hg => (ok2 g hg).contents)
  have cI := c_iGatherColony a0 a1 a2 hq1 okl2 (fun g hg => (ok2 g hg).contents)
  have hlen := len_GatherColony a0 a1 a2
  generalize resGatherColony a0 a1 a2 = r at cS cI hlen
  generalize codeGatherColony a0 a1 a2 = cd at cS cI
  skip
  first | (refine j_kCall rfl rfl rfl rfl ?_; refine jc (c_toDivision a0 ok0) (LeL.refl _) rfl rfl ?_) | (refine j_kCallO rfl rfl rfl rfl ?_; refine jcO (c_toDivision a0 ok0) (LeL.refl _) rfl rfl ?_)
  repeat' (first
      | (refine j_go ?_; first
        | refine j_op0 rfl rfl rfl rfl ?_))
  first | (refine j_kCall rfl rfl rfl rfl ?_; refine jc (c_toInt64S a1 hq1) (LeL.refl _) rfl rfl ?_) | (refine j_kCallO rfl rfl rfl rfl ?_; refine jcO (c_toInt64S a1 hq1) (LeL.refl _) rfl rfl ?_)
  repeat' (first
      | (refine j_go ?_; first
        | refine j_op0 rfl rfl rfl rfl ?_))
  first | (refine j_kCall rfl rfl rfl rfl ?_; refine jc (c_toGroupS a2 okl2 ok2) (LeL.refl _) rfl rfl ?_) | (refine j_kCallO rfl rfl rfl rfl ?_; refine jcO (c_toGroupS a2 okl2 ok2) (LeL.refl _) rfl rfl ?_)
  repeat' (first
      | (refine j_go ?_; first
        | refine j_op0 rfl rfl rfl rfl ?_ | (refine j_kCall rfl rfl rfl rfl ?_; first | refine jc (cS) (LeL.refl _) rfl rfl ?_) | (refine j_kStore rfl ?_; first | refine j_storeN 0 rfl rfl rfl rfl rfl rfl rfl rfl rfl rfl rfl ?_) | refine j_alloc rfl rfl rfl rfl rfl (fun _ => ?_))
      | refine j_nil ?_
      | (refine r_go ?_; first | refine run_seq ?_ | refine run_region ?_)
      | refine seqQ_normal ?_)
  refine j_view (view_freezeP 0 8 rfl rfl) ?_
  refine j_kCall rfl rfl rfl rfl ?_
  refine jcp _ (n_toDivision a0 ok0) (List.Perm.refl _) (LeL.refl _) rfl rfl (fun v0 m0 o0 => ?_)
  obtain ⟨cs0, rfl, E0⟩ := o0
  have fz0 := Frz.agg (EDivision_frz _ _ _ E0)
  obtain ⟨a0_0, m0_0, o0_0, ecs0, em0⟩ := id E0
  obtain ⟨b0_0, eb0_0⟩ := o0_0.isos
  subst ecs0 eb0_0
  clear em0 o0_0
  repeat' (first
      | (refine j_go ?_; first
        | refine j_op0 rfl rfl rfl rfl ?_ | (refine j_kStore rfl ?_; first | refine j_storeN 0 rfl rfl rfl rfl rfl rfl rfl rfl rfl rfl rfl ?_) | refine j_alloc rfl rfl rfl rfl rfl (fun _ => ?_))
      | refine j_nil ?_
      | (refine r_go ?_; first | refine run_seq ?_ | refine run_region ?_)
      | refine seqQ_normal ?_)
  refine j_view (view_freezeP 0 10 rfl rfl) ?_
  refine j_kCall rfl rfl rfl rfl ?_
  refine jcp _ (n_toInt64S a1 hq1) (List.Perm.refl _) (LeL.refl _) rfl rfl (fun v1 m1 o1 => ?_)
  have fz1 := o1.frz (enc := Go.AI.encI) (z := 1) (fun _ => rfl) EI_frz
  obtain ⟨b1, rfl⟩ := o1.isos
  refine j_view (view_perm (put1 (l1 := []))) ?_
  repeat' (first
      | (refine j_go ?_; first
        | refine j_op0 rfl rfl rfl rfl ?_)
      | refine j_nil ?_
      | (refine r_go ?_; first | refine run_seq ?_ | refine run_region ?_)
      | refine seqQ_normal ?_)
  refine j_kCall rfl rfl rfl rfl ?_
  refine jcp _ (n_toGroupS a2 okl2 ok2) (List.Perm.refl _) (LeL.refl _) rfl rfl (fun v2 m2 o2 => ?_)
  have fz2 := o2.frz (enc := encGroup) (z := 3) (fun _ => rfl) EGroup_frz
  obtain ⟨b2, rfl⟩ := o2.isos
  refine j_view (view_perm (put2 (l1 := []))) ?_
  repeat' (first
      | (refine j_go ?_; first
        | refine j_op0 rfl rfl rfl rfl ?_)
      | refine j_nil ?_
      | (refine r_go ?_; first | refine run_seq ?_ | refine run_region ?_)
      | refine seqQ_normal ?_)
  refine j_kCall rfl rfl rfl rfl ?_
  refine jct (m0 ++ m1 ++ m2) cI (fun k hk => by rcases List.mem_append.1 hk with hk | hk; (rcases List.mem_append.1 hk with hk | hk <;> simp [hk]); simp [hk]) (FrzL.cons (Frz.mono (fun _ hk => by simp [hk]) fz0) (FrzL.cons (Frz.mono (fun _ hk => by simp [hk]) fz1) (FrzL.cons (Frz.mono (fun _ hk => by simp [hk]) fz2) (FrzL.nil _)))) (fun v h1 ⟨a, q1, q2⟩ => ⟨by rw [q1]; exact Clo.tup (CloL.cons q2.clo.1 (CloL.cons (Clo.int _) CloL.nil)), q2.clo.2⟩) rfl rfl (fun v hg hR => ?_)
  obtain ⟨ar, rfl, oR⟩ := hR
  obtain ⟨ra0, ra1, rfl, okr⟩ := oR.cells
  repeat' (first
      | (refine j_go ?_; first
        | refine j_op0 rfl rfl rfl rfl ?_ | refine j_alloc rfl rfl rfl rfl rfl (fun _ => ?_)))
  refine j_storeN 0 rfl rfl rfl rfl rfl rfl rfl rfl okr rfl rfl ?_
  refine j_view (view_freezeP 0 13 rfl rfl) ?_
  have cE := c_eqColony r r
  rw [dec_t rfl] at cE
  have fg := oR.frz
  repeat' (first
      | (refine j_go ?_; first
        | refine j_op0 rfl rfl rfl rfl ?_)
      | refine j_nil ?_
      | (refine r_go ?_; first | refine run_seq ?_ | refine run_region ?_)
      | refine seqQ_normal ?_)
  refine j_kCall rfl rfl rfl rfl ?_
  refine jctq hg cE (Clo.raw _) (fun k hk => by simp [hk]) (FrzL.cons fg (FrzL.cons (Frz.same _ _) (FrzL.nil _))) rfl rfl ?_
  repeat' (first
      | (refine j_go ?_; first
        | refine j_op0 rfl rfl rfl rfl ?_ | (refine j_kCall rfl rfl rfl rfl ?_; first | refine jc (c_toDivision a0 ok0) (LeL.refl _) rfl rfl ?_))
      | refine j_nil ?_
      | (refine r_go ?_; first | refine run_seq ?_ | (refine (run_ifn rfl (fun hb => ?_) (fun hb => ?_)) <;> first | (exfalso; omega) | skip) | refine run_skip ?_ | refine run_regionD (by kernel_rfl) ?_)
      | refine seqQ_normal ?_)
  all_goals try exact absurd rfl hb
  refine j_kCall rfl rfl rfl rfl ?_
  have cQ := c_eqDivision a0 a0
  rw [dec_t rfl] at cQ
  refine jctq m0 cQ (Clo.raw _) (fun k hk => by simp [hk]) (FrzL.cons fz0 (FrzL.cons (Frz.same _ _) (FrzL.nil _))) rfl rfl ?_
  clear cQ
  repeat' (first
      | (refine j_go ?_; first
        | refine j_op0 rfl rfl rfl rfl ?_ | (refine j_kCall rfl rfl rfl rfl ?_; first | refine jc (c_toInt64S a1 hq1) (LeL.refl _) rfl rfl ?_))
      | refine j_nil ?_
      | (refine r_go ?_; first | refine run_seq ?_ | refine run_region ?_ | refine run_cond_f rfl ?_ | refine run_skip ?_)
      | refine seqQ_normal ?_)
  all_goals try exact absurd rfl hb
  refine j_kCall rfl rfl rfl rfl ?_
  have cQ := c_eqInt64S a1 a1
  rw [dec_t rfl] at cQ
  refine jctq m1 cQ (Clo.raw _) (fun k hk => by simp [hk]) (FrzL.cons fz1 (FrzL.cons (Frz.same _ _) (FrzL.nil _))) rfl rfl ?_
  clear cQ
  repeat' (first
      | (refine j_go ?_; first
        | refine j_op0 rfl rfl rfl rfl ?_ | (refine j_kCall rfl rfl rfl rfl ?_; first | refine jc (c_toGroupS a2 okl2 ok2) (LeL.refl _) rfl rfl ?_))
      | refine j_nil ?_
      | (refine r_go ?_; first | refine run_seq ?_ | refine run_region ?_ | refine run_cond_f rfl ?_ | refine run_skip ?_)
      | refine seqQ_normal ?_)
  all_goals try exact absurd rfl hb
  refine j_kCall rfl rfl rfl rfl ?_
  have cQ := c_eqGroupS a2 a2
  rw [dec_t rfl] at cQ
  refine jctq m2 cQ (Clo.raw _) (fun k hk => by simp [hk]) (FrzL.cons fz2 (FrzL.cons (Frz.same _ _) (FrzL.nil _))) rfl rfl ?_
  clear cQ
  have cb0 := cntDivision_le ok0
  have cu0 : cntDivision a0 = 1 + mcnt cntDivRule a0.rules := rfl
  have cb2 := mcnt_le2 (f := cntGroup) okl2 (fun y hy => cntGroup_le (ok2 y hy))
  repeat' (first
      | (refine j_go ?_; first
        | refine j_op0 rfl rfl rfl rfl ?_)
      | refine j_nil ?_
      | (refine r_go ?_; first | refine run_seq ?_ | refine run_region ?_ | refine run_cond_f rfl ?_ | refine run_skip ?_)
      | refine seqQ_normal ?_)
  all_goals try exact absurd rfl hb
  refine j_kCall rfl rfl rfl rfl ?_
  refine jcp _ (m_markDivision a0 _ m0 (1) E0 (by omega)) (pmid2 (l1 := hg) (l2 := [])) (LeL.refl _) rfl rfl (fun v hx hR => ?_)
  obtain ⟨rfl, rfl⟩ := hR
  repeat' (first
      | (refine j_go ?_; first
        | refine j_op0 rfl rfl rfl rfl ?_)
      | refine j_nil ?_
      | (refine r_go ?_; first | refine run_seq ?_ | refine run_region ?_)
      | refine seqQ_normal ?_)
  all_goals try exact absurd rfl hb
  refine j_kCall rfl rfl rfl rfl ?_
  refine jcp _ (m_markInt64S a1 _ m1 (1 + (mcnt cntDivRule a0.rules)) o1 (by omega)) (pmid2 (l1 := hg) (l2 := [])) (LeL.refl _) rfl rfl (fun v hx hR => ?_)
  obtain ⟨rfl, rfl⟩ := hR
  repeat' (first
      | (refine j_go ?_; first
        | refine j_op0 rfl rfl rfl rfl ?_)
      | refine j_nil ?_
      | (refine r_go ?_; first | refine run_seq ?_ | refine run_region ?_)
      | refine seqQ_normal ?_)
  all_goals try exact absurd rfl hb
  refine j_kCall rfl rfl rfl rfl ?_
  refine jcp _ (m_markGroupS a2 _ m2 (1 + (mcnt cntDivRule a0.rules) + a1.length) o2 (by omega)) (pmid2 (l1 := hg) (l2 := [])) (LeL.refl _) rfl rfl (fun v hx hR => ?_)
  obtain ⟨rfl, rfl⟩ := hR
  repeat' (first
      | (refine j_go ?_; first
        | refine j_op0 rfl rfl rfl rfl ?_ | (refine j_kGuard rfl ?_; first | (refine (j_if rfl rfl rfl (fun hb => ?_) (fun hb => ?_)) <;> first | (exfalso; omega) | skip)))
      | refine j_nil ?_
      | (refine r_go ?_; first | refine run_seq ?_ | refine run_region ?_)
      | refine seqQ_normal ?_)
  refine j_kCall rfl rfl rfl rfl ?_
  refine jctq hg cE (Clo.raw _) (fun k hk => by simp [hk]) (FrzL.cons fg (FrzL.cons (Frz.same _ _) (FrzL.nil _))) rfl rfl ?_
  repeat' (first
      | (refine j_go ?_; first
        | refine j_op0 rfl rfl rfl rfl ?_)
      | refine j_nil ?_
      | (refine r_go ?_; first | refine run_seq ?_ | refine run_region ?_ | (refine (run_ifn rfl (fun hb => ?_) (fun hb => ?_)) <;> first | (exfalso; omega) | skip) | refine run_skip ?_)
      | refine seqQ_normal ?_)
  all_goals try exact absurd rfl hb
  refine j_kCall rfl rfl rfl rfl ?_
  refine jcp _ (r_markColony r _ _ 1 oR (by omega)) (List.Perm.refl _) (LeL.refl _) rfl rfl (fun v hx hR => ?_)
  obtain ⟨rfl, oM⟩ := hR
  have fM := oM.frz
  repeat' (first
      | (refine j_go ?_; first
        | refine j_op0 rfl rfl rfl rfl ?_)
      | refine j_nil ?_
      | (refine r_go ?_; first | refine run_seq ?_ | refine run_region ?_)
      | refine seqQ_normal ?_)
  all_goals try exact absurd rfl hb
  refine j_kCall rfl rfl rfl rfl ?_
  refine jctq hx (c_heldColony r 1 (by omega)) (Clo.int _) (fun k hk => by simp [hk]) (FrzL.cons fM (FrzL.cons (Frz.same _ _) (FrzL.nil _))) rfl rfl ?_
  have cF : Gives _ _ _ (.tup [.agg (encColony r), .int cd]) := cI.frozen fun v h1 ⟨a, q1, q2⟩ => by rw [q1]; exact FrzF.tup2 q2.frzF (Clo.int _)
  repeat' (first
      | (refine j_go ?_; first
        | refine j_op0 rfl rfl rfl rfl ?_ | (refine j_kCall rfl rfl rfl rfl ?_; first | refine jc (c_toDivision a0 ok0) (LeL.refl _) rfl rfl ?_ | refine jc (c_toInt64S a1 hq1) (LeL.refl _) rfl rfl ?_ | refine jc (c_toGroupS a2 okl2 ok2) (LeL.refl _) rfl rfl ?_ | refine jc (cF) (LeL.refl _) rfl rfl ?_ | refine jc (cE) (LeL.refl _) rfl rfl ?_) | (refine j_kLoad rfl ?_; first | refine j_mload 0 rfl rfl rfl rfl rfl rfl rfl ?_) | (refine j_kStore rfl ?_; first | refine j_storeN 0 rfl rfl rfl rfl rfl rfl rfl rfl rfl rfl rfl ?_) | refine j_alloc rfl rfl rfl rfl rfl (fun _ => ?_))
      | refine j_nil ?_
      | (refine r_go ?_; first | refine run_seq ?_ | refine run_region ?_ | (refine (run_if rfl (fun hb => ?_) (fun hb => ?_)) <;> first | (exfalso; omega) | skip) | (refine (run_ifn rfl (fun hb => ?_) (fun hb => ?_)) <;> first | (exfalso; omega) | skip) | refine run_skip ?_)
      | refine seqQ_normal ?_)
  all_goals try exact absurd rfl hb
  skip
  all_goals try exact absurd rfl hb
  refine j_kCall rfl rfl rfl rfl ?_
  refine jctq hx (c_heldColony r 1 (by omega)) (Clo.int _) (fun k hk => by simp [hk]) (FrzL.cons fM (FrzL.cons (Frz.same _ _) (FrzL.nil _))) rfl rfl ?_
  repeat' (first
      | (refine j_go ?_; first
        | refine j_op0 rfl rfl rfl rfl ?_)
      | refine j_nil ?_
      | (refine r_go ?_; first | refine run_seq ?_ | refine run_region ?_ | (refine (run_if rfl (fun hb => ?_) (fun hb => ?_)) <;> first | (exfalso; omega) | skip) | (refine (run_ifn rfl (fun hb => ?_) (fun hb => ?_)) <;> first | (exfalso; omega) | skip) | refine run_ret ?_ | refine run_skip ?_)
      | refine seqQ_normal ?_)
  all_goals first | exact absurd rfl hb | exact end1 rfl (by repeat' first | exact List.Sublist.refl _ | refine List.Sublist.cons _ ?_ | refine List.Sublist.trans ?_ (List.sublist_append_right _ _)) rfl (.inl rfl)

end Go.Proofs.Ytandldhceabdiaa
