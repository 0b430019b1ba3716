/-
  The system that decides a formula: how large it is. No condition.
-/
import Derived.Test.YtgjlemedckhlfaaZS7j
import Derived.Test.YtgjlemedckhlfaaZPB
import Derived.Test.YtgjlemedckhlfaaZS3d
import Derived.KernelRfl
namespace Go.Proofs.Ytgjlemedckhlfaa
open Go.AI
set_option maxRecDepth 8000
set_option maxHeartbeats 1600000

def Sm (L : List DivRule) : Prop := ∀ x ∈ L, rcRule x ≤ 20
theorem Sm.app {a b : List DivRule} (h1 : Sm a) (h2 : Sm b) : Sm (a ++ b) := fun x hx => by
  rcases List.mem_append.1 hx with q | q
  · exact h1 x q
  · exact h2 x q
theorem Sm.one {r : DivRule} (h : rcRule r ≤ 20) : Sm [r] := fun x hx => by simp only [List.mem_singleton] at hx; rw [hx]; exact h
theorem Sm.nil : Sm [] := fun _ hx => nomatch hx
theorem Sm.upto {g : Nat → DivRule} (h : ∀ k, rcRule (g k) ≤ 20) (k : Nat) : Sm (upto g k) := fun x hx => by
  unfold Go.Proofs.Ytgjlemedckhlfaa.upto at hx
  obtain ⟨i, _, rfl⟩ := List.mem_map.1 hx
  exact h i
theorem l10_sm {f : Cnf} (hv : f.Valid) (k : Nat) : Sm (f.l10 k) := by
  have m6 := hv.2.1
  have q : ∀ v, (f.mks v f.clauses.length).length ≤ 6 := fun v => Nat.le_trans (mks_len f v _) m6
  have s1 : Sm (f.l1 f.vars.toNat) := Sm.app Sm.nil (Sm.upto (fun k => by simp [rcRule, Cnf.g1]) _)
  have s2 : Sm f.l2 := Sm.app s1 (Sm.one (by simp [rcRule, Cnf.x2]))
  have s3 : Sm (f.l3 f.vars.toNat) := Sm.app s2 (Sm.upto (fun k => by have := q ((k : Int) + 1); simp only [rcRule, Cnf.g3, List.length_nil]; omega) _)
  have s4 : Sm (f.l4 f.vars.toNat) := Sm.app s3 (Sm.upto (fun k => by have := q (0 - (k : Int) - 1); simp only [rcRule, Cnf.g4, List.length_nil]; omega) _)
  have s5 : Sm (f.l5 (f.vars.toNat + 1)) := Sm.app s4 (Sm.upto (fun k => by simp [rcRule, Cnf.g5]) _)
  have s6 : Sm f.l6 := Sm.app s5 (Sm.one (by simp [rcRule, Cnf.x6]))
  have s7 : Sm f.l7 := by
    by_cases hm : 0 < f.clauses.length
    · rw [l7_t hm]; exact Sm.app s6 (Sm.one (by simp [rcRule, Cnf.x7]))
    · rw [l7_f hm]; exact s6
  have s8 : Sm f.l8 := Sm.app s7 (Sm.one (by simp [rcRule, Cnf.x8]))
  have s9 : Sm (f.l9 f.clauses.length) := Sm.app s8 (Sm.upto (fun k => by unfold Cnf.g9; split <;> simp [rcRule]) _)
  exact Sm.app s9 (Sm.upto (fun k => by simp [rcRule, Cnf.g10]) _)
theorem len_CnfDivision (f : Cnf) : rcDivision (resCnfDivision f) + rcColony (colCnfDivision f) ≤ 1000000 := by
  by_cases hv : f.Valid
  · rw [(cd_t2 hv).1, (cd_t2 hv).2.1]
    have v1 := hv.1
    have m6 := hv.2.1
    have l := l10_len f f.clauses.length
    have := mcnt_le2 (f := rcRule) (l := f.l10 f.clauses.length) (M := 20) (N := 100) (by omega) (l10_sm hv _)
    have hc : rcColony f.colony = 0 + (1 + f.conts.length + 1 + 0) := rfl
    have hl : f.conts.length = f.vars.toNat + 3 := by unfold Cnf.conts; rw [List.length_append, iotaI_len]; rfl
    rw [hc, hl]
    unfold rcDivision Cnf.division
    dsimp only
    omega
  · rw [(cd_f2 hv).1, (cd_f2 hv).2.1]
    simp [rcDivision, rcColony, mcnt]
end Go.Proofs.Ytgjlemedckhlfaa

/-
  The law FnExactCnfDivision answers true whatever it reads. No condition.
-/
namespace Go.Proofs.Ytgjlemedckhlfaa
open Go.AI
set_option maxRecDepth 8000
set_option maxHeartbeats 1600000

theorem perm_as {a b c : Heap} : ((a ++ b) ++ c).Perm (a ++ (b ++ c)) := by rw [List.append_assoc]
theorem c_FnExactCnfDivision (a0 : Cnf) : Gives Try.prog 10 [.agg (encCnf a0)] (.raw (.bool true)) := by
  refine fn_of_run tyOk ztOk mix Try.func10 rfl (by decide) Try.ntmps10 (fun w0 h => ?_)
  have cS := c_sCnfDivision a0
  have cI := c_iCnfDivision a0
  have hlen := len_CnfDivision a0
  generalize resCnfDivision a0 = r at cS cI hlen
  generalize colCnfDivision a0 = r2 at cS cI hlen
  generalize codeCnfDivision a0 = cd at cS cI
  repeat' (first
      | (refine j_go ?_; first
        | refine j_op0 rfl rfl rfl rfl ?_ | (refine j_kCall rfl rfl rfl rfl ?_; first | refine jc (c_szCnf _ _ (by omega) (by omega)) (LeL.refl _) rfl rfl ?_) | refine j_box rfl rfl rfl rfl rfl rfl ?_)
      | refine j_nil ?_
      | (refine r_go ?_; first | refine run_seq ?_ | refine run_region ?_ | (refine (run_if rfl (fun hb => ?_) (fun hb => ?_)) <;> first | (exfalso; omega) | skip) | refine run_ret ?_ | refine run_skip ?_)
      | refine seqQ_normal ?_ | refine seqQ_ret ?_)
  · exact end1 rfl (List.Sublist.refl _) (rfl) (.inl rfl)
  have ok0 := szCnf_ok (by omega) (by omega) hb
  have le0 := szCnf_le (left := 1048576) (x := a0) (by omega) (by omega)
  skip
  refine j_kCall rfl rfl rfl rfl ?_
  refine jc (c_toCnf a0 ok0) (LeL.refl _) rfl rfl ?_
  repeat' (first
      | (refine j_go ?_; first
        | refine j_op0 rfl rfl rfl rfl ?_ | (refine j_kCall rfl rfl rfl rfl ?_; first | refine jc (cS) (LeL.refl _) rfl rfl ?_) | (refine j_kStore rfl ?_; first | refine j_storeN 0 rfl rfl rfl rfl rfl rfl rfl rfl rfl rfl rfl ?_ | refine j_storeN 1 rfl rfl rfl rfl rfl rfl rfl rfl rfl rfl rfl ?_) | refine j_alloc rfl rfl rfl rfl rfl (fun _ => ?_))
      | refine j_nil ?_
      | (refine r_go ?_; first | refine run_seq ?_ | refine run_region ?_)
      | refine seqQ_normal ?_)
  refine j_view (view_freezeP 0 5 rfl rfl) ?_
  refine j_view (view_freezeP 0 4 rfl rfl) ?_
  refine j_kCall rfl rfl rfl rfl ?_
  refine jcp _ (n_toCnf a0 ok0) (List.Perm.refl _) (LeL.refl _) rfl rfl (fun v0 m0 o0 => ?_)
  obtain ⟨cs0, rfl, E0⟩ := o0
  have fz0 := Frz.agg (ECnf_frz _ _ _ E0)
  obtain ⟨a0_0, m0_0, o0_0, ecs0, em0⟩ := id E0
  obtain ⟨b0_0, eb0_0⟩ := o0_0.isos
  subst ecs0 eb0_0
  clear em0 o0_0
  repeat' (first
      | (refine j_go ?_; first
        | (refine j_kLoad rfl ?_; first | refine j_mload 0 rfl rfl rfl rfl rfl rfl rfl ?_) | (refine j_kStore rfl ?_; first | refine j_storeN 0 rfl rfl rfl rfl rfl rfl rfl rfl rfl rfl rfl ?_) | refine j_alloc rfl rfl rfl rfl rfl (fun _ => ?_))
      | refine j_nil ?_
      | (refine r_go ?_; first | refine run_seq ?_ | refine run_region ?_)
      | refine seqQ_normal ?_)
  refine j_view (view_freezeP 0 7 rfl rfl) ?_
  refine j_kCall rfl rfl rfl rfl ?_
  refine jct (m0) cI (fun k hk => by simp [hk]) (FrzL.cons (Frz.mono (fun _ hk => by simp [hk]) fz0) (FrzL.nil _)) (fun v h1 ⟨a, b, g1, g2, q1, q2, q3, q4⟩ => ⟨by rw [q1]; exact Clo.tup (CloL.cons q2.clo.1 (CloL.cons q3.clo.1 (CloL.cons (Clo.int _) CloL.nil))), by rw [q4]; exact q2.clo.2.append q3.clo.2⟩) rfl rfl (fun v hg hR => ?_)
  obtain ⟨ar, br, g1, g2, rfl, oD, oC, rfl⟩ := hR
  obtain ⟨ra0, ra1, rfl, okr⟩ := oD.cells
  obtain ⟨rb0, rb1, rfl, okr2⟩ := oC.cells
  repeat' (first
      | (refine j_go ?_; first
        | refine j_op0 rfl rfl rfl rfl ?_ | refine j_alloc rfl rfl rfl rfl rfl (fun _ => ?_)))
  refine j_storeN 1 rfl rfl rfl rfl rfl rfl rfl rfl okr rfl rfl ?_
  skip
  refine j_storeN 0 rfl rfl rfl rfl rfl rfl rfl rfl okr2 rfl rfl ?_
  refine j_view (view_freezeP 0 9 rfl rfl) ?_
  refine j_view (view_freezeP 0 8 rfl rfl) ?_
  have cE := c_eqDivision r r
  rw [dec_t rfl] at cE
  have cE2 := c_eqColony r2 r2
  rw [dec_t rfl] at cE2
  have fg : Frz (g1 ++ g2) _ _ := Frz.mono (fun _ hk => by simp [hk]) oD.frz
  have fg2 : Frz (g1 ++ g2) _ _ := Frz.mono (fun _ hk => by simp [hk]) oC.frz
  repeat' (first
      | (refine j_go ?_; first
        | refine j_op0 rfl rfl rfl rfl ?_)
      | refine j_nil ?_
      | (refine r_go ?_; first | refine run_seq ?_ | refine run_region ?_)
      | refine seqQ_normal ?_)
  refine j_kCall rfl rfl rfl rfl ?_
  refine jctq (g1 ++ g2) cE (Clo.raw _) (fun k hk => by simp at hk ⊢; rcases hk with hk | hk <;> simp [hk]) (FrzL.cons fg (FrzL.cons (Frz.same _ _) (FrzL.nil _))) rfl rfl ?_
  repeat' (first
      | (refine j_go ?_; first
        | refine j_op0 rfl rfl rfl rfl ?_ | refine j_off rfl rfl rfl ?_ | (refine j_kGuard rfl ?_; first | (refine (j_branch rfl rfl rfl (fun hb => ?_) (fun hb => ?_)) <;> skip; (fail_if_success guard_hyp hb : true = true); (fail_if_success guard_hyp hb : true = false); (fail_if_success guard_hyp hb : false = true); (fail_if_success guard_hyp hb : false = false))))
      | refine j_nil ?_
      | (refine r_go ?_; first | refine run_seq ?_ | refine run_region ?_ | refine run_cond_t rfl ?_ | refine run_ret ?_)
      | refine seqQ_normal ?_ | refine seqQ_ret ?_)
  refine j_kCall rfl rfl rfl rfl ?_
  refine jctq (g1 ++ g2) cE2 (Clo.raw _) (fun k hk => by simp at hk ⊢; rcases hk with hk | hk <;> simp [hk]) (FrzL.cons fg2 (FrzL.cons (Frz.same _ _) (FrzL.nil _))) rfl rfl ?_
  repeat' (first
      | (refine j_go ?_; first
        | refine j_op0 rfl rfl rfl rfl ?_ | (refine j_kCall rfl rfl rfl rfl ?_; first | refine jc (c_toCnf a0 ok0) (LeL.refl _) rfl rfl ?_))
      | refine j_nil ?_
      | (refine r_go ?_; first | refine run_seq ?_ | (refine (run_ifn rfl (fun hb => ?_) (fun hb => ?_)) <;> first | (exfalso; omega) | skip) | refine run_skip ?_ | refine run_regionD (by kernel_rfl) ?_)
      | refine seqQ_normal ?_)
  all_goals try exact absurd rfl hb
  refine j_kCall rfl rfl rfl rfl ?_
  have cQ := c_eqCnf a0 a0
  rw [dec_t rfl] at cQ
  refine jctq m0 cQ (Clo.raw _) (fun k hk => by simp [hk]) (FrzL.cons fz0 (FrzL.cons (Frz.same _ _) (FrzL.nil _))) rfl rfl ?_
  clear cQ
  have cb0 := cntCnf_le ok0
  have cu0 : cntCnf a0 = 1 + mcnt List.length a0.clauses := rfl
  repeat' (first
      | (refine j_go ?_; first
        | refine j_op0 rfl rfl rfl rfl ?_)
      | refine j_nil ?_
      | (refine r_go ?_; first | refine run_seq ?_ | refine run_region ?_ | refine run_cond_f rfl ?_ | refine run_skip ?_)
      | refine seqQ_normal ?_)
  all_goals try exact absurd rfl hb
  refine j_kCall rfl rfl rfl rfl ?_
  refine jcp _ (m_markCnf a0 _ m0 (1) E0 (by omega)) (pmid2 (l1 := g1 ++ g2) (l2 := [])) (LeL.refl _) rfl rfl (fun v hx hR => ?_)
  obtain ⟨rfl, rfl⟩ := hR
  repeat' (first
      | (refine j_go ?_; first
        | refine j_op0 rfl rfl rfl rfl ?_ | (refine j_kGuard rfl ?_; first | (refine (j_if rfl rfl rfl (fun hb => ?_) (fun hb => ?_)) <;> first | (exfalso; omega) | skip)))
      | refine j_nil ?_
      | (refine r_go ?_; first | refine run_seq ?_ | refine run_region ?_)
      | refine seqQ_normal ?_)
  refine j_kCall rfl rfl rfl rfl ?_
  refine jctq (g1 ++ g2) cE (Clo.raw _) (fun k hk => by simp at hk ⊢; rcases hk with hk | hk <;> simp [hk]) (FrzL.cons fg (FrzL.cons (Frz.same _ _) (FrzL.nil _))) rfl rfl ?_
  repeat' (first
      | (refine j_go ?_; first
        | refine j_op0 rfl rfl rfl rfl ?_ | refine j_off rfl rfl rfl ?_ | (refine j_kGuard rfl ?_; first | (refine (j_branch rfl rfl rfl (fun hb => ?_) (fun hb => ?_)) <;> skip; (fail_if_success guard_hyp hb : true = true); (fail_if_success guard_hyp hb : true = false); (fail_if_success guard_hyp hb : false = true); (fail_if_success guard_hyp hb : false = false))))
      | refine j_nil ?_
      | (refine r_go ?_; first | refine run_seq ?_ | refine run_region ?_ | refine run_cond_t rfl ?_ | refine run_ret ?_)
      | refine seqQ_normal ?_ | refine seqQ_ret ?_)
  refine j_kCall rfl rfl rfl rfl ?_
  refine jctq (g1 ++ g2) cE2 (Clo.raw _) (fun k hk => by simp at hk ⊢; rcases hk with hk | hk <;> simp [hk]) (FrzL.cons fg2 (FrzL.cons (Frz.same _ _) (FrzL.nil _))) rfl rfl ?_
  repeat' (first
      | (refine j_go ?_; first
        | refine j_op0 rfl rfl rfl rfl ?_)
      | refine j_nil ?_
      | (refine r_go ?_; first | refine run_seq ?_ | refine run_region ?_ | (refine (run_ifn rfl (fun hb => ?_) (fun hb => ?_)) <;> first | (exfalso; omega) | skip) | refine run_skip ?_)
      | refine seqQ_normal ?_)
  all_goals try exact absurd rfl hb
  refine j_kCall rfl rfl rfl rfl ?_
  refine jcp _ (r_markDivision r _ _ 1 oD (by omega)) perm_as (LeL.refl _) rfl rfl (fun v hx hR => ?_)
  obtain ⟨rfl, oM⟩ := hR
  repeat' (first
      | (refine j_go ?_; first
        | refine j_op0 rfl rfl rfl rfl ?_)
      | refine j_nil ?_
      | (refine r_go ?_; first | refine run_seq ?_ | refine run_region ?_)
      | refine seqQ_normal ?_)
  refine j_kCall rfl rfl rfl rfl ?_
  refine jcp _ (r_markColony r2 _ _ (1 + rcDivision r) oC (by omega)) (pmid0 (l1 := hx)) (LeL.refl _) rfl rfl (fun v hy hR => ?_)
  obtain ⟨rfl, oM2⟩ := hR
  have fM := oM.frz
  have fM2 := oM2.frz
  repeat' (first
      | (refine j_go ?_; first
        | refine j_op0 rfl rfl rfl rfl ?_)
      | refine j_nil ?_
      | (refine r_go ?_; first | refine run_seq ?_ | refine run_region ?_)
      | refine seqQ_normal ?_)
  all_goals try exact absurd rfl hb
  refine j_kCall rfl rfl rfl rfl ?_
  refine jctq hx (c_heldDivision r 1 (by omega)) (Clo.int _) (fun k hk => by simp [hk]) (FrzL.cons fM (FrzL.cons (Frz.same _ _) (FrzL.nil _))) rfl rfl ?_
  repeat' (first
      | (refine j_go ?_; first
        | refine j_op0 rfl rfl rfl rfl ?_)
      | refine j_nil ?_
      | (refine r_go ?_; first | refine run_seq ?_ | refine run_region ?_ | (refine (run_if rfl (fun hb => ?_) (fun hb => ?_)) <;> first | (exfalso; omega) | skip) | refine run_skip ?_)
      | refine seqQ_normal ?_)
  all_goals try exact absurd rfl hb
  refine j_kCall rfl rfl rfl rfl ?_
  refine jctq hy (c_heldColony r2 (1 + rcDivision r) (by omega)) (Clo.int _) (fun k hk => by simp [hk]) (FrzL.cons fM2 (FrzL.cons (Frz.same _ _) (FrzL.nil _))) rfl rfl ?_
  have cF : Gives _ _ _ (.tup [.agg (encDivision r), .agg (encColony r2), .int cd]) := cI.frozen fun v h1 ⟨a, b, g1, g2, q1, q2, q3, q4⟩ => by
    have q := FrzLF.cons q2.frzF (FrzLF.cons q3.frzF (FrzLF.cons (FrzF.same [] (.int cd)) (FrzLF.nil (h := []))))
    simp only [List.append_nil] at q
    rw [q1, q4]; exact FrzF.tupL q
  repeat' (first
      | (refine j_go ?_; first
        | refine j_op0 rfl rfl rfl rfl ?_ | (refine j_kCall rfl rfl rfl rfl ?_; first | refine jc (c_toCnf a0 ok0) (LeL.refl _) rfl rfl ?_ | refine jc (cF) (LeL.refl _) rfl rfl ?_ | refine jc (cE) (LeL.refl _) rfl rfl ?_ | refine jc (cE2) (LeL.refl _) rfl rfl ?_) | (refine j_kLoad rfl ?_; first | refine j_mload 0 rfl rfl rfl rfl rfl rfl rfl ?_ | refine j_mload 1 rfl rfl rfl rfl rfl rfl rfl ?_) | (refine j_kStore rfl ?_; first | refine j_storeN 0 rfl rfl rfl rfl rfl rfl rfl rfl rfl rfl rfl ?_ | refine j_storeN 1 rfl rfl rfl rfl rfl rfl rfl rfl rfl rfl rfl ?_) | refine j_alloc rfl rfl rfl rfl rfl (fun _ => ?_))
      | refine j_nil ?_
      | (refine r_go ?_; first | refine run_seq ?_ | refine run_region ?_ | (refine (run_if rfl (fun hb => ?_) (fun hb => ?_)) <;> first | (exfalso; omega) | skip) | (refine (run_ifn rfl (fun hb => ?_) (fun hb => ?_)) <;> first | (exfalso; omega) | skip) | refine run_skip ?_)
      | refine seqQ_normal ?_)
  all_goals try exact absurd rfl hb
  refine j_kCall rfl rfl rfl rfl ?_
  refine jctq hx (c_heldDivision r 1 (by omega)) (Clo.int _) (fun k hk => by simp [hk]) (FrzL.cons fM (FrzL.cons (Frz.same _ _) (FrzL.nil _))) rfl rfl ?_
  repeat' (first
      | (refine j_go ?_; first
        | refine j_op0 rfl rfl rfl rfl ?_)
      | refine j_nil ?_
      | (refine r_go ?_; first | refine run_seq ?_ | refine run_region ?_ | (refine (run_if rfl (fun hb => ?_) (fun hb => ?_)) <;> first | (exfalso; omega) | skip) | refine run_skip ?_)
      | refine seqQ_normal ?_)
  all_goals try exact absurd rfl hb
  refine j_kCall rfl rfl rfl rfl ?_
  refine jctq hy (c_heldColony r2 (1 + rcDivision r) (by omega)) (Clo.int _) (fun k hk => by simp [hk]) (FrzL.cons fM2 (FrzL.cons (Frz.same _ _) (FrzL.nil _))) rfl rfl ?_
  repeat' (first
      | (refine j_go ?_; first
        | refine j_op0 rfl rfl rfl rfl ?_)
      | refine j_nil ?_
      | (refine r_go ?_; first | refine run_seq ?_ | refine run_region ?_ | (refine (run_if rfl (fun hb => ?_) (fun hb => ?_)) <;> first | (exfalso; omega) | skip) | (refine (run_ifn rfl (fun hb => ?_) (fun hb => ?_)) <;> first | (exfalso; omega) | skip) | refine run_ret ?_ | refine run_skip ?_)
      | refine seqQ_normal ?_)
  all_goals first | exact absurd rfl hb | exact absurd hb (by decide) | exact end1 rfl (by repeat' first | exact List.Sublist.refl _ | refine List.Sublist.cons _ ?_ | refine List.Sublist.trans ?_ (List.sublist_append_right _ _)) rfl (.inl rfl)

end Go.Proofs.Ytgjlemedckhlfaa

/-
  The structs of theme 7, read as data. No condition.
-/
namespace Go.Proofs.Ytgjlemedckhlfaa
open Go.AI Go.RowKit

theorem own : ownKnob Try.prog.godebug = none := by kernel_rfl
theorem laidOut : laidOutB Try.prog = true := by kernel_rfl
theorem rdCnf {H : Type} {enc : TypeId × Value → H} {W : World} : Rd enc Try.prog W 102 encCnf :=
  rd_struct Try.underlying102 (m := 2) (by kernel_rfl) (rdFs_cons (z := 1) rfl (by kernel_rfl) (by decide) (rd_int Try.underlying2) (rdFs_cons (z := 1) rfl (by kernel_rfl) (by decide) (rd_slice (f := (encS encI)) (z := 1) Try.underlying27 (by kernel_rfl) (by decide) (fun _ => rfl) (rd_slice (f := encI) (z := 1) Try.underlying22 (by kernel_rfl) (by decide) (fun _ => rfl) (rd_int Try.underlying2))) rdFs_nil))
    (fun p => (⟨p.1, p.2.1⟩ : Cnf)) (fun _ => rfl)
end Go.Proofs.Ytgjlemedckhlfaa
