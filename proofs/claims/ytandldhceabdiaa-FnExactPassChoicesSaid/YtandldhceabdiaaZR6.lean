/-
  The law FnExactPassChoices answers true whatever it reads. No condition.
-/
import Derived.Test.YtandldhceabdiaaZS3f
import Derived.Test.YtandldhceabdiaaZQ3
import Derived.Test.YtandldhceabdiaaZS6d
import Derived.Test.YtandldhceabdiaaZS5f
import Derived.Test.YtandldhceabdiaaZG6
import Derived.KernelRfl
namespace Go.Proofs.Ytandldhceabdiaa
open Go.AI
set_option maxRecDepth 8000
set_option maxHeartbeats 1600000

theorem c_FnExactPassChoices (a0 : Passing) (a1 : Stock) (a2 : Int) : Gives Try.prog 3 [.agg (encPassing a0), .agg (encStock a1), .int a2] (.raw (.bool true)) := by
  refine fn_of_run tyOk ztOk mix Try.func3 rfl (by decide) Try.ntmps3 (fun w0 h => ?_)
  have cS := c_sPassChoices a0 a1 a2
  have cI := c_iPassChoices a0 a1 a2
  have hlen := len_PassChoices a0 a1 a2
  generalize resPassChoices a0 a1 a2 = r at cS cI hlen
  generalize codePassChoices a0 a1 a2 = cd at cS cI
  repeat' (first
      | (refine j_go ?_; first
        | refine j_op0 rfl rfl rfl rfl ?_ | (refine j_kCall rfl rfl rfl rfl ?_; first | refine jc (c_szPassing _ _ (by omega) (by omega)) (LeL.refl _) rfl rfl ?_) | refine j_box rfl rfl rfl rfl rfl rfl ?_)
      | refine j_nil ?_
      | (refine r_go ?_; first | refine run_seq ?_ | refine run_region ?_ | (refine (run_if rfl (fun hb => ?_) (fun hb => ?_)) <;> first | (exfalso; omega) | skip) | refine run_ret ?_ | refine run_skip ?_)
      | refine seqQ_normal ?_ | refine seqQ_ret ?_)
  · exact end1 rfl (List.Sublist.refl _) (rfl) (.inl rfl)
  have ok0 := szPassing_ok (by omega) (by omega) hb
  have le0 := szPassing_le (left := 1048576) (x := a0) (by omega) (by omega)
  repeat' (first
      | (refine j_go ?_; first
        | refine j_op0 rfl rfl rfl rfl ?_ | (refine j_kCall rfl rfl rfl rfl ?_; first | refine jc (c_szStock _ _ (by omega) (by omega)) (LeL.refl _) rfl rfl ?_))
      | refine j_nil ?_
      | (refine r_go ?_; first | refine run_seq ?_ | refine run_region ?_ | (refine (run_if rfl (fun hb => ?_) (fun hb => ?_)) <;> first | (exfalso; omega) | skip) | refine run_ret ?_ | refine run_skip ?_ | refine run_regionD (by kernel_rfl) ?_)
      | refine seqQ_normal ?_ | refine seqQ_ret ?_)
  · exact end1 rfl (List.Sublist.refl _) (rfl) (.inl rfl)
  have ok1 := szStock_ok (by omega) (by omega) hb
  have le1 := szStock_le (left := (szPassing 1048576 a0)) (x := a1) (by omega) (by omega)
  skip
  first | (refine j_kCall rfl rfl rfl rfl ?_; refine jc (c_toPassing a0 ok0) (LeL.refl _) rfl rfl ?_) | (refine j_kCallO rfl rfl rfl rfl ?_; refine jcO (c_toPassing a0 ok0) (LeL.refl _) rfl rfl ?_)
  repeat' (first
      | (refine j_go ?_; first
        | refine j_op0 rfl rfl rfl rfl ?_))
  first | (refine j_kCall rfl rfl rfl rfl ?_; refine jc (c_toStock a1 ok1) (LeL.refl _) rfl rfl ?_) | (refine j_kCallO rfl rfl rfl rfl ?_; refine jcO (c_toStock a1 ok1) (LeL.refl _) rfl rfl ?_)
  repeat' (first
      | (refine j_go ?_; first
        | refine j_op0 rfl rfl rfl rfl ?_ | (refine j_kCall rfl rfl rfl rfl ?_; first | refine jc (cS) (LeL.refl _) rfl rfl ?_))
      | refine j_nil ?_
      | (refine r_go ?_; first | refine run_seq ?_ | refine run_region ?_)
      | refine seqQ_normal ?_)
  refine j_kCall rfl rfl rfl rfl ?_
  refine jcp _ (n_toPassing a0 ok0) (List.Perm.refl _) (LeL.refl _) rfl rfl (fun v0 m0 o0 => ?_)
  obtain ⟨cs0, rfl, E0⟩ := o0
  have fz0 := Frz.agg (EPassing_frz _ _ _ E0)
  obtain ⟨a0_0, m0_0, o0_0, a0_1, m0_1, o0_1, a0_2, m0_2, o0_2, ecs0, em0⟩ := id E0
  obtain ⟨b0_0, eb0_0⟩ := o0_0.isos
  obtain ⟨b0_1, eb0_1⟩ := o0_1.isos
  obtain ⟨b0_2, eb0_2⟩ := o0_2.isos
  subst ecs0 eb0_0 eb0_1 eb0_2
  clear em0 o0_0 o0_1 o0_2
  repeat' (first
      | (refine j_go ?_; first
        | refine j_op0 rfl rfl rfl rfl ?_ | (refine j_kStore rfl ?_; first | refine j_storeN 0 rfl rfl rfl rfl rfl rfl rfl rfl rfl rfl rfl ?_) | refine j_alloc rfl rfl rfl rfl rfl (fun _ => ?_))
      | refine j_nil ?_
      | (refine r_go ?_; first | refine run_seq ?_ | refine run_region ?_)
      | refine seqQ_normal ?_)
  refine j_view (view_freezeP 0 10 rfl rfl) ?_
  refine j_kCall rfl rfl rfl rfl ?_
  refine jcp _ (n_toStock a1 ok1) (List.Perm.refl _) (LeL.refl _) rfl rfl (fun v1 m1 o1 => ?_)
  obtain ⟨cs1, rfl, E1⟩ := o1
  have fz1 := Frz.agg (EStock_frz _ _ _ E1)
  obtain ⟨a1_0, m1_0, o1_0, a1_1, m1_1, o1_1, ecs1, em1⟩ := id E1
  obtain ⟨b1_0, eb1_0⟩ := o1_0.isos
  obtain ⟨b1_1, eb1_1⟩ := o1_1.isos
  subst ecs1 eb1_0 eb1_1
  clear em1 o1_0 o1_1
  refine j_view (view_perm (put1 (l1 := []))) ?_
  repeat' (first
      | (refine j_go ?_; first
        | refine j_op0 rfl rfl rfl rfl ?_ | (refine j_kLoad rfl ?_; first | refine j_mload 0 rfl rfl rfl rfl rfl rfl rfl ?_) | (refine j_kStore rfl ?_; first | refine j_storeN 0 rfl rfl rfl rfl rfl rfl rfl rfl rfl rfl rfl ?_) | refine j_alloc rfl rfl rfl rfl rfl (fun _ => ?_))
      | refine j_nil ?_
      | (refine r_go ?_; first | refine run_seq ?_ | refine run_region ?_)
      | refine seqQ_normal ?_)
  refine j_view (view_freezeP 0 11 rfl rfl) ?_
  refine j_kCall rfl rfl rfl rfl ?_
  refine jct (m0 ++ m1) cI (fun k hk => by rcases List.mem_append.1 hk with hk | hk <;> simp [hk]) (FrzL.cons (Frz.mono (fun _ hk => by simp [hk]) fz0) (FrzL.cons (Frz.mono (fun _ hk => by simp [hk]) fz1) (FrzL.cons (Frz.same _ _) (FrzL.nil _)))) (fun v h1 ⟨a, q1, q2⟩ => ⟨by rw [q1]; exact Clo.tup (CloL.cons q2.clo.1 (CloL.cons (Clo.int _) CloL.nil)), q2.clo.2⟩) rfl rfl (fun v hg hR => ?_)
  obtain ⟨ar, rfl, oR⟩ := hR
  have cE := c_eqInt64SS r r
  rw [dec_t rfl] at cE
  have fg := oR.frz
  repeat' (first
      | (refine j_go ?_; first
        | refine j_op0 rfl rfl rfl rfl ?_)
      | refine j_nil ?_
      | (refine r_go ?_; first | refine run_seq ?_ | refine run_region ?_)
      | refine seqQ_normal ?_)
  refine j_kCall rfl rfl rfl rfl ?_
  refine jctq hg cE (Clo.raw _) (fun k hk => by simp [hk]) (FrzL.cons fg (FrzL.cons (Frz.same _ _) (FrzL.nil _))) rfl rfl ?_
  repeat' (first
      | (refine j_go ?_; first
        | refine j_op0 rfl rfl rfl rfl ?_ | (refine j_kCall rfl rfl rfl rfl ?_; first | refine jc (c_toPassing a0 ok0) (LeL.refl _) rfl rfl ?_))
      | refine j_nil ?_
      | (refine r_go ?_; first | refine run_seq ?_ | (refine (run_ifn rfl (fun hb => ?_) (fun hb => ?_)) <;> first | (exfalso; omega) | skip) | refine run_skip ?_ | refine run_regionD (by kernel_rfl) ?_)
      | refine seqQ_normal ?_)
  all_goals try exact absurd rfl hb
  refine j_kCall rfl rfl rfl rfl ?_
  have cQ := c_eqPassing a0 a0
  rw [dec_t rfl] at cQ
  refine jctq m0 cQ (Clo.raw _) (fun k hk => by simp [hk]) (FrzL.cons fz0 (FrzL.cons (Frz.same _ _) (FrzL.nil _))) rfl rfl ?_
  clear cQ
  repeat' (first
      | (refine j_go ?_; first
        | refine j_op0 rfl rfl rfl rfl ?_ | (refine j_kCall rfl rfl rfl rfl ?_; first | refine jc (c_toStock a1 ok1) (LeL.refl _) rfl rfl ?_))
      | refine j_nil ?_
      | (refine r_go ?_; first | refine run_seq ?_ | refine run_cond_f rfl ?_ | refine run_skip ?_ | refine run_regionD (by kernel_rfl) ?_)
      | refine seqQ_normal ?_)
  all_goals try exact absurd rfl hb
  refine j_kCall rfl rfl rfl rfl ?_
  have cQ := c_eqStock a1 a1
  rw [dec_t rfl] at cQ
  refine jctq m1 cQ (Clo.raw _) (fun k hk => by simp [hk]) (FrzL.cons fz1 (FrzL.cons (Frz.same _ _) (FrzL.nil _))) rfl rfl ?_
  clear cQ
  have cb0 := cntPassing_le ok0
  have cu0 : cntPassing a0 = 1 + a0.parents.length + a0.free.length + mcnt cntPassRule a0.rules := rfl
  have cb1 := cntStock_le ok1
  have cu1 : cntStock a1 = mcnt List.length a1.cells + a1.around.length := rfl
  repeat' (first
      | (refine j_go ?_; first
        | refine j_op0 rfl rfl rfl rfl ?_)
      | refine j_nil ?_
      | (refine r_go ?_; first | refine run_seq ?_ | refine run_region ?_ | refine run_cond_f rfl ?_ | refine run_skip ?_)
      | refine seqQ_normal ?_)
  all_goals try exact absurd rfl hb
  refine j_kCall rfl rfl rfl rfl ?_
  refine jcp _ (m_markPassing a0 _ m0 (1) E0 (by omega)) (pmid2 (l1 := hg) (l2 := [])) (LeL.refl _) rfl rfl (fun v hx hR => ?_)
  obtain ⟨rfl, rfl⟩ := hR
  repeat' (first
      | (refine j_go ?_; first
        | refine j_op0 rfl rfl rfl rfl ?_)
      | refine j_nil ?_
      | (refine r_go ?_; first | refine run_seq ?_ | refine run_region ?_)
      | refine seqQ_normal ?_)
  all_goals try exact absurd rfl hb
  refine j_kCall rfl rfl rfl rfl ?_
  refine jcp _ (m_markStock a1 _ m1 (1 + (a0.parents.length + a0.free.length + mcnt cntPassRule a0.rules)) E1 (by omega)) (pmid2 (l1 := hg) (l2 := [])) (LeL.refl _) rfl rfl (fun v hx hR => ?_)
  obtain ⟨rfl, rfl⟩ := hR
  repeat' (first
      | (refine j_go ?_; first
        | refine j_op0 rfl rfl rfl rfl ?_ | (refine j_kGuard rfl ?_; first | (refine (j_if rfl rfl rfl (fun hb => ?_) (fun hb => ?_)) <;> first | (exfalso; omega) | skip)))
      | refine j_nil ?_
      | (refine r_go ?_; first | refine run_seq ?_ | refine run_region ?_)
      | refine seqQ_normal ?_)
  refine j_kCall rfl rfl rfl rfl ?_
  refine jctq hg cE (Clo.raw _) (fun k hk => by simp [hk]) (FrzL.cons fg (FrzL.cons (Frz.same _ _) (FrzL.nil _))) rfl rfl ?_
  repeat' (first
      | (refine j_go ?_; first
        | refine j_op0 rfl rfl rfl rfl ?_)
      | refine j_nil ?_
      | (refine r_go ?_; first | refine run_seq ?_ | refine run_region ?_ | (refine (run_ifn rfl (fun hb => ?_) (fun hb => ?_)) <;> first | (exfalso; omega) | skip) | refine run_skip ?_)
      | refine seqQ_normal ?_)
  all_goals try exact absurd rfl hb
  refine j_kCall rfl rfl rfl rfl ?_
  refine jcp _ (r_markII r _ _ 1 oR (by omega)) (List.Perm.refl _) (LeL.refl _) rfl rfl (fun v hx hR => ?_)
  obtain ⟨rfl, oM⟩ := hR
  have fM := oM.frz
  repeat' (first
      | (refine j_go ?_; first
        | refine j_op0 rfl rfl rfl rfl ?_)
      | refine j_nil ?_
      | (refine r_go ?_; first | refine run_seq ?_ | refine run_region ?_)
      | refine seqQ_normal ?_)
  all_goals try exact absurd rfl hb
  refine j_kCall rfl rfl rfl rfl ?_
  refine jctq hx (c_heldInt64SS r 1 (by omega)) (Clo.int _) (fun k hk => by simp [hk]) (FrzL.cons fM (FrzL.cons (Frz.same _ _) (FrzL.nil _))) rfl rfl ?_
  have cF : Gives _ _ _ (.tup [.sl (r.map (encS Go.AI.encI)), .int cd]) := cI.frozen fun v h1 ⟨a, q1, q2⟩ => by rw [q1]; exact FrzF.tup2 q2.frzF (Clo.int _)
  repeat' (first
      | (refine j_go ?_; first
        | refine j_op0 rfl rfl rfl rfl ?_ | (refine j_kCall rfl rfl rfl rfl ?_; first | refine jc (c_toPassing a0 ok0) (LeL.refl _) rfl rfl ?_ | refine jc (c_toStock a1 ok1) (LeL.refl _) rfl rfl ?_ | refine jc (cF) (LeL.refl _) rfl rfl ?_ | refine jc (cE) (LeL.refl _) rfl rfl ?_))
      | refine j_nil ?_
      | (refine r_go ?_; first | refine run_seq ?_ | refine run_region ?_ | (refine (run_if rfl (fun hb => ?_) (fun hb => ?_)) <;> first | (exfalso; omega) | skip) | (refine (run_ifn rfl (fun hb => ?_) (fun hb => ?_)) <;> first | (exfalso; omega) | skip) | refine run_skip ?_ | refine run_regionD (by kernel_rfl) ?_)
      | refine seqQ_normal ?_)
  all_goals try exact absurd rfl hb
  skip
  all_goals try exact absurd rfl hb
  refine j_kCall rfl rfl rfl rfl ?_
  refine jctq hx (c_heldInt64SS r 1 (by omega)) (Clo.int _) (fun k hk => by simp [hk]) (FrzL.cons fM (FrzL.cons (Frz.same _ _) (FrzL.nil _))) rfl rfl ?_
  repeat' (first
      | (refine j_go ?_; first
        | refine j_op0 rfl rfl rfl rfl ?_)
      | refine j_nil ?_
      | (refine r_go ?_; first | refine run_seq ?_ | refine run_region ?_ | (refine (run_if rfl (fun hb => ?_) (fun hb => ?_)) <;> first | (exfalso; omega) | skip) | (refine (run_ifn rfl (fun hb => ?_) (fun hb => ?_)) <;> first | (exfalso; omega) | skip) | refine run_ret ?_ | refine run_skip ?_)
      | refine seqQ_normal ?_)
  all_goals first | exact absurd rfl hb | exact end1 rfl (by repeat' first | exact List.Sublist.refl _ | refine List.Sublist.cons _ ?_ | refine List.Sublist.trans ?_ (List.sublist_append_right _ _)) rfl (.inl rfl)

end Go.Proofs.Ytandldhceabdiaa

/-
  The structs of theme 6, read as data. No condition.
-/
namespace Go.Proofs.Ytandldhceabdiaa
open Go.AI Go.RowKit

theorem own : ownKnob Try.prog.godebug = none := by kernel_rfl
theorem laidOut : laidOutB Try.prog = true := by kernel_rfl
theorem rdPassRule {H : Type} {enc : TypeId × Value → H} {W : World} : Rd enc Try.prog W 159 encPassRule :=
  rd_struct Try.underlying159 (m := 3) (by kernel_rfl) (rdFs_cons (z := 1) rfl (by kernel_rfl) (by decide) (rd_int Try.underlying2) (rdFs_cons (z := 1) rfl (by kernel_rfl) (by decide) (rd_slice (f := Go.AI.encI) (z := 1) Try.underlying22 (by kernel_rfl) (by decide) (fun _ => rfl) (rd_int Try.underlying2)) (rdFs_cons (z := 1) rfl (by kernel_rfl) (by decide) (rd_slice (f := Go.AI.encI) (z := 1) Try.underlying22 (by kernel_rfl) (by decide) (fun _ => rfl) (rd_int Try.underlying2)) rdFs_nil)))
    (fun p => (⟨p.1, p.2.1, p.2.2.1⟩ : PassRule)) (fun _ => rfl)
theorem rdPassing {H : Type} {enc : TypeId × Value → H} {W : World} : Rd enc Try.prog W 26 encPassing :=
  rd_struct Try.underlying26 (m := 4) (by kernel_rfl) (rdFs_cons (z := 1) rfl (by kernel_rfl) (by decide) (rd_int Try.underlying2) (rdFs_cons (z := 1) rfl (by kernel_rfl) (by decide) (rd_slice (f := Go.AI.encI) (z := 1) Try.underlying22 (by kernel_rfl) (by decide) (fun _ => rfl) (rd_int Try.underlying2)) (rdFs_cons (z := 1) rfl (by kernel_rfl) (by decide) (rd_slice (f := encB) (z := 1) Try.underlying23 (by kernel_rfl) (by decide) (fun _ => rfl) (rd_bool Try.underlying4)) (rdFs_cons (z := 1) rfl (by kernel_rfl) (by decide) (rd_slice (f := encPassRule) (z := 3) Try.underlying24 (by kernel_rfl) (by decide) (fun _ => rfl) rdPassRule) rdFs_nil))))
    (fun p => (⟨p.1, p.2.1, p.2.2.1, p.2.2.2.1⟩ : Passing)) (fun _ => rfl)
theorem rdStock {H : Type} {enc : TypeId × Value → H} {W : World} : Rd enc Try.prog W 29 encStock :=
  rd_struct Try.underlying29 (m := 2) (by kernel_rfl) (rdFs_cons (z := 1) rfl (by kernel_rfl) (by decide) (rd_slice (f := (encS Go.AI.encI)) (z := 1) Try.underlying27 (by kernel_rfl) (by decide) (fun _ => rfl) (rd_slice (f := Go.AI.encI) (z := 1) Try.underlying22 (by kernel_rfl) (by decide) (fun _ => rfl) (rd_int Try.underlying2))) (rdFs_cons (z := 1) rfl (by kernel_rfl) (by decide) (rd_slice (f := Go.AI.encI) (z := 1) Try.underlying22 (by kernel_rfl) (by decide) (fun _ => rfl) (rd_int Try.underlying2)) rdFs_nil))
    (fun p => (⟨p.1, p.2.1⟩ : Stock)) (fun _ => rfl)
end Go.Proofs.Ytandldhceabdiaa
