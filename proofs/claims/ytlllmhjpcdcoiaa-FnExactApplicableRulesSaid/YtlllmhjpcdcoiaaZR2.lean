/-
  The law FnExactApplicableRules answers true whatever it reads. No condition.
-/
import Derived.Test.YtlllmhjpcdcoiaaZS5a
import Derived.Test.YtlllmhjpcdcoiaaZO2
import Derived.Test.YtlllmhjpcdcoiaaZG2
import Derived.KernelRfl
namespace Go.Proofs.Ytlllmhjpcdcoiaa
open Go.AI
set_option maxRecDepth 8000
set_option maxHeartbeats 1600000

theorem c_FnExactApplicableRules (a0 : System) (a1 : State) : Gives Try.prog 3 [.agg (encSystem a0), .agg (encState a1)] (.raw (.bool true)) := by
  refine fn_of_run tyOk ztOk mix Try.func3 rfl (by decide) Try.ntmps3 (fun w0 h => ?_)
  have cS := c_sApplicableRules a0 a1
  have cI := c_iApplicableRules a0 a1
  have hlen := len_ApplicableRules a0 a1
  generalize resApplicableRules a0 a1 = r at cS cI hlen
  generalize codeApplicableRules a0 a1 = cd at cS cI
  repeat' (first
      | (refine j_go ?_; first
        | refine j_op0 rfl rfl rfl rfl ?_ | (refine j_kCall rfl rfl rfl rfl ?_; first | refine jc (c_szSystem _ _ (by omega) (by omega)) (LeL.refl _) rfl rfl ?_) | refine j_box rfl rfl rfl rfl rfl rfl ?_)
      | refine j_nil ?_
      | (refine r_go ?_; first | refine run_seq ?_ | refine run_region ?_ | (refine (run_if rfl (fun hb => ?_) (fun hb => ?_)) <;> first | (exfalso; omega) | skip) | refine run_ret ?_ | refine run_skip ?_)
      | refine seqQ_normal ?_ | refine seqQ_ret ?_)
  · exact end1 rfl (List.Sublist.refl _) (rfl) (.inl rfl)
  have ok0 := szSystem_ok (by omega) (by omega) hb
  have le0 := szSystem_le (left := 1048576) (x := a0) (by omega) (by omega)
  repeat' (first
      | (refine j_go ?_; first
        | refine j_op0 rfl rfl rfl rfl ?_ | (refine j_kCall rfl rfl rfl rfl ?_; first | refine jc (c_szState _ _ (by omega) (by omega)) (LeL.refl _) rfl rfl ?_))
      | refine j_nil ?_
      | (refine r_go ?_; first | refine run_seq ?_ | refine run_region ?_ | (refine (run_if rfl (fun hb => ?_) (fun hb => ?_)) <;> first | (exfalso; omega) | skip) | refine run_ret ?_ | refine run_skip ?_ | refine run_regionD (by kernel_rfl) ?_)
      | refine seqQ_normal ?_ | refine seqQ_ret ?_)
  · exact end1 rfl (List.Sublist.refl _) (rfl) (.inl rfl)
  have ok1 := szState_ok (by omega) (by omega) hb
  have le1 := szState_le (left := (szSystem 1048576 a0)) (x := a1) (by omega) (by omega)
  skip
  refine j_kCall rfl rfl rfl rfl ?_
  refine jc (c_toSystem a0 ok0) (LeL.refl _) rfl rfl ?_
  repeat' (first
      | (refine j_go ?_; first
        | refine j_op0 rfl rfl rfl rfl ?_))
  refine j_kCall rfl rfl rfl rfl ?_
  refine jc (c_toState a1 ok1) (LeL.refl _) rfl rfl ?_
  repeat' (first
      | (refine j_go ?_; first
        | refine j_op0 rfl rfl rfl rfl ?_ | (refine j_kCall rfl rfl rfl rfl ?_; first | refine jc (cS) (LeL.refl _) rfl rfl ?_))
      | refine j_nil ?_
      | (refine r_go ?_; first | refine run_seq ?_ | refine run_region ?_)
      | refine seqQ_normal ?_)
  refine j_kCall rfl rfl rfl rfl ?_
  refine jcp _ (n_toSystem a0 ok0) (List.Perm.refl _) (LeL.refl _) rfl rfl (fun v0 m0 o0 => ?_)
  obtain ⟨cs0, rfl, E0⟩ := o0
  have fz0 := Frz.agg (ESystem_frz _ _ _ E0)
  obtain ⟨a0_0, m0_0, o0_0, a0_1, m0_1, o0_1, ecs0, em0⟩ := id E0
  obtain ⟨b0_0, eb0_0⟩ := o0_0.isos
  obtain ⟨b0_1, eb0_1⟩ := o0_1.isos
  subst ecs0 eb0_0 eb0_1
  clear em0 o0_0 o0_1
  repeat' (first
      | (refine j_go ?_; first
        | refine j_op0 rfl rfl rfl rfl ?_ | (refine j_kStore rfl ?_; first | refine j_storeN 0 rfl rfl rfl rfl rfl rfl rfl rfl rfl rfl rfl ?_) | refine j_alloc rfl rfl rfl rfl rfl (fun _ => ?_))
      | refine j_nil ?_
      | (refine r_go ?_; first | refine run_seq ?_ | refine run_region ?_)
      | refine seqQ_normal ?_)
  refine j_kCall rfl rfl rfl rfl ?_
  refine jcp _ (n_toState a1 ok1) (List.Perm.refl _) (LeL.refl _) rfl rfl (fun v1 m1 o1 => ?_)
  obtain ⟨cs1, rfl, E1⟩ := o1
  have fz1 := Frz.agg (EState_frz _ _ _ E1)
  obtain ⟨a1_0, m1_0, o1_0, a1_1, m1_1, o1_1, a1_2, m1_2, o1_2, ecs1, em1⟩ := id E1
  obtain ⟨b1_0, eb1_0⟩ := o1_0.isos
  obtain ⟨b1_1, eb1_1⟩ := o1_1.isos
  obtain ⟨b1_2, eb1_2⟩ := o1_2.isos
  subst ecs1 eb1_0 eb1_1 eb1_2
  clear em1 o1_0 o1_1 o1_2
  refine j_view (view_perm (put1 (l1 := [_]))) ?_
  repeat' (first
      | (refine j_go ?_; first
        | (refine j_kLoad rfl ?_; first | refine j_mload 0 rfl rfl rfl rfl rfl rfl rfl ?_ | refine j_mload 1 rfl rfl rfl rfl rfl rfl rfl ?_) | (refine j_kStore rfl ?_; first | refine j_storeN 0 rfl rfl rfl rfl rfl rfl rfl rfl rfl rfl rfl ?_) | refine j_alloc rfl rfl rfl rfl rfl (fun _ => ?_))
      | refine j_nil ?_
      | (refine r_go ?_; first | refine run_seq ?_ | refine run_region ?_)
      | refine seqQ_normal ?_)
  refine j_kCall rfl rfl rfl rfl ?_
  refine jct (m0 ++ m1) cI (fun k hk => by rcases List.mem_append.1 hk with hk | hk <;> simp [hk]) (FrzL.cons (Frz.mono (fun _ hk => by simp [hk]) fz0) (FrzL.cons (Frz.mono (fun _ hk => by simp [hk]) fz1) (FrzL.nil _))) (fun v h1 ⟨b, cap, q1, q2⟩ => ⟨by rw [q1]; exact Clo.tup (CloL.cons (Clo.os _ _ _) (CloL.cons (Clo.int _) CloL.nil)), by rw [q2]; exact CloH.cons (CloL.mapInt _ _) CloH.nil⟩) rfl rfl (fun v hg hR => ?_)
  obtain ⟨b, cap, rfl, rfl⟩ := hR
  have cE := c_eqInt64S r r
  rw [dec_t rfl] at cE
  have fg : Frz [⟨b, 2, cap * 1, (r.map Go.AI.encI).flatten⟩] (.os b r.length cap) (.sl (r.map Go.AI.encI)) := Frz.flat rfl rfl (fun _ => rfl) rfl rfl
  repeat' (first
      | (refine j_go ?_; first
        | refine j_op0 rfl rfl rfl rfl ?_)
      | refine j_nil ?_
      | (refine r_go ?_; first | refine run_seq ?_ | refine run_region ?_)
      | refine seqQ_normal ?_)
  refine j_kCall rfl rfl rfl rfl ?_
  refine jctq [_] cE (Clo.raw _) (fun k hk => by simp only [List.mem_singleton] at hk; subst hk; simp) (FrzL.cons fg (FrzL.cons (Frz.same _ _) (FrzL.nil _))) rfl rfl ?_
  repeat' (first
      | (refine j_go ?_; first
        | refine j_op0 rfl rfl rfl rfl ?_ | (refine j_kCall rfl rfl rfl rfl ?_; first | refine jc (c_toSystem a0 ok0) (LeL.refl _) rfl rfl ?_) | (refine j_kLoad rfl ?_; first | refine j_mload 2 rfl rfl rfl rfl rfl rfl rfl ?_))
      | refine j_nil ?_
      | (refine r_go ?_; first | refine run_seq ?_ | (refine (run_ifn rfl (fun hb => ?_) (fun hb => ?_)) <;> first | (exfalso; omega) | skip) | refine run_skip ?_ | refine run_regionD (by kernel_rfl) ?_)
      | refine seqQ_normal ?_)
  all_goals try exact absurd rfl hb
  refine j_kCall rfl rfl rfl rfl ?_
  have cQ := c_eqSystem a0 a0
  rw [dec_t rfl] at cQ
  refine jctq m0 cQ (Clo.raw _) (fun k hk => by simp [hk]) (FrzL.cons fz0 (FrzL.cons (Frz.same _ _) (FrzL.nil _))) rfl rfl ?_
  clear cQ
  repeat' (first
      | (refine j_go ?_; first
        | refine j_op0 rfl rfl rfl rfl ?_ | (refine j_kCall rfl rfl rfl rfl ?_; first | refine jc (c_toState a1 ok1) (LeL.refl _) rfl rfl ?_) | (refine j_kLoad rfl ?_; first | refine j_mload 1 rfl rfl rfl rfl rfl rfl rfl ?_))
      | refine j_nil ?_
      | (refine r_go ?_; first | refine run_seq ?_ | refine run_cond_f rfl ?_ | refine run_skip ?_ | refine run_regionD (by kernel_rfl) ?_)
      | refine seqQ_normal ?_)
  all_goals try exact absurd rfl hb
  refine j_kCall rfl rfl rfl rfl ?_
  have cQ := c_eqState a1 a1
  rw [dec_t rfl] at cQ
  refine jctq m1 cQ (Clo.raw _) (fun k hk => by simp [hk]) (FrzL.cons fz1 (FrzL.cons (Frz.same _ _) (FrzL.nil _))) rfl rfl ?_
  clear cQ
  have cb0 := cntSystem_le ok0
  have cu0 : cntSystem a0 = 1 + a0.parents.length + mcnt cntRule a0.rules := rfl
  have cb1 := cntState_le ok1
  have cu1 : cntState a1 = a1.alive.length + mcnt List.length a1.bags + a1.around.length := rfl
  repeat' (first
      | (refine j_go ?_; first
        | refine j_op0 rfl rfl rfl rfl ?_ | (refine j_kLoad rfl ?_; first | refine j_mload 2 rfl rfl rfl rfl rfl rfl rfl ?_))
      | refine j_nil ?_
      | (refine r_go ?_; first | refine run_seq ?_ | refine run_region ?_ | refine run_cond_f rfl ?_ | refine run_skip ?_)
      | refine seqQ_normal ?_)
  all_goals try exact absurd rfl hb
  refine j_kCall rfl rfl rfl rfl ?_
  refine jcp _ (m_markSystem a0 _ m0 (1) E0 (by omega)) (pmid0 (l1 := [_, _, _])) (LeL.refl _) rfl rfl (fun v hx hR => ?_)
  obtain ⟨rfl, rfl⟩ := hR
  repeat' (first
      | (refine j_go ?_; first
        | refine j_op0 rfl rfl rfl rfl ?_ | (refine j_kLoad rfl ?_; first | refine j_mload 1 rfl rfl rfl rfl rfl rfl rfl ?_))
      | refine j_nil ?_
      | (refine r_go ?_; first | refine run_seq ?_ | refine run_region ?_)
      | refine seqQ_normal ?_)
  all_goals try exact absurd rfl hb
  refine j_kCall rfl rfl rfl rfl ?_
  refine jcp _ (m_markState a1 _ m1 (1 + (a0.parents.length + mcnt cntRule a0.rules)) E1 (by omega)) (pmid0 (l1 := [_, _, _])) (LeL.refl _) rfl rfl (fun v hx hR => ?_)
  obtain ⟨rfl, rfl⟩ := hR
  repeat' (first
      | (refine j_go ?_; first
        | refine j_op0 rfl rfl rfl rfl ?_ | (refine j_kGuard rfl ?_; first | (refine (j_if rfl rfl rfl (fun hb => ?_) (fun hb => ?_)) <;> first | (exfalso; omega) | skip)))
      | refine j_nil ?_
      | (refine r_go ?_; first | refine run_seq ?_ | refine run_region ?_)
      | refine seqQ_normal ?_)
  refine j_kCall rfl rfl rfl rfl ?_
  refine jctq [_] cE (Clo.raw _) (fun k hk => by simp only [List.mem_singleton] at hk; subst hk; simp) (FrzL.cons fg (FrzL.cons (Frz.same _ _) (FrzL.nil _))) rfl rfl ?_
  repeat' (first
      | (refine j_go ?_; first
        | refine j_op0 rfl rfl rfl rfl ?_)
      | refine j_nil ?_
      | (refine r_go ?_; first | refine run_seq ?_ | refine run_region ?_ | (refine (run_ifn rfl (fun hb => ?_) (fun hb => ?_)) <;> first | (exfalso; omega) | skip) | refine run_skip ?_)
      | refine seqQ_normal ?_)
  all_goals try exact absurd rfl hb
  refine j_kCall rfl rfl rfl rfl ?_
  refine jcp _ (x_markI b cap 1 r (by omega)) (pmid0 (l1 := []) (x := [_])) (LeL.refl _) rfl rfl (fun v hx hR => ?_)
  obtain ⟨rfl, rfl⟩ := hR
  repeat' (first
      | (refine j_go ?_; first
        | refine j_op0 rfl rfl rfl rfl ?_)
      | refine j_nil ?_
      | (refine r_go ?_; first | refine run_seq ?_ | refine run_region ?_)
      | refine seqQ_normal ?_)
  all_goals try exact absurd rfl hb
  refine j_kCall rfl rfl rfl rfl ?_
  refine jctq [⟨b, 2, cap * 1, ((marked 1 r.length).map Go.AI.encI).flatten⟩] (c_heldM 1 r.length (by omega)) (Clo.int _) (fun k hk => by simp only [List.mem_singleton] at hk; subst hk; simp) (FrzL.cons Frz.markI (FrzL.cons (Frz.same _ _) (FrzL.nil _))) rfl rfl ?_
  have cF : Gives _ _ _ (.tup [.sl (r.map Go.AI.encI), .int cd]) := cI.frozen fun v h1 ⟨b, cap, q1, q2⟩ => by rw [q1, q2]; exact FrzF.tup2 (FrzF.flat rfl rfl (fun _ => rfl) rfl rfl) (Clo.int _)
  repeat' (first
      | (refine j_go ?_; first
        | refine j_op0 rfl rfl rfl rfl ?_ | (refine j_kCall rfl rfl rfl rfl ?_; first | refine jc (c_toSystem a0 ok0) (LeL.refl _) rfl rfl ?_ | refine jc (c_toState a1 ok1) (LeL.refl _) rfl rfl ?_ | refine jc (cF) (LeL.refl _) rfl rfl ?_ | refine jc (cE) (LeL.refl _) rfl rfl ?_))
      | refine j_nil ?_
      | (refine r_go ?_; first | refine run_seq ?_ | refine run_region ?_ | (refine (run_if rfl (fun hb => ?_) (fun hb => ?_)) <;> first | (exfalso; omega) | skip) | (refine (run_ifn rfl (fun hb => ?_) (fun hb => ?_)) <;> first | (exfalso; omega) | skip) | refine run_skip ?_ | refine run_regionD (by kernel_rfl) ?_)
      | refine seqQ_normal ?_)
  all_goals try exact absurd rfl hb
  skip
  all_goals try exact absurd rfl hb
  refine j_kCall rfl rfl rfl rfl ?_
  refine jctq [⟨b, 2, cap * 1, ((marked 1 r.length).map Go.AI.encI).flatten⟩] (c_heldM 1 r.length (by omega)) (Clo.int _) (fun k hk => by simp only [List.mem_singleton] at hk; subst hk; simp) (FrzL.cons Frz.markI (FrzL.cons (Frz.same _ _) (FrzL.nil _))) rfl rfl ?_
  repeat' (first
      | (refine j_go ?_; first
        | refine j_op0 rfl rfl rfl rfl ?_)
      | refine j_nil ?_
      | (refine r_go ?_; first | refine run_seq ?_ | refine run_region ?_ | (refine (run_if rfl (fun hb => ?_) (fun hb => ?_)) <;> first | (exfalso; omega) | skip) | (refine (run_ifn rfl (fun hb => ?_) (fun hb => ?_)) <;> first | (exfalso; omega) | skip) | refine run_ret ?_ | refine run_skip ?_)
      | refine seqQ_normal ?_)
  all_goals first | exact absurd rfl hb | exact end1 rfl (by repeat' first | exact List.Sublist.refl _ | refine List.Sublist.cons _ ?_) rfl (.inl rfl)

end Go.Proofs.Ytlllmhjpcdcoiaa

/-
  The structs of theme 2, read as data. No condition.
-/
namespace Go.Proofs.Ytlllmhjpcdcoiaa
open Go.AI Go.RowKit

theorem own : ownKnob Try.prog.godebug = none := by kernel_rfl
theorem laidOut : laidOutB Try.prog = true := by kernel_rfl
theorem rdInto {H : Type} {enc : TypeId × Value → H} {W : World} : Rd enc Try.prog W 101 encInto :=
  rd_struct Try.underlying101 (m := 2) (by kernel_rfl) (rdFs_cons (z := 1) rfl (by kernel_rfl) (by decide) (rd_int Try.underlying2) (rdFs_cons (z := 1) rfl (by kernel_rfl) (by decide) (rd_slice (f := Go.AI.encI) (z := 1) Try.underlying22 (by kernel_rfl) (by decide) (fun _ => rfl) (rd_int Try.underlying2)) rdFs_nil))
    (fun p => (⟨p.1, p.2.1⟩ : Into)) (fun _ => rfl)
theorem rdRule {H : Type} {enc : TypeId × Value → H} {W : World} : Rd enc Try.prog W 67 encRule :=
  rd_struct Try.underlying67 (m := 9) (by kernel_rfl) (rdFs_cons (z := 1) rfl (by kernel_rfl) (by decide) (rd_int Try.underlying2) (rdFs_cons (z := 1) rfl (by kernel_rfl) (by decide) (rd_int Try.underlying2) (rdFs_cons (z := 1) rfl (by kernel_rfl) (by decide) (rd_slice (f := Go.AI.encI) (z := 1) Try.underlying22 (by kernel_rfl) (by decide) (fun _ => rfl) (rd_int Try.underlying2)) (rdFs_cons (z := 1) rfl (by kernel_rfl) (by decide) (rd_slice (f := Go.AI.encI) (z := 1) Try.underlying22 (by kernel_rfl) (by decide) (fun _ => rfl) (rd_int Try.underlying2)) (rdFs_cons (z := 1) rfl (by kernel_rfl) (by decide) (rd_slice (f := Go.AI.encI) (z := 1) Try.underlying22 (by kernel_rfl) (by decide) (fun _ => rfl) (rd_int Try.underlying2)) (rdFs_cons (z := 1) rfl (by kernel_rfl) (by decide) (rd_slice (f := Go.AI.encI) (z := 1) Try.underlying22 (by kernel_rfl) (by decide) (fun _ => rfl) (rd_int Try.underlying2)) (rdFs_cons (z := 1) rfl (by kernel_rfl) (by decide) (rd_slice (f := Go.AI.encI) (z := 1) Try.underlying22 (by kernel_rfl) (by decide) (fun _ => rfl) (rd_int Try.underlying2)) (rdFs_cons (z := 1) rfl (by kernel_rfl) (by decide) (rd_slice (f := encInto) (z := 2) Try.underlying65 (by kernel_rfl) (by decide) (fun _ => rfl) rdInto) (rdFs_cons (z := 1) rfl (by kernel_rfl) (by decide) (rd_bool Try.underlying4) rdFs_nil)))))))))
    (fun p => (⟨p.1, p.2.1, p.2.2.1, p.2.2.2.1, p.2.2.2.2.1, p.2.2.2.2.2.1, p.2.2.2.2.2.2.1, p.2.2.2.2.2.2.2.1, p.2.2.2.2.2.2.2.2.1⟩ : Rule)) (fun _ => rfl)
theorem rdSystem {H : Type} {enc : TypeId × Value → H} {W : World} : Rd enc Try.prog W 25 encSystem :=
  rd_struct Try.underlying25 (m := 3) (by kernel_rfl) (rdFs_cons (z := 1) rfl (by kernel_rfl) (by decide) (rd_int Try.underlying2) (rdFs_cons (z := 1) rfl (by kernel_rfl) (by decide) (rd_slice (f := Go.AI.encI) (z := 1) Try.underlying22 (by kernel_rfl) (by decide) (fun _ => rfl) (rd_int Try.underlying2)) (rdFs_cons (z := 1) rfl (by kernel_rfl) (by decide) (rd_slice (f := encRule) (z := 9) Try.underlying23 (by kernel_rfl) (by decide) (fun _ => rfl) rdRule) rdFs_nil)))
    (fun p => (⟨p.1, p.2.1, p.2.2.1⟩ : System)) (fun _ => rfl)
theorem rdState {H : Type} {enc : TypeId × Value → H} {W : World} : Rd enc Try.prog W 29 encState :=
  rd_struct Try.underlying29 (m := 3) (by kernel_rfl) (rdFs_cons (z := 1) rfl (by kernel_rfl) (by decide) (rd_slice (f := encB) (z := 1) Try.underlying26 (by kernel_rfl) (by decide) (fun _ => rfl) (rd_bool Try.underlying4)) (rdFs_cons (z := 1) rfl (by kernel_rfl) (by decide) (rd_slice (f := (encS Go.AI.encI)) (z := 1) Try.underlying27 (by kernel_rfl) (by decide) (fun _ => rfl) (rd_slice (f := Go.AI.encI) (z := 1) Try.underlying22 (by kernel_rfl) (by decide) (fun _ => rfl) (rd_int Try.underlying2))) (rdFs_cons (z := 1) rfl (by kernel_rfl) (by decide) (rd_slice (f := Go.AI.encI) (z := 1) Try.underlying22 (by kernel_rfl) (by decide) (fun _ => rfl) (rd_int Try.underlying2)) rdFs_nil)))
    (fun p => (⟨p.1, p.2.1, p.2.2.1⟩ : State)) (fun _ => rfl)
end Go.Proofs.Ytlllmhjpcdcoiaa
