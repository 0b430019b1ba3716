/-
  What grows in a cell: GrowContents of the reference and of the program. No condition.
-/
import Derived.Test.YtahjliejgjjfeaaZS7w
import Derived.Test.YtahjliejgjjfeaaZR7
namespace Go.Proofs.Ytahjliejgjjfeaa
open Go.AI
set_option maxRecDepth 8000
set_option maxHeartbeats 1600000

def ObjsIn (o : Int) (l : List Int) : Prop := ∀ x ∈ l, 0 ≤ x ∧ x ≤ o - 1
theorem c_l07Objects (o : Int) (l : List Int) (ho : 1 ≤ o ∧ o ≤ 64) : Gives Try.prog 87 [.int o, .sl (l.map Go.AI.encI)] (.raw (.bool (dec (ObjsIn o l)))) := by
  refine fn_of_run tyOk ztOk mix Try.func87 rfl (by decide) Try.ntmps87 (fun w0 h => ?_)
  refine run_len (t := 1) rfl (fun hl => ?_)
  rw [List.length_map] at hl
  repeat' (first
      | (refine j_go ?_; first
        | refine j_op0 rfl rfl rfl rfl ?_)
      | refine j_nil ?_
      | (refine r_go ?_; first | refine run_seq ?_ | refine run_region ?_ | refine run_block ?_)
      | refine seqQ_normal ?_)
  refine run_loop (fun k : Nat => [(0, .int o), (1, .sl (l.map Go.AI.encI)), (5, .int (k : Int))]) (fun _ => _) (fun k => k ≤ l.length ∧ (∀ i (h : i < l.length), i < k → 0 ≤ l[i] ∧ l[i] ≤ o - 1)) (fun k => l.length - k) 0 ⟨rfl, rfl, rfl, trivial⟩ rfl ⟨Nat.zero_le _, by first | (intros; omega) | (simp; done) | rfl | trivial | exact ⟨by simp [sumF], by intros; omega⟩ | exact ⟨by omega, by simp⟩⟩ (fun k ⟨kl, kp⟩ => ?_)
  repeat' (first
      | (refine j_go ?_; first
        | refine j_op0 rfl rfl rfl rfl ?_ | (refine j_kIdx rfl ?_; first | refine j_idx rfl rfl rfl rfl rfl (by omega) rfl rfl rfl ?_) | (refine j_kBin rfl ?_; first | refine j_in rfl rfl ⟨by omega, by omega⟩ rfl rfl ?_) | (refine j_kLen rfl ?_; first | refine j_len rfl rfl rfl rfl rfl rfl ?_) | (refine j_kCall rfl rfl rfl rfl ?_; first | refine jc (c_l00In _ _ _) (LeL.refl _) rfl rfl ?_))
      | refine j_nil ?_
      | (refine r_go ?_; first | refine run_seq ?_ | refine run_region ?_ | (refine (run_if rfl (fun hb => ?_) (fun hb => ?_)) <;> first | (exfalso; omega) | skip) | (refine (run_ifn rfl (fun hb => ?_) (fun hb => ?_)) <;> first | (exfalso; omega) | skip) | refine run_block ?_ | refine run_ret ?_ | refine run_exit ?_ | refine run_skip ?_)
      | refine seqQ_normal ?_ | refine seqQ_ret ?_ | refine seqQ_exit ?_ | refine blockQ_normal ?_ | refine blockQ_ret ?_ | refine blockQ_eq ?_ | refine loopQ_ret ?_ | refine loopQ_exit ?_)
  all_goals first
    | exact end1 rfl (by first | exact List.Sublist.refl _ | exact sub1 | exact sub2 | exact sub3) (rbF (fun q => hb (q _ (List.getElem_mem _)))) (.inl rfl)
    | exact loopQ_nextD (k + 1) ⟨by omega, all_step kp (fun _ => by assumption)⟩ (by omega) (by first | exact List.Sublist.refl _ | exact sub1 | exact sub2 | exact sub3) ⟨rfl, rfl, nx _, trivial⟩
    | exact end1 rfl (by first | exact List.Sublist.refl _ | exact sub1 | exact sub2 | exact sub3) (rbT (fun x hx => by obtain ⟨i, hi, rfl⟩ := List.getElem_of_mem hx; exact kp i hi (by omega))) (.inl rfl)
    | trace_state
open Classical in
noncomputable def cdG (p q r : Prop) : Int := if p then (if q then (if r then 0 else 3) else 2) else 1
theorem cdG_f {p q r : Prop} (h : ¬p) : cdG p q r = 1 := by unfold cdG; rw [if_neg h]
theorem cdG_r {p q r : Prop} (h : p) (h2 : ¬q) : cdG p q r = 2 := by unfold cdG; rw [if_pos h, if_neg h2]
theorem cdG_l {p q r : Prop} (h : p) (h2 : q) (h3 : ¬r) : cdG p q r = 3 := by unfold cdG; rw [if_pos h, if_pos h2, if_neg h3]
theorem cdG_o {p q r : Prop} (h : p) (h2 : q) (h3 : r) : cdG p q r = 0 := by unfold cdG; rw [if_pos h, if_pos h2, if_pos h3]
def GoodG (d : Division) (ch : Int) (l : List Int) : Prop := (-1 ≤ ch ∧ ch ≤ 1) ∧ ObjsIn d.objects l
noncomputable def resGrowContents (d : Division) (ch : Int) (l : List Int) : List Int := lsP (d.Valid ∧ GoodG d ch l ∧ (d.grown 1 ch l).length ≤ 60) (sortI (d.grown 1 ch l))
noncomputable def codeGrowContents (d : Division) (ch : Int) (l : List Int) : Int := cdG d.Valid (GoodG d ch l) ((d.grown 1 ch l).length ≤ 60)
theorem len_GrowContents (d : Division) (ch : Int) (l : List Int) : (resGrowContents d ch l).length ≤ 1000000 := ls_len fun q => by
  have := List.length_mergeSort (le := fun x y : Int => decide (x ≤ y)) (d.grown 1 ch l)
  have := q.2.2
  unfold sortI
  omega
theorem c_sGrowContents (d : Division) (ch : Int) (l : List Int) (hl : l.length ≤ 1048576) : Gives Try.prog 30 [.agg (encDivision d), .int ch, .sl (l.map Go.AI.encI)] (.tup [.sl ((resGrowContents d ch l).map Go.AI.encI), .int (codeGrowContents d ch l)]) := by
  refine fn_of_run tyOk ztOk mix Try.func30 rfl (by decide) Try.ntmps30 (fun w0 h => ?_)
  unfold resGrowContents codeGrowContents
  repeat' (first
      | (refine j_go ?_; first
        | refine j_op0 rfl rfl rfl rfl ?_ | (refine j_kCall rfl rfl rfl rfl ?_; first | refine jc (c_l07Ok _) (LeL.refl _) rfl rfl ?_) | (refine j_kBsl rfl ?_; first | refine j_bs0 rfl rfl rfl rfl rfl rfl ?_) | refine j_box rfl rfl rfl rfl rfl rfl ?_)
      | refine j_nil ?_
      | (refine r_go ?_; first | refine run_seq ?_ | refine run_region ?_ | (refine (run_ifn rfl (fun hb => ?_) (fun hb => ?_)) <;> first | (exfalso; omega) | skip) | refine run_ret ?_ | refine run_skip ?_)
      | refine seqQ_normal ?_ | refine seqQ_ret ?_)
  · exact end_le (List.Sublist.refl _) (.cons (.tmp rfl) (.cons (.tmp rfl) .nil)) (by rw [ls_f (fun q => hb q.1), cdG_f hb]; exact Le.tup (LeL.cons (Le.nil _) (LeL.refl _))) (.inl rfl)
  have hv := hb
  have hd := hv.1
  repeat' (first
      | (refine j_go ?_; first
        | refine j_op0 rfl rfl rfl rfl ?_ | refine j_off rfl rfl rfl ?_ | (refine j_kCall rfl rfl rfl rfl ?_; first | refine jc (c_l07Charge _) (LeL.refl _) rfl rfl ?_ | refine jc (c_l07Objects _ _ hd) (LeL.refl _) rfl rfl ?_) | (refine j_kBsl rfl ?_; first | refine j_bs0 rfl rfl rfl rfl rfl rfl ?_) | (refine j_kGuard rfl ?_; first | (refine (j_ifn rfl rfl rfl (fun hb => ?_) (fun hb => ?_)) <;> first | (exfalso; omega) | skip)))
      | refine j_nil ?_
      | (refine r_go ?_; first | refine run_seq ?_ | refine run_region ?_ | refine run_cond_t rfl ?_ | (refine (run_ifn rfl (fun hb => ?_) (fun hb => ?_)) <;> first | (exfalso; omega) | skip) | refine run_ret ?_ | refine run_skip ?_)
      | refine seqQ_normal ?_ | refine seqQ_ret ?_)
  all_goals first
    | (have hg : ¬ GoodG d ch l := fun q => by first | exact hb q.1 | exact hb q.2
       exact end_le (List.Sublist.refl _) (.cons (.tmp rfl) (.cons (.tmp rfl) .nil)) (by rw [ls_f (fun q => hg q.2.1), cdG_r hv hg]; exact Le.tup (LeL.cons (Le.nil _) (LeL.refl _))) (.inl rfl))
    | skip
  have hg : GoodG d ch l := ⟨by assumption, by assumption⟩
  have gl := grown_len hv (kind := 1) (charge := ch) l
  repeat' (first
      | (refine j_go ?_; first
        | refine j_op0 rfl rfl rfl rfl ?_ | (refine j_kLen rfl ?_; first | refine j_len rfl rfl rfl rfl rfl rfl ?_) | (refine j_kCall rfl rfl rfl rfl ?_; first | refine jc (c_l07Grown d 1 ch l hv (by omega)) (LeL.refl _) rfl rfl ?_ | refine jc (c_l07Sorted d.objects (d.grown 1 ch l) hd (by omega) (grown_rng hv hg.2)) (LeL.refl _) rfl rfl ?_) | (refine j_kBsl rfl ?_; first | refine j_bs0 rfl rfl rfl rfl rfl rfl ?_))
      | refine j_nil ?_
      | (refine r_go ?_; first | refine run_seq ?_ | refine run_region ?_ | (refine (run_if rfl (fun hb => ?_) (fun hb => ?_)) <;> first | (exfalso; omega) | skip) | refine run_ret ?_ | refine run_skip ?_)
      | refine seqQ_normal ?_ | refine seqQ_ret ?_)
  · exact end_le (List.Sublist.refl _) (.cons (.tmp rfl) (.cons (.tmp rfl) .nil)) (by rw [ls_f (fun q => by have := q.2.2; omega), cdG_l hv hg (by omega)]; exact Le.tup (LeL.cons (Le.nil _) (LeL.refl _))) (.inl rfl)
  · exact end2 rfl rfl (List.Sublist.refl _) (by rw [ls_t ⟨hv, hg, by omega⟩, cdG_o hv hg (by omega), srt_sort hd.1 (grown_rng hv hg.2)]; rfl) (.inl rfl)
theorem c_growC1 (d : Division) (x : Int) (hd : 1 ≤ d.objects ∧ d.objects ≤ 64) : Gives Try.prog 93 [.int x, .ip (encDivision d)] (.raw (.bool (dec (¬ (0 ≤ x ∧ x ≤ d.objects - 1))))) := by
  refine fn_of_run tyOk ztOk mix Try.func93 rfl (by decide) Try.ntmps93 (fun w0 h => ?_)
  repeat' (first
      | (refine j_go ?_; first
        | refine j_op0 rfl rfl rfl rfl ?_ | (refine j_kCall rfl rfl rfl rfl ?_; first | refine jc (c_isObject _ _ hd) (LeL.refl _) rfl rfl ?_))
      | refine j_nil ?_
      | (refine r_go ?_; first | refine run_seq ?_ | refine run_region ?_ | refine run_ret ?_)
      | refine seqQ_normal ?_)
  exact end1 rfl (List.Sublist.refl _) (rbN Iff.rfl) (.inl rfl)
theorem objs_iff {o : Int} {l : List Int} : (¬ ∃ x ∈ l, ¬ (0 ≤ x ∧ x ≤ o - 1)) ↔ ObjsIn o l := ⟨fun h x hx => Classical.byContradiction fun q => h ⟨x, hx, q⟩, fun h ⟨x, hx, q⟩ => q (h x hx)⟩
theorem c_iGrowContents (d : Division) (ch : Int) (l : List Int) (hl : l.length ≤ 1048576) : Does Try.prog 32 [.agg (encDivision d), .int ch, .sl (l.map Go.AI.encI)] [] (OwnI (resGrowContents d ch l) (codeGrowContents d ch l)) := by
  refine fn_of_runD tyOk ztOk mix Try.func32 rfl (by decide) Try.ntmps32 (fun w0 F => ?_)
  change Run _ _ _ _ _ F
  unfold resGrowContents codeGrowContents
  repeat' (first
      | (refine j_go ?_; first
        | refine j_op0 rfl rfl rfl rfl ?_ | (refine j_kCall rfl rfl rfl rfl ?_; first | refine jc (c_iValidDivision _) (LeL.refl _) rfl rfl ?_) | refine j_box rfl rfl rfl rfl rfl rfl ?_)
      | refine j_nil ?_
      | (refine r_go ?_; first | refine run_seq ?_ | refine run_region ?_ | (refine (run_ifn rfl (fun hb => ?_) (fun hb => ?_)) <;> first | (exfalso; omega) | skip) | refine run_ret ?_ | refine run_skip ?_)
      | refine seqQ_normal ?_ | refine seqQ_ret ?_)
  · rw [ls_f (fun q => hb q.1), cdG_f hb]
    exact endD_view (view_none 2 0 rfl) (endD_ret (h1 := [_]) rfl (.cons (.tmp rfl) (.cons (.tmp rfl) .nil)) (Le.refl _) ⟨none, 0, rfl, rfl⟩ (.inl rfl))
  have hv := hb
  have hd := hv.1
  repeat' (first
      | (refine j_go ?_; first
        | refine j_op0 rfl rfl rfl rfl ?_ | refine j_off rfl rfl rfl ?_ | (refine j_kCall rfl rfl rfl rfl ?_; first | refine jc (c_isCharge _) (LeL.refl _) rfl rfl ?_ | refine jc (c_cfI _ _ (fun x => ¬ (0 ≤ x ∧ x ≤ d.objects - 1)) l (fun x _ => c_growC1 d x hd)) (LeL.refl _) rfl rfl ?_) | (refine j_kGuard rfl ?_; first | (refine (j_ifn rfl rfl rfl (fun hb => ?_) (fun hb => ?_)) <;> first | (exfalso; omega) | skip)))
      | refine j_nil ?_
      | (refine r_go ?_; first | refine run_seq ?_ | refine run_region ?_ | refine run_cond_t rfl ?_ | (refine (run_if rfl (fun hb => ?_) (fun hb => ?_)) <;> first | (exfalso; omega) | skip) | refine run_ret ?_ | refine run_skip ?_)
      | refine seqQ_normal ?_ | refine seqQ_ret ?_)
  all_goals first
    | (have hg : ¬ GoodG d ch l := fun q => by first | exact hb q.1 | exact (objs_iff.2 q.2) hb
       rw [ls_f (fun q => hg q.2.1), cdG_r hv hg]
       exact endD_view (view_none 2 0 rfl) (endD_ret (h1 := [_]) rfl (.cons (.tmp rfl) (.cons (.tmp rfl) .nil)) (Le.refl _) ⟨none, 0, rfl, rfl⟩ (.inl rfl)))
    | skip
  have hg : GoodG d ch l := ⟨by assumption, objs_iff.1 (by assumption)⟩
  have gl := grown_len hv (kind := 1) (charge := ch) l
  have hsl : (sortI (d.grown 1 ch l)).length = (d.grown 1 ch l).length := List.length_mergeSort _
  refine j_kCall rfl rfl rfl rfl ?_
  refine jcp F (o_grown d 1 ch l hv (by omega)) (List.Perm.refl _) (LeL.refl _) rfl rfl (fun v h1 hR => ?_)
  obtain ⟨b, cp, rfl, rfl⟩ := hR
  refine j_view (view_freeze (g := Go.AI.encI) (z := 1) (ys := d.grown 1 ch l) 0 23 rfl rfl rfl (fun _ => rfl) rfl rfl) ?_
  refine j_kCall rfl rfl rfl rfl ?_
  refine jcp F (o_ordered (d.grown 1 ch l) (by omega)) (List.Perm.refl _) (LeL.refl _) rfl rfl (fun v h1 hR => ?_)
  obtain ⟨b, cp, rfl, rfl⟩ := hR
  repeat' (first
      | (refine j_go ?_; first
        | refine j_op0 rfl rfl rfl rfl ?_ | (refine j_kLen rfl ?_; first | refine j_op rfl rfl rfl rfl ?_))
      | refine j_nil ?_
      | (refine r_go ?_; first | refine run_seq ?_ | refine run_region ?_ | (refine (run_if rfl (fun hb => ?_) (fun hb => ?_)) <;> first | (exfalso; omega) | skip) | refine run_ret ?_ | refine run_skip ?_)
      | refine seqQ_normal ?_ | refine seqQ_ret ?_)
  · rw [ls_f (fun q => by have := q.2.2; omega), cdG_l hv hg (by omega)]
    refine endD_view (view_sub (List.sublist_cons_self _ _)) ?_
    exact endD_view (view_none 2 0 rfl) (endD_ret (h1 := [_]) rfl (.cons (.tmp rfl) (.cons (.tmp rfl) .nil)) (Le.refl _) ⟨none, 0, rfl, rfl⟩ (.inl rfl))
  · rw [ls_t ⟨hv, hg, by omega⟩, cdG_o hv hg (by omega)]
    exact endD_ret (h1 := [_]) rfl (.cons (.tmp rfl) (.cons (.tmp rfl) .nil)) (Le.refl _) ⟨b, cp, rfl, rfl⟩ (.inl rfl)
end Go.Proofs.Ytahjliejgjjfeaa

/-
  The law FnExactGrowContents answers true whatever it reads. No condition.
-/
namespace Go.Proofs.Ytahjliejgjjfeaa
open Go.AI
set_option maxRecDepth 8000
set_option maxHeartbeats 1600000

theorem c_FnExactGrowContents (a0 : Division) (a1 : Int) (a2 : List Int) : Gives Try.prog 5 [.agg (encDivision a0), .int a1, .sl (a2.map Go.AI.encI)] (.raw (.bool true)) := by
  refine fn_of_run tyOk ztOk mix Try.func5 rfl (by decide) Try.ntmps5 (fun w0 h => ?_)
  refine run_len (t := 2) rfl (fun hl2 => ?_)
  rw [List.length_map] at hl2
  repeat' (first
      | (refine j_go ?_; first
        | refine j_op0 rfl rfl rfl rfl ?_ | (refine j_kLen rfl ?_; first | refine j_len rfl rfl rfl rfl rfl rfl ?_) | refine j_box rfl rfl rfl rfl rfl rfl ?_)
      | refine j_nil ?_
      | (refine r_go ?_; first | refine run_seq ?_ | refine run_region ?_ | (refine (run_if rfl (fun hb => ?_) (fun hb => ?_)) <;> first | (exfalso; omega) | skip) | refine run_ret ?_ | refine run_skip ?_)
      | refine seqQ_normal ?_ | refine seqQ_ret ?_)
  · exact end1 rfl (List.Sublist.refl _) (rfl) (.inl rfl)
  have hq2 : a2.length ≤ 1048576 := by omega
  have cS := c_sGrowContents a0 a1 a2 hq2
  have cI := c_iGrowContents a0 a1 a2 hq2
  have hlen := len_GrowContents a0 a1 a2
  generalize resGrowContents a0 a1 a2 = r at cS cI hlen
  generalize codeGrowContents a0 a1 a2 = cd at cS cI
  repeat' (first
      | (refine j_go ?_; first
        | refine j_op0 rfl rfl rfl rfl ?_ | (refine j_kCall rfl rfl rfl rfl ?_; first | refine jc (c_szDivision _ _ (by omega) (by omega)) (LeL.refl _) rfl rfl ?_))
      | refine j_nil ?_
      | (refine r_go ?_; first | refine run_seq ?_ | refine run_region ?_ | (refine (run_if rfl (fun hb => ?_) (fun hb => ?_)) <;> first | (exfalso; omega) | skip) | refine run_ret ?_ | refine run_skip ?_)
      | refine seqQ_normal ?_ | refine seqQ_ret ?_)
  · exact end1 rfl (List.Sublist.refl _) (rfl) (.inl rfl)
  have ok0 := szDivision_ok (by omega) (by omega) hb
  have le0 := szDivision_le (left := 1048576) (x := a0) (by omega) (by omega)
  skip
  first | (refine j_kCall rfl rfl rfl rfl ?_; refine jc (c_toDivision a0 ok0) (LeL.refl _) rfl rfl ?_) | (refine j_kCallO rfl rfl rfl rfl ?_; refine jcO (c_toDivision a0 ok0) (LeL.refl _) rfl rfl ?_)
  repeat' (first
      | (refine j_go ?_; first
        | refine j_op0 rfl rfl rfl rfl ?_))
  first | (refine j_kCall rfl rfl rfl rfl ?_; refine jc (c_toInt64S a2 hq2) (LeL.refl _) rfl rfl ?_) | (refine j_kCallO rfl rfl rfl rfl ?_; refine jcO (c_toInt64S a2 hq2) (LeL.refl _) rfl rfl ?_)
  repeat' (first
      | (refine j_go ?_; first
        | refine j_op0 rfl rfl rfl rfl ?_ | (refine j_kCall rfl rfl rfl rfl ?_; first | refine jc (cS) (LeL.refl _) rfl rfl ?_))
      | refine j_nil ?_
      | (refine r_go ?_; first | refine run_seq ?_ | refine run_region ?_)
      | refine seqQ_normal ?_)
  refine j_kCall rfl rfl rfl rfl ?_
  refine jcp _ (n_toDivision a0 ok0) (List.Perm.refl _) (LeL.refl _) rfl rfl (fun v0 m0 o0 => ?_)
  obtain ⟨cs0, rfl, E0⟩ := o0
  have fz0 := Frz.agg (EDivision_frz _ _ _ E0)
  obtain ⟨a0_0, m0_0, o0_0, ecs0, em0⟩ := id E0
  obtain ⟨b0_0, eb0_0⟩ := o0_0.isos
  subst ecs0 eb0_0
  clear em0 o0_0
  repeat' (first
      | (refine j_go ?_; first
        | refine j_op0 rfl rfl rfl rfl ?_ | (refine j_kStore rfl ?_; first | refine j_storeN 0 rfl rfl rfl rfl rfl rfl rfl rfl rfl rfl rfl ?_) | refine j_alloc rfl rfl rfl rfl rfl (fun _ => ?_))
      | refine j_nil ?_
      | (refine r_go ?_; first | refine run_seq ?_ | refine run_region ?_)
      | refine seqQ_normal ?_)
  refine j_kCall rfl rfl rfl rfl ?_
  refine jcp _ (n_toInt64S a2 hq2) (List.Perm.refl _) (LeL.refl _) rfl rfl (fun v2 m2 o2 => ?_)
  have fz2 := o2.frz (enc := Go.AI.encI) (z := 1) (fun _ => rfl) EI_frz
  obtain ⟨b2, rfl⟩ := o2.isos
  refine j_view (view_perm (put1 (l1 := [_]))) ?_
  repeat' (first
      | (refine j_go ?_; first
        | refine j_op0 rfl rfl rfl rfl ?_ | (refine j_kLoad rfl ?_; first | refine j_mload 0 rfl rfl rfl rfl rfl rfl rfl ?_))
      | refine j_nil ?_
      | (refine r_go ?_; first | refine run_seq ?_ | refine run_region ?_)
      | refine seqQ_normal ?_)
  refine j_kCall rfl rfl rfl rfl ?_
  refine jct (m0 ++ m2) cI (fun k hk => by rcases List.mem_append.1 hk with hk | hk <;> simp [hk]) (FrzL.cons (Frz.mono (fun _ hk => by simp [hk]) fz0) (FrzL.cons (Frz.same _ _) (FrzL.cons (Frz.mono (fun _ hk => by simp [hk]) fz2) (FrzL.nil _)))) (fun v h1 ⟨b, cap, q1, q2⟩ => ⟨by rw [q1]; exact Clo.tup (CloL.cons (Clo.os _ _ _) (CloL.cons (Clo.int _) CloL.nil)), by rw [q2]; exact CloH.cons (CloL.mapInt _ _) CloH.nil⟩) rfl rfl (fun v hg hR => ?_)
  obtain ⟨b, cap, rfl, rfl⟩ := hR
  have cE := c_eqInt64S r r
  rw [dec_t rfl] at cE
  have fg : Frz [⟨b, 2, cap * 1, (r.map Go.AI.encI).flatten⟩] (.os b r.length cap) (.sl (r.map Go.AI.encI)) := Frz.flat rfl rfl (fun _ => rfl) rfl rfl
  repeat' (first
      | (refine j_go ?_; first
        | refine j_op0 rfl rfl rfl rfl ?_)
      | refine j_nil ?_
      | (refine r_go ?_; first | refine run_seq ?_ | refine run_region ?_)
      | refine seqQ_normal ?_)
  refine j_kCall rfl rfl rfl rfl ?_
  refine jctq [_] cE (Clo.raw _) (fun k hk => by simp only [List.mem_singleton] at hk; subst hk; simp) (FrzL.cons fg (FrzL.cons (Frz.same _ _) (FrzL.nil _))) rfl rfl ?_
  repeat' (first
      | (refine j_go ?_; first
        | refine j_op0 rfl rfl rfl rfl ?_ | (refine j_kCall rfl rfl rfl rfl ?_; first | refine jc (c_toDivision a0 ok0) (LeL.refl _) rfl rfl ?_) | (refine j_kLoad rfl ?_; first | refine j_mload 1 rfl rfl rfl rfl rfl rfl rfl ?_))
      | refine j_nil ?_
      | (refine r_go ?_; first | refine run_seq ?_ | (refine (run_ifn rfl (fun hb => ?_) (fun hb => ?_)) <;> first | (exfalso; omega) | skip) | refine run_skip ?_ | refine run_regionD (by kernel_rfl) ?_)
      | refine seqQ_normal ?_)
  all_goals try exact absurd rfl hb
  refine j_kCall rfl rfl rfl rfl ?_
  have cQ := c_eqDivision a0 a0
  rw [dec_t rfl] at cQ
  refine jctq m0 cQ (Clo.raw _) (fun k hk => by simp [hk]) (FrzL.cons fz0 (FrzL.cons (Frz.same _ _) (FrzL.nil _))) rfl rfl ?_
  clear cQ
  repeat' (first
      | (refine j_go ?_; first
        | refine j_op0 rfl rfl rfl rfl ?_ | (refine j_kCall rfl rfl rfl rfl ?_; first | refine jc (c_toInt64S a2 hq2) (LeL.refl _) rfl rfl ?_))
      | refine j_nil ?_
      | (refine r_go ?_; first | refine run_seq ?_ | refine run_region ?_ | refine run_cond_f rfl ?_ | refine run_skip ?_)
      | refine seqQ_normal ?_)
  all_goals try exact absurd rfl hb
  refine j_kCall rfl rfl rfl rfl ?_
  have cQ := c_eqInt64S a2 a2
  rw [dec_t rfl] at cQ
  refine jctq m2 cQ (Clo.raw _) (fun k hk => by simp [hk]) (FrzL.cons fz2 (FrzL.cons (Frz.same _ _) (FrzL.nil _))) rfl rfl ?_
  clear cQ
  have cb0 := cntDivision_le ok0
  have cu0 : cntDivision a0 = 1 + mcnt cntDivRule a0.rules := rfl
  repeat' (first
      | (refine j_go ?_; first
        | refine j_op0 rfl rfl rfl rfl ?_ | (refine j_kLoad rfl ?_; first | refine j_mload 1 rfl rfl rfl rfl rfl rfl rfl ?_))
      | refine j_nil ?_
      | (refine r_go ?_; first | refine run_seq ?_ | refine run_region ?_ | refine run_cond_f rfl ?_ | refine run_skip ?_)
      | refine seqQ_normal ?_)
  all_goals try exact absurd rfl hb
  refine j_kCall rfl rfl rfl rfl ?_
  refine jcp _ (m_markDivision a0 _ m0 (1) E0 (by omega)) (pmid0 (l1 := [_, _])) (LeL.refl _) rfl rfl (fun v hx hR => ?_)
  obtain ⟨rfl, rfl⟩ := hR
  repeat' (first
      | (refine j_go ?_; first
        | refine j_op0 rfl rfl rfl rfl ?_)
      | refine j_nil ?_
      | (refine r_go ?_; first | refine run_seq ?_ | refine run_region ?_)
      | refine seqQ_normal ?_)
  all_goals try exact absurd rfl hb
  refine j_kCall rfl rfl rfl rfl ?_
  refine jcp _ (m_markInt64S a2 _ m2 (1 + (mcnt cntDivRule a0.rules)) o2 (by omega)) (pmid0 (l1 := [_, _])) (LeL.refl _) rfl rfl (fun v hx hR => ?_)
  obtain ⟨rfl, rfl⟩ := hR
  repeat' (first
      | (refine j_go ?_; first
        | refine j_op0 rfl rfl rfl rfl ?_ | (refine j_kGuard rfl ?_; first | (refine (j_if rfl rfl rfl (fun hb => ?_) (fun hb => ?_)) <;> first | (exfalso; omega) | skip)))
      | refine j_nil ?_
      | (refine r_go ?_; first | refine run_seq ?_ | refine run_region ?_)
      | refine seqQ_normal ?_)
  refine j_kCall rfl rfl rfl rfl ?_
  refine jctq [_] cE (Clo.raw _) (fun k hk => by simp only [List.mem_singleton] at hk; subst hk; simp) (FrzL.cons fg (FrzL.cons (Frz.same _ _) (FrzL.nil _))) rfl rfl ?_
  repeat' (first
      | (refine j_go ?_; first
        | refine j_op0 rfl rfl rfl rfl ?_)
      | refine j_nil ?_
      | (refine r_go ?_; first | refine run_seq ?_ | refine run_region ?_ | (refine (run_ifn rfl (fun hb => ?_) (fun hb => ?_)) <;> first | (exfalso; omega) | skip) | refine run_skip ?_)
      | refine seqQ_normal ?_)
  all_goals try exact absurd rfl hb
  refine j_kCall rfl rfl rfl rfl ?_
  refine jcp _ (x_markI b cap 1 r (by omega)) (pmid0 (l1 := []) (x := [_])) (LeL.refl _) rfl rfl (fun v hx hR => ?_)
  obtain ⟨rfl, rfl⟩ := hR
  repeat' (first
      | (refine j_go ?_; first
        | refine j_op0 rfl rfl rfl rfl ?_)
      | refine j_nil ?_
      | (refine r_go ?_; first | refine run_seq ?_ | refine run_region ?_)
      | refine seqQ_normal ?_)
  all_goals try exact absurd rfl hb
  refine j_kCall rfl rfl rfl rfl ?_
  refine jctq [⟨b, 2, cap * 1, ((marked 1 r.length).map Go.AI.encI).flatten⟩] (c_heldM 1 r.length (by omega)) (Clo.int _) (fun k hk => by simp only [List.mem_singleton] at hk; subst hk; simp) (FrzL.cons Frz.markI (FrzL.cons (Frz.same _ _) (FrzL.nil _))) rfl rfl ?_
  have cF : Gives _ _ _ (.tup [.sl (r.map Go.AI.encI), .int cd]) := cI.frozen fun v h1 ⟨b, cap, q1, q2⟩ => by rw [q1, q2]; exact FrzF.tup2 (FrzF.flat rfl rfl (fun _ => rfl) rfl rfl) (Clo.int _)
  repeat' (first
      | (refine j_go ?_; first
        | refine j_op0 rfl rfl rfl rfl ?_ | (refine j_kCall rfl rfl rfl rfl ?_; first | refine jc (c_toDivision a0 ok0) (LeL.refl _) rfl rfl ?_ | refine jc (c_toInt64S a2 hq2) (LeL.refl _) rfl rfl ?_ | refine jc (cF) (LeL.refl _) rfl rfl ?_ | refine jc (cE) (LeL.refl _) rfl rfl ?_))
      | refine j_nil ?_
      | (refine r_go ?_; first | refine run_seq ?_ | refine run_region ?_ | (refine (run_if rfl (fun hb => ?_) (fun hb => ?_)) <;> first | (exfalso; omega) | skip) | (refine (run_ifn rfl (fun hb => ?_) (fun hb => ?_)) <;> first | (exfalso; omega) | skip) | refine run_skip ?_)
      | refine seqQ_normal ?_)
  all_goals try exact absurd rfl hb
  skip
  all_goals try exact absurd rfl hb
  refine j_kCall rfl rfl rfl rfl ?_
  refine jctq [⟨b, 2, cap * 1, ((marked 1 r.length).map Go.AI.encI).flatten⟩] (c_heldM 1 r.length (by omega)) (Clo.int _) (fun k hk => by simp only [List.mem_singleton] at hk; subst hk; simp) (FrzL.cons Frz.markI (FrzL.cons (Frz.same _ _) (FrzL.nil _))) rfl rfl ?_
  repeat' (first
      | (refine j_go ?_; first
        | refine j_op0 rfl rfl rfl rfl ?_)
      | refine j_nil ?_
      | (refine r_go ?_; first | refine run_seq ?_ | refine run_region ?_ | (refine (run_if rfl (fun hb => ?_) (fun hb => ?_)) <;> first | (exfalso; omega) | skip) | (refine (run_ifn rfl (fun hb => ?_) (fun hb => ?_)) <;> first | (exfalso; omega) | skip) | refine run_ret ?_ | refine run_skip ?_)
      | refine seqQ_normal ?_)
  all_goals first | exact absurd rfl hb | exact end1 rfl (by repeat' first | exact List.Sublist.refl _ | refine List.Sublist.cons _ ?_) rfl (.inl rfl)

end Go.Proofs.Ytahjliejgjjfeaa
