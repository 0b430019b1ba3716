/-
  GatherColony of the program. No condition.
-/
import Derived.Test.YtandldhceabdiaaZMX
import Derived.Test.YtandldhceabdiaaZG7
import Derived.Test.YtandldhceabdiaaZDQ
import Derived.Test.YtandldhceabdiaaZFE
namespace Go.Proofs.Ytandldhceabdiaa
open Go.AI
set_option maxRecDepth 8000
set_option maxHeartbeats 3200000

theorem mid_get {α : Type} : ∀ (a : List α) (x : α) (b : List α), (a ++ x :: b)[a.length]? = some x
  | [], _, _ => rfl
  | _ :: a, x, b => mid_get a x b
theorem mid_set {α : Type} : ∀ (a : List α) (x y : α) (b : List α), (a ++ x :: b).set a.length y = a ++ y :: b
  | [], _, _, _ => rfl
  | z :: a, x, y, b => congrArg (z :: ·) (mid_set a x y b)
/-- A colony and a code in memory of the call's own. -/
def ColR (c : Colony) (cd : Int) (v : A) (h : Heap) : Prop := ∃ a, v = .tup [a, .int cd] ∧ ROColony c a h
theorem ColR.nil {c : Int} : ColR ⟨[], []⟩ c (.tup [.agg [.sl [], .sl []], .int c]) [] := ⟨_, rfl, .sl [], [], .inr ⟨rfl, rfl, rfl⟩, .sl [], [], .inr ⟨rfl, rfl, rfl⟩, rfl, rfl⟩
open Classical in
theorem o_colonyOrLimit (d : Division) (c : Colony) (a : A) (h0 : Heap) (hd : 1 ≤ d.objects ∧ d.objects ≤ 64) (o : ROColony c a h0) :
    Does Try.prog 95 [.agg (encDivision d), a] h0 (ColR (if c.Ok d.objects then c else ⟨[], []⟩) (if c.Ok d.objects then 0 else 3)) := by
  refine fn_of_runD tyOk ztOk mix Try.func95 rfl (by decide) Try.ntmps95 (fun w0 F => ?_)
  change Run _ _ _ _ _ (h0 ++ F)
  have fz := o.frz
  obtain ⟨a0, a1, rfl, okc⟩ := o.cells
  repeat' (first
      | (refine j_go ?_; first
        | refine j_op0 rfl rfl rfl rfl ?_ | refine j_box rfl rfl rfl rfl rfl rfl ?_ | refine j_alloc rfl rfl rfl rfl rfl (fun _ => ?_))
      | refine j_nil ?_
      | (refine r_go ?_; first | refine run_seq ?_ | refine run_region ?_)
      | refine seqQ_normal ?_)
  refine j_kCall rfl rfl rfl rfl ?_
  refine jctq h0 (c_isColony d c hd) (Clo.raw _) (fun k hk => List.mem_cons_of_mem _ (List.mem_append_left _ hk)) (FrzL.cons (Frz.same _ _) (FrzL.cons fz (FrzL.nil _))) rfl rfl ?_
  repeat' (first
      | (refine j_go ?_; first
        | refine j_op0 rfl rfl rfl rfl ?_ | (refine j_kStore rfl ?_; first | refine j_storeN 0 rfl rfl rfl rfl rfl rfl rfl rfl rfl rfl rfl ?_) | refine j_build rfl rfl rfl rfl rfl rfl rfl ?_)
      | refine j_nil ?_
      | (refine r_go ?_; first | refine run_seq ?_ | refine run_region ?_ | (refine (run_ifn rfl (fun hb => ?_) (fun hb => ?_)) <;> first | (exfalso; omega) | skip) | refine run_ret ?_ | refine run_skip ?_)
      | refine seqQ_normal ?_ | refine seqQ_ret ?_)
  · rw [if_neg hb, if_neg hb]
    refine endD_view (view_freezeP 0 4 rfl rfl) ?_
    refine endD_view (view_sub (List.sublist_append_right h0 F)) ?_
    exact endD_ret (h1 := []) rfl (.cons (.cellI rfl rfl) (.cons (.tmp rfl) .nil)) (Le.tup2 (Le.agg (LeL.cons (Le.nil 0) (LeL.cons (Le.nil 0) LeL.nil)))) ColR.nil (.inl rfl)
  · rw [if_pos hb, if_pos hb]
    refine j_storeN 0 rfl rfl rfl rfl rfl rfl rfl rfl okc rfl rfl ?_
    repeat' (first
      | (refine j_go ?_; first
        | refine j_op0 rfl rfl rfl rfl ?_)
      | refine j_nil ?_
      | (refine r_go ?_; first | refine run_ret ?_)
      | refine seqQ_normal ?_)
    refine endD_view (view_freezeP 0 4 rfl rfl) ?_
    exact endD_ret (h1 := h0) rfl (.cons (.cellI rfl rfl) (.cons (.tmp rfl) .nil)) (Le.refl _) ⟨_, rfl, o⟩ (.inl rfl)
theorem c_gatC1 (d : Division) (x : Int) (hd : 1 ≤ d.objects ∧ d.objects ≤ 64) : Gives Try.prog 91 [.int x, .ip (encDivision d)] (.raw (.bool (dec (¬ (0 ≤ x ∧ x ≤ d.objects - 1))))) := by
  refine fn_of_run tyOk ztOk mix Try.func91 rfl (by decide) Try.ntmps91 (fun w0 h => ?_)
  repeat' (first
      | (refine j_go ?_; first
        | refine j_op0 rfl rfl rfl rfl ?_ | (refine j_kCall rfl rfl rfl rfl ?_; first | refine jc (c_isObject _ _ hd) (LeL.refl _) rfl rfl ?_))
      | refine j_nil ?_
      | (refine r_go ?_; first | refine run_seq ?_ | refine run_region ?_ | refine run_ret ?_)
      | refine seqQ_normal ?_)
  exact end1 rfl (List.Sublist.refl _) (rbN Iff.rfl) (.inl rfl)
theorem c_gatC2 (d : Division) (g : Group) (hd : 1 ≤ d.objects ∧ d.objects ≤ 64) : Gives Try.prog 93 [.agg (encGroup g), .ip [.fn 91 [.ip (encDivision d)]]] (.raw (.bool (dec (¬ GrpOk d.objects g)))) := by
  refine fn_of_run tyOk ztOk mix Try.func93 rfl (by decide) Try.ntmps93 (fun w0 h => ?_)
  repeat' (first
      | (refine j_go ?_; first
        | refine j_op0 rfl rfl rfl rfl ?_ | refine j_off rfl rfl rfl ?_ | (refine j_kCall rfl rfl rfl rfl ?_; first | refine jc (c_cfI _ _ (fun x => ¬ (0 ≤ x ∧ x ≤ d.objects - 1)) g.contents (fun x _ => c_gatC1 d x hd)) (LeL.refl _) rfl rfl ?_ | refine jc (c_isCharge _) (LeL.refl _) rfl rfl ?_ | refine jc (c_inRange _ _ _) (LeL.refl _) rfl rfl ?_) | (refine j_kGuard rfl ?_; first | (refine (j_if rfl rfl rfl (fun hb => ?_) (fun hb => ?_)) <;> first | (exfalso; omega) | skip) | (refine (j_ifn rfl rfl rfl (fun hb => ?_) (fun hb => ?_)) <;> first | (exfalso; omega) | skip)) | refine j_box rfl rfl rfl rfl rfl rfl ?_)
      | refine j_nil ?_
      | (refine r_go ?_; first | refine run_seq ?_ | refine run_region ?_ | refine run_ret ?_)
      | refine seqQ_normal ?_)
  all_goals first
    | exact end1 rfl (by first | exact List.Sublist.refl _ | exact sub1 | exact sub2 | exact sub3) (rbT (fun q => absurd hb (objs_iff.2 q.2.2))) (.inl rfl)
    | exact end1 rfl (by first | exact List.Sublist.refl _ | exact sub1 | exact sub2 | exact sub3) (rbT (fun q => hb q.1)) (.inl rfl)
    | exact end1 rfl (List.Sublist.refl _) (rbN ⟨fun q z => q z.2.1, fun q z => q ⟨by assumption, z, objs_iff.1 (by assumption)⟩⟩) (.inl rfl)
    | trace_state
open Classical in
theorem c_iGatherColony (d : Division) (skin : List Int) (gs : List Group) (hs : skin.length ≤ 1048576) (hl : gs.length ≤ 1048576) (hcl : ∀ g ∈ gs, g.contents.length ≤ 1048576) : Does Try.prog 32 [.agg (encDivision d), .sl (skin.map Go.AI.encI), .sl (gs.map encGroup)] [] (ColR (resGatherColony d skin gs) (codeGatherColony d skin gs)) := by
  refine fn_of_runD tyOk ztOk mix Try.func32 rfl (by decide) Try.ntmps32 (fun w0 F => ?_)
  change Run _ _ _ _ _ F
  unfold codeGatherColony
  repeat' (first
      | (refine j_go ?_; first
        | refine j_op0 rfl rfl rfl rfl ?_ | (refine j_kCall rfl rfl rfl rfl ?_; first | refine jc (c_iValidDivision _) (LeL.refl _) rfl rfl ?_) | (refine j_kLoad rfl ?_; first | refine j_mload 0 rfl rfl rfl rfl rfl rfl rfl ?_) | (refine j_kStore rfl ?_; first | refine j_store 0 rfl rfl rfl rfl rfl rfl rfl rfl rfl rfl rfl ?_ | refine j_storeN 0 rfl rfl rfl rfl rfl rfl rfl rfl rfl rfl rfl ?_) | refine j_box rfl rfl rfl rfl rfl rfl ?_ | refine j_build rfl rfl rfl rfl rfl rfl rfl ?_ | refine j_alloc rfl rfl rfl rfl rfl (fun _ => ?_))
      | refine j_nil ?_
      | (refine r_go ?_; first | refine run_seq ?_ | refine run_region ?_ | (refine (run_ifn rfl (fun hb => ?_) (fun hb => ?_)) <;> first | (exfalso; omega) | skip) | refine run_ret ?_ | refine run_skip ?_)
      | refine seqQ_normal ?_ | refine seqQ_ret ?_)
  · rw [rg_f (fun q => hb q.1), cdG_f hb]
    refine endD_view (view_freezeP 0 6 rfl rfl) ?_
    exact endD_ret (h1 := []) rfl (.cons (.cellI rfl rfl) (.cons (.tmp rfl) .nil)) (Le.tup2 (Le.agg (LeL.cons (Le.nil 0) (LeL.cons (Le.nil 0) LeL.nil)))) ColR.nil (.inl rfl)
  have hv := hb
  have hd := hv.1
  skip
  refine j_view (view_freezeP 0 8 rfl rfl) ?_
  repeat' (first
      | (refine j_go ?_; first
        | refine j_op0 rfl rfl rfl rfl ?_ | refine j_off rfl rfl rfl ?_ | (refine j_kCall rfl rfl rfl rfl ?_; first | refine jc (c_cfI _ _ (fun x => ¬ (0 ≤ x ∧ x ≤ d.objects - 1)) skin (fun x _ => c_gatC1 d x hd)) (LeL.refl _) rfl rfl ?_ | refine jc (c_cfG _ _ (fun g => ¬ GrpOk d.objects g) gs (fun g _ => c_gatC2 d g hd)) (LeL.refl _) rfl rfl ?_) | (refine j_kStore rfl ?_; first | refine j_storeN 0 rfl rfl rfl rfl rfl rfl rfl rfl rfl rfl rfl ?_) | (refine j_kGuard rfl ?_; first | (refine (j_if rfl rfl rfl (fun hb => ?_) (fun hb => ?_)) <;> first | (exfalso; omega) | skip)) | refine j_build rfl rfl rfl rfl rfl rfl rfl ?_)
      | refine j_nil ?_
      | (refine j_goO ?_; first
        | refine j_op0O rfl rfl rfl rfl ?_)
      | (refine r_go ?_; first | refine run_seq ?_ | refine run_region ?_ | refine run_cond_t rfl ?_ | (refine (run_if rfl (fun hb => ?_) (fun hb => ?_)) <;> first | (exfalso; omega) | skip) | refine run_ret ?_ | refine run_skip ?_ | refine run_opn 6 [⟨0, false, false, 0⟩, ⟨1, true, false, 0⟩, ⟨2, true, false, 0⟩, ⟨3, false, true, 0⟩, ⟨4, false, true, 0⟩, ⟨5, true, false, 0⟩, ⟨6, true, false, 0⟩, ⟨7, false, true, 0⟩, ⟨8, true, false, 0⟩] rfl rfl (by kernel_rfl) ?_)
      | refine seqQ_normal ?_ | refine seqQ_ret ?_)
  · have hg : ¬ GoodC d skin gs := fun q => objs_iff.2 q.1 hb
    rw [rg_f (fun q => hg q.2.1), cdG_r hv hg]
    refine endD_view (view_freezeP 0 6 rfl rfl) ?_
    exact endD_ret (h1 := []) rfl (.cons (.cellI rfl rfl) (.cons (.tmp rfl) .nil)) (Le.tup2 (Le.agg (LeL.cons (Le.nil 0) (LeL.cons (Le.nil 0) LeL.nil)))) ColR.nil (.inl rfl)
  · have hg : ¬ GoodC d skin gs := fun q => by
      obtain ⟨g, h1, h2⟩ := hb
      exact h2 (q.2 g h1)
    rw [rg_f (fun q => hg q.2.1), cdG_r hv hg]
    refine endD_view (view_freezeP 0 6 rfl rfl) ?_
    exact endD_ret (h1 := []) rfl (.cons (.cellI rfl rfl) (.cons (.tmp rfl) .nil)) (Le.tup2 (Le.agg (LeL.cons (Le.nil 0) (LeL.cons (Le.nil 0) LeL.nil)))) ColR.nil (.inl rfl)
  have hG : ∀ g ∈ gs, GrpOk d.objects g := fun g hg => Classical.byContradiction fun q => hb ⟨g, hg, q⟩
  have hg : GoodC d skin gs := ⟨objs_iff.1 (by assumption), hG⟩
  refine j_kCallO rfl rfl rfl rfl ?_
  refine jcpO (_ :: F) (o_gather skin gs hs hl (fun g hg => ⟨hcl g hg, (hG g hg).2.1⟩)) rfl (List.Perm.refl _) (LeL.refl _) rfl rfl (fun v h1 hR => ?_)
  obtain ⟨ks, ag, oC⟩ := hR
  obtain rfl := ag.uniq (ksG_agg hG)
  skip
  refine j_kCallO rfl rfl rfl rfl ?_
  refine jcpO (_ :: F) (o_colonyOrLimit d (colG skin gs) v h1 hd oC) rfl (List.Perm.refl _) (LeL.refl _) rfl rfl (fun v2 h2 hR => ?_)
  obtain ⟨a2, rfl, o2⟩ := hR
  obtain ⟨c0, c1, rfl, okc⟩ := o2.cells
  repeat' (first
      | (refine j_goO ?_; first
        | refine j_op0O rfl rfl rfl rfl ?_))
  refine j_storeNO h2.length rfl rfl rfl rfl rfl rfl (mid_get _ _ _) rfl rfl okc rfl rfl (fun _ hk => nomatch hk) ?_
  rw [mid_set]
  repeat' (first
      | (refine j_goO ?_; first
        | refine j_op0O rfl rfl rfl rfl ?_)
      | refine j_nilO ?_
      | (refine r_go ?_; first | refine run_ret ?_)
      | refine seqQ_normal ?_)
  refine endD_view (view_perm List.perm_middle) ?_
  refine endD_view (view_freezeP 0 6 rfl rfl) ?_
  have er : (if (colG skin gs).Ok d.objects then colG skin gs else ⟨[], []⟩) = resGatherColony d skin gs := by
    by_cases q : (colG skin gs).Ok d.objects
    · rw [if_pos q, rg_t ⟨hv, hg, q⟩]
    · rw [if_neg q, rg_f (fun z => q z.2.2)]
  have ec : (if (colG skin gs).Ok d.objects then (0 : Int) else 3) = cdG d.Valid (GoodC d skin gs) ((colG skin gs).Ok d.objects) := by
    by_cases q : (colG skin gs).Ok d.objects
    · rw [if_pos q, cdG_o hv hg q]
    · rw [if_neg q, cdG_l hv hg q]
  rw [er] at o2
  rw [ec]
  exact endD_ret (h1 := h2) rfl (.cons (.cellI rfl rfl) (.cons (.tmp rfl) .nil)) (Le.refl _) ⟨_, rfl, o2⟩ (.inl rfl)
end Go.Proofs.Ytandldhceabdiaa

/-
  The law FnGrow answers true whatever it reads. No condition.
-/
namespace Go.Proofs.Ytandldhceabdiaa
open Go.AI
set_option maxRecDepth 8000
set_option maxHeartbeats 3200000

theorem frz_le {hT : Heap} {a b : A} (h : Le a b) : Frz hT a b := fun H w v _ _ r => h _ _ _ (r.heap (List.nil_sublist H))
theorem c_f6bigG (l : List UInt8) : Gives Try.prog 26 [.sl (l.map encY)] (.raw (.bool (dec (4096 < (l.length : Int))))) := by
  refine fn_of_run tyOk ztOk mix Try.func26 rfl (by decide) Try.ntmps26 (fun w0 h => ?_)
  repeat' (first
      | (refine j_go ?_; first
        | refine j_op0 rfl rfl rfl rfl ?_ | (refine j_kLen rfl ?_; first | refine j_len rfl rfl rfl rfl rfl rfl ?_))
      | refine j_nil ?_
      | (refine r_go ?_; first | refine run_seq ?_ | refine run_region ?_ | refine run_ret ?_)
      | refine seqQ_normal ?_)
  exact end1 rfl (List.Sublist.refl _) (rfl) (.inl rfl)
theorem c_f6ints (a b : List Int) : Gives Try.prog 31 [.sl (a.map Go.AI.encI), .sl (b.map Go.AI.encI)] (.raw (.bool (dec (a = b)))) := by
  refine fn_of_run tyOk ztOk mix Try.func31 rfl (by decide) Try.ntmps31 (fun w0 h => ?_)
  refine run_len (t := 0) rfl (fun hl => ?_)
  refine run_len (t := 1) rfl (fun hl2 => ?_)
  rw [List.length_map] at hl hl2
  repeat' (first
      | (refine j_go ?_; first
        | refine j_op0 rfl rfl rfl rfl ?_ | (refine j_kLen rfl ?_; first | refine j_len rfl rfl rfl rfl rfl rfl ?_))
      | refine j_nil ?_
      | (refine r_go ?_; first | refine run_seq ?_ | refine run_region ?_ | (refine (run_ifn rfl (fun hb => ?_) (fun hb => ?_)) <;> first | (exfalso; omega) | skip) | refine run_block ?_ | refine run_ret ?_ | refine run_skip ?_)
      | refine seqQ_normal ?_ | refine seqQ_ret ?_)
  · exact end1 rfl (by first | exact List.Sublist.refl _ | exact sub1 | exact sub2 | exact sub3) (rbF (fun q => hb (by rw [q]))) (.inl rfl)
  have he : a.length = b.length := by omega
  refine run_loop (fun k : Nat => [(0, .sl (a.map Go.AI.encI)), (1, .sl (b.map Go.AI.encI)), (5, .int (k : Int))]) (fun _ => _) (fun k => k ≤ a.length ∧ (∀ i (h : i < a.length), i < k → some a[i] = b[i]?)) (fun k => a.length - k) 0 ⟨rfl, rfl, rfl, trivial⟩ rfl ⟨Nat.zero_le _, by first | (intros; omega) | (simp; done) | rfl | trivial | exact ⟨by simp [sumF], by intros; omega⟩ | exact ⟨by omega, by simp⟩⟩ (fun k ⟨kl, kp⟩ => ?_)
  repeat' (first
      | (refine j_go ?_; first
        | refine j_op0 rfl rfl rfl rfl ?_ | (refine j_kIdx rfl ?_; first | refine j_idx rfl rfl rfl rfl rfl (by omega) rfl rfl rfl ?_) | (refine j_kBin rfl ?_; first | refine j_in rfl rfl ⟨by omega, by omega⟩ rfl rfl ?_) | (refine j_kLen rfl ?_; first | refine j_len rfl rfl rfl rfl rfl rfl ?_))
      | refine j_nil ?_
      | (refine r_go ?_; first | refine run_seq ?_ | refine run_region ?_ | (refine (run_if rfl (fun hb => ?_) (fun hb => ?_)) <;> first | (exfalso; omega) | skip) | (refine (run_ifn rfl (fun hb => ?_) (fun hb => ?_)) <;> first | (exfalso; omega) | skip) | refine run_block ?_ | refine run_ret ?_ | refine run_exit ?_ | refine run_skip ?_ | refine run_regionD (by kernel_rfl) ?_)
      | refine seqQ_normal ?_ | refine seqQ_ret ?_ | refine seqQ_exit ?_ | refine blockQ_normal ?_ | refine blockQ_ret ?_ | refine blockQ_eq ?_ | refine loopQ_ret ?_ | refine loopQ_exit ?_)
  all_goals first
    | exact loopQ_nextD (k + 1) ⟨by omega, all_step kp (fun _ => by rw [List.getElem?_eq_getElem (by omega)]; exact congrArg some hb)⟩ (by omega) (by first | exact List.Sublist.refl _ | exact sub1 | exact sub2 | exact sub3) ⟨rfl, rfl, nx _, trivial⟩
    | exact end1 rfl (by first | exact List.Sublist.refl _ | exact sub1 | exact sub2 | exact sub3) (rbF (fun q => by subst q; exact hb rfl)) (.inl rfl)
    | exact end1 rfl (by first | exact List.Sublist.refl _ | exact sub1 | exact sub2 | exact sub3) (rbT (List.ext_getElem? (fun i => by
        by_cases hi : i < a.length
        · rw [List.getElem?_eq_getElem hi]; exact kp i hi (by omega)
        · rw [List.getElem?_eq_none (by omega), List.getElem?_eq_none (by omega)]))) (.inl rfl)
    | trace_state
theorem grw_sm {d : Division} (h : DivSm d) {kind charge x : Int} : (d.grw kind charge x).length ≤ 2 := by
  rcases fIdx_cases (FitR kind charge x) d.rules with ⟨k, hk, _, h2, h3⟩ | ⟨_, h3⟩
  · rw [(grw_at hk h2 h3).1]; exact (h.2.2.2 _ (List.getElem_mem hk)).1
  · rw [(grw_no h3).1]; simp
theorem grown_sm {d : Division} (h : DivSm d) {kind charge : Int} : ∀ l : List Int, (d.grown kind charge l).length ≤ 2 * l.length
  | [] => by simp [Division.grown]
  | x :: l => by
    have := grown_sm h (kind := kind) (charge := charge) l
    have := grw_sm h (kind := kind) (charge := charge) (x := x)
    simp only [Division.grown, List.map_cons, List.flatten_cons, List.length_append, List.length_cons] at *
    omega
theorem grown_app {d : Division} {kind charge : Int} (a b : List Int) : d.grown kind charge (a ++ b) = d.grown kind charge a ++ d.grown kind charge b := by unfold Division.grown; rw [List.map_append, List.flatten_append]
theorem sortI_eq {a b : List Int} (h : a.Perm b) : sortI a = sortI b :=
  List.Perm.eq_of_pairwise (le := fun a b : Int => a ≤ b) (fun a b _ _ h1 h2 => by omega) (sortI_sorted a) (sortI_sorted b) ((sortI_perm a).trans (h.trans (sortI_perm b).symm))
theorem grow_ok {d : Division} (h : DivSm d) {ch : Int} (hc : -1 ≤ ch ∧ ch ≤ 1) {l : List Int} (hl : ∀ x ∈ l, 0 ≤ x ∧ x ≤ d.objects - 1) (h4 : l.length ≤ 4) : resGrowContents d ch l = sortI (d.grown 1 ch l) ∧ codeGrowContents d ch l = 0 := by
  have g := grown_sm h (kind := 1) (charge := ch) l
  have q : d.Valid ∧ GoodG d ch l ∧ (d.grown 1 ch l).length ≤ 60 := ⟨h.1, ⟨hc, hl⟩, by omega⟩
  unfold resGrowContents codeGrowContents
  exact ⟨ls_t q _, cdG_o q.1 q.2.1 q.2.2⟩
theorem gather_ok {d : Division} (h : d.Valid) {X : List Int} (hl : ∀ x ∈ X, 0 ≤ x ∧ x ≤ d.objects - 1) (h3 : X.length ≤ 300) : resGatherColony d X [] = ⟨sortI X, []⟩ ∧ codeGatherColony d X [] = 0 := by
  have e : colG X [] = ⟨sortI X, []⟩ := rfl
  have ok : (colG X []).Ok d.objects := by
    rw [e]
    exact ⟨heap_sort hl (by omega) (sortI_perm X) (sortI_sorted X), by simp, fun i hi => absurd hi (Nat.not_lt_zero _), show (0 : Int) ≤ 5000 by decide⟩
  have g : GoodC d X [] := ⟨hl, fun _ q => absurd q (by simp)⟩
  unfold codeGatherColony
  exact ⟨by rw [rg_t ⟨h, g, ok⟩, e], cdG_o h g ok⟩
theorem c_FnGrow (a0 a1 : List UInt8) : Gives Try.prog 5 [.sl (a0.map encY), .sl (a1.map encY)] (.raw (.bool true)) := by
  refine fn_of_run tyOk ztOk mix Try.func5 rfl (by decide) Try.ntmps5 (fun w0 h => ?_)
  repeat' (first
      | (refine j_go ?_; first
        | refine j_op0 rfl rfl rfl rfl ?_ | refine j_off rfl rfl rfl ?_ | (refine j_kCall rfl rfl rfl rfl ?_; first | refine jc (c_f6bigG _) (LeL.refl _) rfl rfl ?_) | (refine j_kGuard rfl ?_; first | (refine (j_if rfl rfl rfl (fun hb => ?_) (fun hb => ?_)) <;> first | (exfalso; omega) | skip)))
      | refine j_nil ?_
      | (refine r_go ?_; first | refine run_seq ?_ | refine run_region ?_ | refine run_cond_t rfl ?_ | (refine (run_if rfl (fun hb => ?_) (fun hb => ?_)) <;> first | (exfalso; omega) | skip) | refine run_ret ?_ | refine run_skip ?_)
      | refine seqQ_normal ?_ | refine seqQ_ret ?_)
  · exact end1 rfl (List.Sublist.refl _) (rfl) (.inl rfl)
  · exact end1 rfl (List.Sublist.refl _) (rfl) (.inl rfl)
  refine j_kCall rfl rfl rfl rfl ?_
  refine jcp _ (o_P6Division a0) (List.Perm.refl _) (LeL.refl _) rfl rfl (fun v h1 hR => ?_)
  obtain ⟨d, c, rfl, hd, hc, rfl⟩ := hR
  repeat' (first
      | (refine j_go ?_; first
        | refine j_op0 rfl rfl rfl rfl ?_ | (refine j_kStore rfl ?_; first | refine j_storeN 0 rfl rfl rfl rfl rfl rfl rfl rfl rfl rfl rfl ?_ | refine j_storeN 1 rfl rfl rfl rfl rfl rfl rfl rfl rfl rfl rfl ?_) | refine j_alloc rfl rfl rfl rfl rfl (fun _ => ?_))
      | refine j_nil ?_
      | (refine r_go ?_; first | refine run_seq ?_ | refine run_region ?_)
      | refine seqQ_normal ?_)
  refine j_view (view_freezeP 0 6 rfl rfl) ?_
  refine j_view (view_freezeP 0 5 rfl rfl) ?_
  refine j_kCall rfl rfl rfl rfl ?_
  refine jcp _ (o_P6Pick a1 3 (by omega)) (List.Perm.refl _) (LeL.refl _) rfl rfl (fun v h1 hR => ?_)
  obtain ⟨r, rfl, hr, rfl⟩ := hR
  have hch : -1 ≤ r - 1 ∧ r - 1 ≤ 1 := by omega
  have hsk := hc.rng
  have hs4 : c.skin.length ≤ 4 := by have := hc.2; omega
  have cG : ∀ l : List Int, (∀ x ∈ l, 0 ≤ x ∧ x ≤ d.objects - 1) → l.length ≤ 4 → Gives Try.prog 29 [.agg (encDivision d), .int (r - 1), .sl (l.map Go.AI.encI)] (.tup [.sl ((sortI (d.grown 1 (r - 1) l)).map Go.AI.encI), .int 0]) := fun l h1 h2 => by
    have q := (c_iGrowContents d (r - 1) l (by omega)).frozen (v' := .tup [.sl ((resGrowContents d (r - 1) l).map Go.AI.encI), .int (codeGrowContents d (r - 1) l)]) fun v h1 ⟨b, cap, q1, q2⟩ => by rw [q1, q2]; exact FrzF.tup2 (FrzF.flat rfl rfl (fun _ => rfl) rfl rfl) (Clo.int _)
    rw [(grow_ok hd hch h1 h2).1, (grow_ok hd hch h1 h2).2] at q
    exact q
  have cH : Gives Try.prog 30 [.agg (encDivision d), .int (r - 1), .sl (c.skin.map Go.AI.encI)] (.tup [.sl ((sortI (d.grown 1 (r - 1) c.skin)).map Go.AI.encI), .int 0]) := by
    have q := c_sGrowContents d (r - 1) c.skin (by omega)
    rw [(grow_ok hd hch hsk hs4).1, (grow_ok hd hch hsk hs4).2] at q
    exact q
  have cG0 := cG c.skin hsk hs4
  have cE := c_f6ints (sortI (d.grown 1 (r - 1) c.skin)) (sortI (d.grown 1 (r - 1) c.skin))
  rw [dec_t rfl] at cE
  repeat' (first
      | (refine j_go ?_; first
        | refine j_op0 rfl rfl rfl rfl ?_ | (refine j_kBin rfl ?_; first | refine j_in rfl rfl ⟨by omega, by omega⟩ rfl rfl ?_) | (refine j_kLen rfl ?_; first | refine j_len rfl rfl rfl rfl rfl rfl ?_) | (refine j_kCall rfl rfl rfl rfl ?_; first | refine jc (cG0) (LeL.refl _) rfl rfl ?_ | refine jc (cH) (LeL.refl _) rfl rfl ?_ | refine jc (cE) (LeL.refl _) rfl rfl ?_) | (refine j_kGuard rfl ?_; first | (refine (j_ifn rfl rfl rfl (fun hb => ?_) (fun hb => ?_)) <;> first | (exfalso; omega) | skip)))
      | refine j_nil ?_
      | (refine r_go ?_; first | refine run_seq ?_ | refine run_region ?_ | refine run_cond_f rfl ?_ | refine run_skip ?_)
      | refine seqQ_normal ?_)
  refine j_kCall rfl rfl rfl rfl ?_
  refine jcp _ (o_P6Pick a1 ((c.skin.length : Int) + 1) (by omega)) (List.Perm.refl _) (LeL.refl _) rfl rfl (fun v h1 hR => ?_)
  obtain ⟨k, rfl, hk, rfl⟩ := hR
  obtain ⟨K, rfl⟩ : ∃ K : Nat, k = (K : Int) := ⟨k.toNat, by omega⟩
  have hK : K ≤ c.skin.length := by omega
  have dK : (c.skin.drop K).length = c.skin.length - K := List.length_drop
  have tK : (c.skin.take K).length = K := by rw [List.length_take]; omega
  have cGd := cG (c.skin.drop K) (fun x hx => hsk x (List.mem_of_mem_drop hx)) (by omega)
  have cGt := cG (c.skin.take K) (fun x hx => hsk x (List.mem_of_mem_take hx)) (by omega)
  have e1 : (c.skin.take (((c.skin.map Go.AI.encI).length : Nat) : Int).toNat).drop ((K : Int)).toNat = c.skin.drop K := by simp only [Int.toNat_natCast, List.length_map, List.take_length]
  have e2 : (c.skin.take ((K : Int)).toNat).drop ((0 : Int)).toNat = c.skin.take K := by simp only [Int.toNat_natCast, Int.toNat_zero, List.drop_zero]
  have cGd2 : Gives Try.prog 29 [.agg (encDivision d), .int (r - 1), .sl (((c.skin.take (((c.skin.map Go.AI.encI).length : Nat) : Int).toNat).drop ((K : Int)).toNat).map Go.AI.encI)] (.tup [.sl ((sortI (d.grown 1 (r - 1) (c.skin.drop K))).map Go.AI.encI), .int 0]) := by rw [e1]; exact cGd
  have cGt2 : Gives Try.prog 29 [.agg (encDivision d), .int (r - 1), .sl (((c.skin.take ((K : Int)).toNat).drop ((0 : Int)).toNat).map Go.AI.encI)] (.tup [.sl ((sortI (d.grown 1 (r - 1) (c.skin.take K))).map Go.AI.encI), .int 0]) := by rw [e2]; exact cGt
  have gX := grown_sm hd (kind := 1) (charge := r - 1) (c.skin.drop K)
  have gY := grown_sm hd (kind := 1) (charge := r - 1) (c.skin.take K)
  have rX := grown_rng hd.1 (kind := 1) (charge := r - 1) (l := c.skin.drop K) (fun x hx => hsk x (List.mem_of_mem_drop hx))
  have rY := grown_rng hd.1 (kind := 1) (charge := r - 1) (l := c.skin.take K) (fun x hx => hsk x (List.mem_of_mem_take hx))
  have pX := sortI_perm (d.grown 1 (r - 1) (c.skin.drop K))
  have pY := sortI_perm (d.grown 1 (r - 1) (c.skin.take K))
  have eS : sortI (sortI (d.grown 1 (r - 1) (c.skin.drop K)) ++ sortI (d.grown 1 (r - 1) (c.skin.take K))) = sortI (d.grown 1 (r - 1) c.skin) := by
    refine sortI_eq ?_
    rw [show d.grown 1 (r - 1) c.skin = d.grown 1 (r - 1) (c.skin.take K) ++ d.grown 1 (r - 1) (c.skin.drop K) from by rw [← grown_app, List.take_append_drop]]
    exact (pX.append pY).trans List.perm_append_comm
  have lX := pX.length_eq
  have lY := pY.length_eq
  have hml : (c.skin.map Go.AI.encI).length = c.skin.length := List.length_map _
  have hx8 : (sortI (d.grown 1 (r - 1) (c.skin.drop K))).length ≤ 8 := by omega
  have hy8 : (sortI (d.grown 1 (r - 1) (c.skin.take K))).length ≤ 8 := by omega
  have hxy : ∀ y ∈ sortI (d.grown 1 (r - 1) (c.skin.drop K)) ++ sortI (d.grown 1 (r - 1) (c.skin.take K)), 0 ≤ y ∧ y ≤ d.objects - 1 := fun y hy => by
    rcases List.mem_append.1 hy with q | q
    · exact rX y (pX.mem_iff.1 q)
    · exact rY y (pY.mem_iff.1 q)
  repeat' (first
      | (refine j_go ?_; first
        | refine j_op0 rfl rfl rfl rfl ?_ | (refine j_kCall rfl rfl rfl rfl ?_; first | refine jc (cGd2) (LeL.refl _) rfl rfl ?_ | refine jc (cGt2) (LeL.refl _) rfl rfl ?_) | (refine j_kSlice rfl ?_; first | refine j_slice rfl rfl rfl rfl rfl rfl (by omega) (fun _ => rfl) rfl rfl ?_))
      | refine j_nil ?_
      | (refine j_goO ?_; first
        | refine j_op0O rfl rfl rfl rfl ?_ | (refine j_kBslO rfl ?_; first | refine j_bs0O rfl rfl rfl rfl rfl rfl ?_))
      | (refine r_go ?_; first | refine run_seq ?_ | refine run_opn 12 [⟨0, false, false, 0⟩, ⟨1, false, false, 0⟩, ⟨2, false, false, 0⟩, ⟨4, false, false, 0⟩, ⟨10, false, true, 6⟩, ⟨3, false, true, 0⟩, ⟨5, false, true, 0⟩, ⟨6, false, true, 0⟩, ⟨7, false, false, 0⟩, ⟨8, false, false, 0⟩, ⟨9, false, false, 0⟩, ⟨11, false, true, 0⟩, ⟨12, true, false, 0⟩] rfl rfl (by kernel_rfl) ?_ | refine run_regionD (by kernel_rfl) ?_)
      | refine seqQ_normal ?_)
  clear cGd cGt cGd2 cGt2 cG cG0 cH cE pX pY lX lY gX gY rX rY e1 e2
  generalize sortI (d.grown 1 (r - 1) (c.skin.drop K)) = X at hx8 hxy eS ⊢
  generalize sortI (d.grown 1 (r - 1) (c.skin.take K)) = Y at hy8 hxy eS ⊢
  generalize sortI (d.grown 1 (r - 1) c.skin) = Z at eS ⊢
  have go := gather_ok hd.1 hxy (by rw [List.length_append]; omega)
  have cI := c_iGatherColony d (X ++ Y) [] (by rw [List.length_append]; omega) (by simp) (by simp)
  rw [go.1, go.2, eS] at cI
  have cR : ∀ v h1, ColR ⟨Z, []⟩ 0 v h1 → Clo v ∧ CloH h1 := fun v h1 ⟨a, q1, q2⟩ => ⟨by rw [q1]; exact Clo.tup (CloL.cons q2.clo.1 (CloL.cons (Clo.int _) CloL.nil)), q2.clo.2⟩
  have cF : ∀ v h1, ColR ⟨Z, []⟩ 0 v h1 → FrzF h1 v (.tup [.agg (encColony ⟨Z, []⟩), .int 0]) := fun v h1 ⟨a, q1, q2⟩ => by rw [q1]; exact FrzF.tup2 q2.frzF (Clo.int _)
  have cE2 := c_f6ints Z Z
  rw [dec_t rfl] at cE2
  refine j_twoO rfl rfl rfl rfl (alloc_at rfl rfl) rfl rfl rfl (append0_list (bytes := 8) (g := Go.AI.encI) (zs := X) rfl rfl rfl rfl rfl rfl rfl (fun _ => rfl) (fun _ _ => rfl) (by omega) (by omega)) rfl rfl (fun v h' hR => ?_) (fun v h' hR => ?_)
  · obtain ⟨b17, rfl, rfl⟩ := hR
    refine j_append0O (g := Go.AI.encI) X rfl (fun _ hk => nomatch hk) rfl rfl rfl rfl rfl rfl rfl rfl (fun _ => rfl) (fun _ _ => rfl) ⟨by omega, by omega⟩ rfl rfl (fun b3 c3 => ?_)
    skip
    refine j_appendO 0 (g := Go.AI.encI) (ys := X) Y rfl (fun _ hk => nomatch hk) rfl rfl rfl rfl rfl rfl rfl rfl rfl rfl rfl rfl (fun _ => rfl) (fun _ _ => rfl) ⟨by omega, by omega⟩ rfl rfl (fun b4 c4 => ?_)
    skip
    refine j_kCallO rfl rfl rfl rfl ?_
    refine jctfO [⟨b4, 2, c4 * 1, ((X ++ Y).map Go.AI.encI).flatten⟩] cI rfl (fun _ hk => nomatch hk) (fun k hk => by simp only [List.mem_singleton] at hk; subst hk; simp) (FrzL.cons (Frz.same _ _) (FrzL.cons (Frz.flat rfl rfl (fun _ => rfl) rfl rfl) (FrzL.cons (frz_le (Le.nil 0)) (FrzL.nil _)))) cR cF rfl rfl ?_
    repeat' (first
      | (refine j_go ?_; first
        | refine j_op0 rfl rfl rfl rfl ?_ | (refine j_kCall rfl rfl rfl rfl ?_; first | refine jc (cE2) (LeL.refl _) rfl rfl ?_) | (refine j_kLoad rfl ?_; first | refine j_mload 1 rfl rfl rfl rfl rfl rfl rfl ?_) | (refine j_kGuard rfl ?_; first | (refine (j_if rfl rfl rfl (fun hb => ?_) (fun hb => ?_)) <;> first | (exfalso; omega) | skip)))
      | refine j_nil ?_
      | (refine j_goO ?_; first
        | refine j_op0O rfl rfl rfl rfl ?_ | (refine j_kStoreO rfl ?_; first | refine j_storeNO 1 rfl rfl rfl rfl rfl rfl rfl rfl rfl rfl rfl rfl (by first | (intro _ hk; exact absurd hk List.not_mem_nil) | (intro k hk; simp at hk ⊢; try simp [hk])) ?_))
      | refine j_nilO ?_
      | (refine r_go ?_; first | refine run_seq ?_ | refine run_region ?_ | refine run_ret ?_)
      | refine seqQ_normal ?_)
    all_goals first | exact absurd rfl hb | exact absurd hb (by decide) | exact end1 rfl (by repeat' first | exact List.Sublist.refl _ | refine List.Sublist.cons _ ?_) rfl (.inl rfl) | trace_state
  · obtain ⟨b3, c3, rfl, rfl⟩ := hR
    refine j_twoO rfl rfl rfl rfl (alloc_at rfl rfl) rfl rfl rfl (append_list (bytes := 8) (i := 0) (g := Go.AI.encI) (ys := X) (zs := Y) rfl rfl rfl rfl rfl rfl rfl rfl rfl rfl rfl (fun _ => rfl) (fun _ _ => rfl) (by omega) (by omega)) rfl rfl (fun v h' hR => ?_) (fun v h' hR => ?_)
    · obtain ⟨b17, rfl, rfl⟩ := hR
      refine j_appendO 1 (g := Go.AI.encI) (ys := X) Y rfl (fun _ hk => nomatch hk) rfl rfl rfl rfl rfl rfl rfl rfl rfl rfl rfl rfl (fun _ => rfl) (fun _ _ => rfl) ⟨by omega, by omega⟩ rfl rfl (fun b4 c4 => ?_)
      skip
      refine j_kCallO rfl rfl rfl rfl ?_
      refine jctfO [⟨b4, 2, c4 * 1, ((X ++ Y).map Go.AI.encI).flatten⟩] cI rfl (fun _ hk => nomatch hk) (fun k hk => by simp only [List.mem_singleton] at hk; subst hk; simp) (FrzL.cons (Frz.same _ _) (FrzL.cons (Frz.flat rfl rfl (fun _ => rfl) rfl rfl) (FrzL.cons (frz_le (Le.nil 0)) (FrzL.nil _)))) cR cF rfl rfl ?_
      repeat' (first
      | (refine j_go ?_; first
        | refine j_op0 rfl rfl rfl rfl ?_ | (refine j_kCall rfl rfl rfl rfl ?_; first | refine jc (cE2) (LeL.refl _) rfl rfl ?_) | (refine j_kLoad rfl ?_; first | refine j_mload 0 rfl rfl rfl rfl rfl rfl rfl ?_) | (refine j_kGuard rfl ?_; first | (refine (j_if rfl rfl rfl (fun hb => ?_) (fun hb => ?_)) <;> first | (exfalso; omega) | skip)))
      | refine j_nil ?_
      | (refine j_goO ?_; first
        | refine j_op0O rfl rfl rfl rfl ?_ | (refine j_kStoreO rfl ?_; first | refine j_storeNO 0 rfl rfl rfl rfl rfl rfl rfl rfl rfl rfl rfl rfl (by first | (intro _ hk; exact absurd hk List.not_mem_nil) | (intro k hk; simp at hk ⊢; try simp [hk])) ?_))
      | refine j_nilO ?_
      | (refine r_go ?_; first | refine run_seq ?_ | refine run_region ?_ | refine run_ret ?_)
      | refine seqQ_normal ?_)
      all_goals first | exact absurd rfl hb | exact absurd hb (by decide) | exact end1 rfl (by repeat' first | exact List.Sublist.refl _ | refine List.Sublist.cons _ ?_) rfl (.inl rfl) | trace_state
    · obtain ⟨b4, c4, rfl, rfl⟩ := hR
      refine j_twoO rfl rfl rfl rfl (alloc_at rfl rfl) rfl rfl rfl (MStep.frz (call_thaw (hT := [⟨b4, 2, c4 * 1, ((X ++ Y).map Go.AI.encI).flatten⟩]) rfl rfl rfl cI (fun k hk => by simp only [List.mem_singleton] at hk; subst hk; simp) (FrzL.cons (Frz.same _ _) (FrzL.cons (Frz.flat rfl rfl (fun _ => rfl) rfl rfl) (FrzL.cons (frz_le (Le.nil 0)) (FrzL.nil _)))) cR) cF) rfl rfl (fun v h' hR => ?_) (fun v h' hR => ?_)
      · obtain ⟨b17, rfl, rfl⟩ := hR
        refine j_kCallO rfl rfl rfl rfl ?_
        refine jctfO [⟨b4, 2, c4 * 1, ((X ++ Y).map Go.AI.encI).flatten⟩] cI rfl (fun _ hk => nomatch hk) (fun k hk => by simp only [List.mem_singleton] at hk; subst hk; simp) (FrzL.cons (Frz.same _ _) (FrzL.cons (Frz.flat rfl rfl (fun _ => rfl) rfl rfl) (FrzL.cons (frz_le (Le.nil 0)) (FrzL.nil _)))) cR cF rfl rfl ?_
        repeat' (first
      | (refine j_go ?_; first
        | refine j_op0 rfl rfl rfl rfl ?_ | (refine j_kCall rfl rfl rfl rfl ?_; first | refine jc (cE2) (LeL.refl _) rfl rfl ?_) | (refine j_kLoad rfl ?_; first | refine j_mload 0 rfl rfl rfl rfl rfl rfl rfl ?_) | (refine j_kGuard rfl ?_; first | (refine (j_if rfl rfl rfl (fun hb => ?_) (fun hb => ?_)) <;> first | (exfalso; omega) | skip)))
      | refine j_nil ?_
      | (refine j_goO ?_; first
        | refine j_op0O rfl rfl rfl rfl ?_ | (refine j_kStoreO rfl ?_; first | refine j_storeNO 0 rfl rfl rfl rfl rfl rfl rfl rfl rfl rfl rfl rfl (by first | (intro _ hk; exact absurd hk List.not_mem_nil) | (intro k hk; simp at hk ⊢; try simp [hk])) ?_))
      | refine j_nilO ?_
      | (refine r_go ?_; first | refine run_seq ?_ | refine run_region ?_ | refine run_ret ?_)
      | refine seqQ_normal ?_)
        all_goals first | exact absurd rfl hb | exact absurd hb (by decide) | exact end1 rfl (by repeat' first | exact List.Sublist.refl _ | refine List.Sublist.cons _ ?_) rfl (.inl rfl) | trace_state
      · obtain ⟨rfl, rfl⟩ := hR
        refine j_floatO rfl rfl rfl rfl rfl (alloc_at rfl rfl) rfl rfl rfl (fun _ => opVal_quiet tyOk rfl) rfl rfl (fun v h' hR => ?_) ?_
        · obtain ⟨b17, rfl, rfl⟩ := hR
          repeat' (first
      | (refine j_go ?_; first
        | refine j_op0 rfl rfl rfl rfl ?_ | (refine j_kCall rfl rfl rfl rfl ?_; first | refine jc (cE2) (LeL.refl _) rfl rfl ?_) | (refine j_kLoad rfl ?_; first | refine j_mload 0 rfl rfl rfl rfl rfl rfl rfl ?_) | (refine j_kGuard rfl ?_; first | (refine (j_if rfl rfl rfl (fun hb => ?_) (fun hb => ?_)) <;> first | (exfalso; omega) | skip)))
      | refine j_nil ?_
      | (refine j_goO ?_; first
        | refine j_op0O rfl rfl rfl rfl ?_ | (refine j_kStoreO rfl ?_; first | refine j_storeNO 0 rfl rfl rfl rfl rfl rfl rfl rfl rfl rfl rfl rfl (by first | (intro _ hk; exact absurd hk List.not_mem_nil) | (intro k hk; simp at hk ⊢; try simp [hk])) ?_))
      | refine j_nilO ?_
      | (refine r_go ?_; first | refine run_seq ?_ | refine run_region ?_ | refine run_ret ?_)
      | refine seqQ_normal ?_)
          all_goals first | exact absurd rfl hb | exact absurd hb (by decide) | exact end1 rfl (by repeat' first | exact List.Sublist.refl _ | refine List.Sublist.cons _ ?_) rfl (.inl rfl) | trace_state
        · skip
          refine j_floatO rfl rfl rfl rfl rfl (alloc_at rfl rfl) rfl rfl rfl (fun _ => opVal_quiet tyOk rfl) rfl rfl (fun v h' hR => ?_) ?_
          · obtain ⟨b17, rfl, rfl⟩ := hR
            repeat' (first
      | (refine j_go ?_; first
        | refine j_op0 rfl rfl rfl rfl ?_ | (refine j_kCall rfl rfl rfl rfl ?_; first | refine jc (cE2) (LeL.refl _) rfl rfl ?_) | (refine j_kLoad rfl ?_; first | refine j_mload 0 rfl rfl rfl rfl rfl rfl rfl ?_) | (refine j_kGuard rfl ?_; first | (refine (j_if rfl rfl rfl (fun hb => ?_) (fun hb => ?_)) <;> first | (exfalso; omega) | skip)))
      | refine j_nil ?_
      | (refine j_goO ?_; first
        | refine j_op0O rfl rfl rfl rfl ?_ | (refine j_kStoreO rfl ?_; first | refine j_storeNO 0 rfl rfl rfl rfl rfl rfl rfl rfl rfl rfl rfl rfl (by first | (intro _ hk; exact absurd hk List.not_mem_nil) | (intro k hk; simp at hk ⊢; try simp [hk])) ?_))
      | refine j_nilO ?_
      | (refine r_go ?_; first | refine run_seq ?_ | refine run_region ?_ | refine run_ret ?_)
      | refine seqQ_normal ?_)
            all_goals first | exact absurd rfl hb | exact absurd hb (by decide) | exact end1 rfl (by repeat' first | exact List.Sublist.refl _ | refine List.Sublist.cons _ ?_) rfl (.inl rfl) | trace_state
          · skip
            refine j_floatO rfl rfl rfl rfl rfl (alloc_at rfl rfl) rfl rfl rfl (fun _ => opVal_quiet tyOk rfl) rfl rfl (fun v h' hR => ?_) ?_
            · obtain ⟨b17, rfl, rfl⟩ := hR
              repeat' (first
      | (refine j_go ?_; first
        | refine j_op0 rfl rfl rfl rfl ?_ | (refine j_kCall rfl rfl rfl rfl ?_; first | refine jc (cE2) (LeL.refl _) rfl rfl ?_) | (refine j_kLoad rfl ?_; first | refine j_mload 0 rfl rfl rfl rfl rfl rfl rfl ?_) | (refine j_kGuard rfl ?_; first | (refine (j_if rfl rfl rfl (fun hb => ?_) (fun hb => ?_)) <;> first | (exfalso; omega) | skip)))
      | refine j_nil ?_
      | (refine j_goO ?_; first
        | refine j_op0O rfl rfl rfl rfl ?_ | (refine j_kStoreO rfl ?_; first | refine j_storeNO 0 rfl rfl rfl rfl rfl rfl rfl rfl rfl rfl rfl rfl (by first | (intro _ hk; exact absurd hk List.not_mem_nil) | (intro k hk; simp at hk ⊢; try simp [hk])) ?_))
      | refine j_nilO ?_
      | (refine r_go ?_; first | refine run_seq ?_ | refine run_region ?_ | refine run_ret ?_)
      | refine seqQ_normal ?_)
              all_goals first | exact absurd rfl hb | exact absurd hb (by decide) | exact end1 rfl (by repeat' first | exact List.Sublist.refl _ | refine List.Sublist.cons _ ?_) rfl (.inl rfl) | trace_state
            · skip
              refine j_allocO rfl (fun _ hk => nomatch hk) rfl rfl rfl rfl rfl (fun b17 => ?_)
              repeat' (first
      | (refine j_go ?_; first
        | refine j_op0 rfl rfl rfl rfl ?_ | (refine j_kCall rfl rfl rfl rfl ?_; first | refine jc (cE2) (LeL.refl _) rfl rfl ?_) | (refine j_kLoad rfl ?_; first | refine j_mload 0 rfl rfl rfl rfl rfl rfl rfl ?_) | (refine j_kGuard rfl ?_; first | (refine (j_if rfl rfl rfl (fun hb => ?_) (fun hb => ?_)) <;> first | (exfalso; omega) | skip)))
      | refine j_nil ?_
      | (refine j_goO ?_; first
        | refine j_op0O rfl rfl rfl rfl ?_ | (refine j_kStoreO rfl ?_; first | refine j_storeNO 0 rfl rfl rfl rfl rfl rfl rfl rfl rfl rfl rfl rfl (by first | (intro _ hk; exact absurd hk List.not_mem_nil) | (intro k hk; simp at hk ⊢; try simp [hk])) ?_))
      | refine j_nilO ?_
      | (refine r_go ?_; first | refine run_seq ?_ | refine run_region ?_ | refine run_ret ?_)
      | refine seqQ_normal ?_)
              all_goals first | exact absurd rfl hb | exact absurd hb (by decide) | exact end1 rfl (by repeat' first | exact List.Sublist.refl _ | refine List.Sublist.cons _ ?_) rfl (.inl rfl) | trace_state
end Go.Proofs.Ytandldhceabdiaa
