/-
  What grows in a cell: GrowContents of the reference and of the program. No condition.
-/
import Derived.Test.YtandldhceabdiaaZS7w
import Derived.Test.YtandldhceabdiaaZMS
import Derived.Test.YtandldhceabdiaaZG7
import Derived.Test.YtandldhceabdiaaZFE
namespace Go.Proofs.Ytandldhceabdiaa
open Go.AI
set_option maxRecDepth 8000
set_option maxHeartbeats 1600000

def ObjsIn (o : Int) (l : List Int) : Prop := ∀ x ∈ l, 0 ≤ x ∧ x ≤ o - 1
theorem c_l07Objects (o : Int) (l : List Int) (ho : 1 ≤ o ∧ o ≤ 64) : Gives Try.prog 88 [.int o, .sl (l.map Go.AI.encI)] (.raw (.bool (dec (ObjsIn o l)))) := by
  refine fn_of_run tyOk ztOk mix Try.func88 rfl (by decide) Try.ntmps88 (fun w0 h => ?_)
  refine run_len (t := 1) rfl (fun hl => ?_)
  rw [List.length_map] at hl
  repeat' (first
      | (refine j_go ?_; first
        | refine j_op0 rfl rfl rfl rfl ?_)
      | refine j_nil ?_
      | (refine r_go ?_; first | refine run_seq ?_ | refine run_region ?_ | refine run_block ?_)
      | refine seqQ_normal ?_)
  refine run_loop (fun k : Nat => [(0, .int o), (1, .sl (l.map Go.AI.encI)), (5, .int (k : Int))]) (fun _ => _) (fun k => k ≤ l.length ∧ (∀ i (h : i < l.length), i < k → 0 ≤ l[i] ∧ l[i] ≤ o - 1)) (fun k => l.length - k) 0 ⟨rfl, rfl, rfl, trivial⟩ rfl ⟨Nat.zero_le _, by first | (intros; omega) | (simp; done) | rfl | trivial | exact ⟨by simp [sumF], by intros; omega⟩ | exact ⟨by omega, by simp⟩⟩ (fun k ⟨kl, kp⟩ => ?_)
  repeat' (first
      | (refine j_go ?_; first
        | refine j_op0 rfl rfl rfl rfl ?_ | (refine j_kIdx rfl ?_; first | refine j_idx rfl rfl rfl rfl rfl (by omega) rfl rfl rfl ?_) | (refine j_kBin rfl ?_; first | refine j_in rfl rfl ⟨by omega, by omega⟩ rfl rfl ?_) | (refine j_kLen rfl ?_; first | refine j_len rfl rfl rfl rfl rfl rfl ?_) | (refine j_kCall rfl rfl rfl rfl ?_; first | refine jc (c_l00In _ _ _) (LeL.refl _) rfl rfl ?_))
      | refine j_nil ?_
      | (refine r_go ?_; first | refine run_seq ?_ | refine run_region ?_ | (refine (run_if rfl (fun hb => ?_) (fun hb => ?_)) <;> first | (exfalso; omega) | skip) | (refine (run_ifn rfl (fun hb => ?_) (fun hb => ?_)) <;> first | (exfalso; omega) | skip) | refine run_block ?_ | refine run_ret ?_ | refine run_exit ?_ | refine run_skip ?_)
      | refine seqQ_normal ?_ | refine seqQ_ret ?_ | refine seqQ_exit ?_ | refine blockQ_normal ?_ | refine blockQ_ret ?_ | refine blockQ_eq ?_ | refine loopQ_ret ?_ | refine loopQ_exit ?_)
  all_goals first
    | exact end1 rfl (by first | exact List.Sublist.refl _ | exact sub1 | exact sub2 | exact sub3) (rbF (fun q => hb (q _ (List.getElem_mem _)))) (.inl rfl)
    | exact loopQ_nextD (k + 1) ⟨by omega, all_step kp (fun _ => by assumption)⟩ (by omega) (by first | exact List.Sublist.refl _ | exact sub1 | exact sub2 | exact sub3) ⟨rfl, rfl, nx _, trivial⟩
    | exact end1 rfl (by first | exact List.Sublist.refl _ | exact sub1 | exact sub2 | exact sub3) (rbT (fun x hx => by obtain ⟨i, hi, rfl⟩ := List.getElem_of_mem hx; exact kp i hi (by omega))) (.inl rfl)
    | trace_state
open Classical in
noncomputable def cdG (p q r : Prop) : Int := if p then (if q then (if r then 0 else 3) else 2) else 1
theorem cdG_f {p q r : Prop} (h : ¬p) : cdG p q r = 1 := by unfold cdG; rw [if_neg h]
theorem cdG_r {p q r : Prop} (h : p) (h2 : ¬q) : cdG p q r = 2 := by unfold cdG; rw [if_pos h, if_neg h2]
theorem cdG_l {p q r : Prop} (h : p) (h2 : q) (h3 : ¬r) : cdG p q r = 3 := by unfold cdG; rw [if_pos h, if_pos h2, if_neg h3]
theorem cdG_o {p q r : Prop} (h : p) (h2 : q) (h3 : r) : cdG p q r = 0 := by unfold cdG; rw [if_pos h, if_pos h2, if_pos h3]
def GoodG (d : Division) (ch : Int) (l : List Int) : Prop := (-1 ≤ ch ∧ ch ≤ 1) ∧ ObjsIn d.objects l
noncomputable def resGrowContents (d : Division) (ch : Int) (l : List Int) : List Int := lsP (d.Valid ∧ GoodG d ch l ∧ (d.grown 1 ch l).length ≤ 60) (sortI (d.grown 1 ch l))
noncomputable def codeGrowContents (d : Division) (ch : Int) (l : List Int) : Int := cdG d.Valid (GoodG d ch l) ((d.grown 1 ch l).length ≤ 60)
theorem c_sGrowContents (d : Division) (ch : Int) (l : List Int) (hl : l.length ≤ 1048576) : Gives Try.prog 30 [.agg (encDivision d), .int ch, .sl (l.map Go.AI.encI)] (.tup [.sl ((resGrowContents d ch l).map Go.AI.encI), .int (codeGrowContents d ch l)]) := by
  refine fn_of_run tyOk ztOk mix Try.func30 rfl (by decide) Try.ntmps30 (fun w0 h => ?_)
  unfold resGrowContents codeGrowContents
  repeat' (first
      | (refine j_go ?_; first
        | refine j_op0 rfl rfl rfl rfl ?_ | (refine j_kCall rfl rfl rfl rfl ?_; first | refine jc (c_l07Ok _) (LeL.refl _) rfl rfl ?_) | (refine j_kBsl rfl ?_; first | refine j_bs0 rfl rfl rfl rfl rfl rfl ?_) | refine j_box rfl rfl rfl rfl rfl rfl ?_)
      | refine j_nil ?_
      | (refine r_go ?_; first | refine run_seq ?_ | refine run_region ?_ | (refine (run_ifn rfl (fun hb => ?_) (fun hb => ?_)) <;> first | (exfalso; omega) | skip) | refine run_ret ?_ | refine run_skip ?_)
      | refine seqQ_normal ?_ | refine seqQ_ret ?_)
  · exact end_le (List.Sublist.refl _) (.cons (.tmp rfl) (.cons (.tmp rfl) .nil)) (by rw [ls_f (fun q => hb q.1), cdG_f hb]; exact Le.tup (LeL.cons (Le.nil _) (LeL.refl _))) (.inl rfl)
  have hv := hb
  have hd := hv.1
  repeat' (first
      | (refine j_go ?_; first
        | refine j_op0 rfl rfl rfl rfl ?_ | refine j_off rfl rfl rfl ?_ | (refine j_kCall rfl rfl rfl rfl ?_; first | refine jc (c_l07Charge _) (LeL.refl _) rfl rfl ?_ | refine jc (c_l07Objects _ _ hd) (LeL.refl _) rfl rfl ?_) | (refine j_kBsl rfl ?_; first | refine j_bs0 rfl rfl rfl rfl rfl rfl ?_) | (refine j_kGuard rfl ?_; first | (refine (j_ifn rfl rfl rfl (fun hb => ?_) (fun hb => ?_)) <;> first | (exfalso; omega) | skip)))
      | refine j_nil ?_
      | (refine r_go ?_; first | refine run_seq ?_ | refine run_region ?_ | refine run_cond_t rfl ?_ | (refine (run_ifn rfl (fun hb => ?_) (fun hb => ?_)) <;> first | (exfalso; omega) | skip) | refine run_ret ?_ | refine run_skip ?_)
      | refine seqQ_normal ?_ | refine seqQ_ret ?_)
  all_goals first
    | (have hg : ¬ GoodG d ch l := fun q => by first | exact hb q.1 | exact hb q.2
       exact end_le (List.Sublist.refl _) (.cons (.tmp rfl) (.cons (.tmp rfl) .nil)) (by rw [ls_f (fun q => hg q.2.1), cdG_r hv hg]; exact Le.tup (LeL.cons (Le.nil _) (LeL.refl _))) (.inl rfl))
    | skip
  have hg : GoodG d ch l := ⟨by assumption, by assumption⟩
  have gl := grown_len hv (kind := 1) (charge := ch) l
  repeat' (first
      | (refine j_go ?_; first
        | refine j_op0 rfl rfl rfl rfl ?_ | (refine j_kLen rfl ?_; first | refine j_len rfl rfl rfl rfl rfl rfl ?_) | (refine j_kCall rfl rfl rfl rfl ?_; first | refine jc (c_l07Grown d 1 ch l hv (by omega)) (LeL.refl _) rfl rfl ?_ | refine jc (c_l07Sorted d.objects (d.grown 1 ch l) hd (by omega) (grown_rng hv hg.2)) (LeL.refl _) rfl rfl ?_) | (refine j_kBsl rfl ?_; first | refine j_bs0 rfl rfl rfl rfl rfl rfl ?_))
      | refine j_nil ?_
      | (refine r_go ?_; first | refine run_seq ?_ | refine run_region ?_ | (refine (run_if rfl (fun hb => ?_) (fun hb => ?_)) <;> first | (exfalso; omega) | skip) | refine run_ret ?_ | refine run_skip ?_)
      | refine seqQ_normal ?_ | refine seqQ_ret ?_)
  · exact end_le (List.Sublist.refl _) (.cons (.tmp rfl) (.cons (.tmp rfl) .nil)) (by rw [ls_f (fun q => by have := q.2.2; omega), cdG_l hv hg (by omega)]; exact Le.tup (LeL.cons (Le.nil _) (LeL.refl _))) (.inl rfl)
  · exact end2 rfl rfl (List.Sublist.refl _) (by rw [ls_t ⟨hv, hg, by omega⟩, cdG_o hv hg (by omega), srt_sort hd.1 (grown_rng hv hg.2)]; rfl) (.inl rfl)
theorem c_growC1 (d : Division) (x : Int) (hd : 1 ≤ d.objects ∧ d.objects ≤ 64) : Gives Try.prog 82 [.int x, .ip (encDivision d)] (.raw (.bool (dec (¬ (0 ≤ x ∧ x ≤ d.objects - 1))))) := by
  refine fn_of_run tyOk ztOk mix Try.func82 rfl (by decide) Try.ntmps82 (fun w0 h => ?_)
  repeat' (first
      | (refine j_go ?_; first
        | refine j_op0 rfl rfl rfl rfl ?_ | (refine j_kCall rfl rfl rfl rfl ?_; first | refine jc (c_isObject _ _ hd) (LeL.refl _) rfl rfl ?_))
      | refine j_nil ?_
      | (refine r_go ?_; first | refine run_seq ?_ | refine run_region ?_ | refine run_ret ?_)
      | refine seqQ_normal ?_)
  exact end1 rfl (List.Sublist.refl _) (rbN Iff.rfl) (.inl rfl)
theorem objs_iff {o : Int} {l : List Int} : (¬ ∃ x ∈ l, ¬ (0 ≤ x ∧ x ≤ o - 1)) ↔ ObjsIn o l := ⟨fun h x hx => Classical.byContradiction fun q => h ⟨x, hx, q⟩, fun h ⟨x, hx, q⟩ => q (h x hx)⟩
theorem c_iGrowContents (d : Division) (ch : Int) (l : List Int) (hl : l.length ≤ 1048576) : Does Try.prog 29 [.agg (encDivision d), .int ch, .sl (l.map Go.AI.encI)] [] (OwnI (resGrowContents d ch l) (codeGrowContents d ch l)) := by
  refine fn_of_runD tyOk ztOk mix Try.func29 rfl (by decide) Try.ntmps29 (fun w0 F => ?_)
  change Run _ _ _ _ _ F
  unfold resGrowContents codeGrowContents
  repeat' (first
      | (refine j_go ?_; first
        | refine j_op0 rfl rfl rfl rfl ?_ | (refine j_kCall rfl rfl rfl rfl ?_; first | refine jc (c_iValidDivision _) (LeL.refl _) rfl rfl ?_) | refine j_box rfl rfl rfl rfl rfl rfl ?_)
      | refine j_nil ?_
      | (refine r_go ?_; first | refine run_seq ?_ | refine run_region ?_ | (refine (run_ifn rfl (fun hb => ?_) (fun hb => ?_)) <;> first | (exfalso; omega) | skip) | refine run_ret ?_ | refine run_skip ?_)
      | refine seqQ_normal ?_ | refine seqQ_ret ?_)
  · rw [ls_f (fun q => hb q.1), cdG_f hb]
    exact endD_view (view_none 2 0 rfl) (endD_ret (h1 := [_]) rfl (.cons (.tmp rfl) (.cons (.tmp rfl) .nil)) (Le.refl _) ⟨none, 0, rfl, rfl⟩ (.inl rfl))
  have hv := hb
  have hd := hv.1
  repeat' (first
      | (refine j_go ?_; first
        | refine j_op0 rfl rfl rfl rfl ?_ | refine j_off rfl rfl rfl ?_ | (refine j_kCall rfl rfl rfl rfl ?_; first | refine jc (c_isCharge _) (LeL.refl _) rfl rfl ?_ | refine jc (c_cfI _ _ (fun x => ¬ (0 ≤ x ∧ x ≤ d.objects - 1)) l (fun x _ => c_growC1 d x hd)) (LeL.refl _) rfl rfl ?_) | (refine j_kGuard rfl ?_; first | (refine (j_ifn rfl rfl rfl (fun hb => ?_) (fun hb => ?_)) <;> first | (exfalso; omega) | skip)))
      | refine j_nil ?_
      | (refine r_go ?_; first | refine run_seq ?_ | refine run_region ?_ | refine run_cond_t rfl ?_ | (refine (run_if rfl (fun hb => ?_) (fun hb => ?_)) <;> first | (exfalso; omega) | skip) | refine run_ret ?_ | refine run_skip ?_)
      | refine seqQ_normal ?_ | refine seqQ_ret ?_)
  all_goals first
    | (have hg : ¬ GoodG d ch l := fun q => by first | exact hb q.1 | exact (objs_iff.2 q.2) hb
       rw [ls_f (fun q => hg q.2.1), cdG_r hv hg]
       exact endD_view (view_none 2 0 rfl) (endD_ret (h1 := [_]) rfl (.cons (.tmp rfl) (.cons (.tmp rfl) .nil)) (Le.refl _) ⟨none, 0, rfl, rfl⟩ (.inl rfl)))
    | skip
  have hg : GoodG d ch l := ⟨by assumption, objs_iff.1 (by assumption)⟩
  have gl := grown_len hv (kind := 1) (charge := ch) l
  have hsl : (sortI (d.grown 1 ch l)).length = (d.grown 1 ch l).length := List.length_mergeSort _
  refine j_kCall rfl rfl rfl rfl ?_
  refine jcp F (o_grown d 1 ch l hv (by omega)) (List.Perm.refl _) (LeL.refl _) rfl rfl (fun v h1 hR => ?_)
  obtain ⟨b, cp, rfl, rfl⟩ := hR
  refine j_view (view_freeze (g := Go.AI.encI) (z := 1) (ys := d.grown 1 ch l) 0 23 rfl rfl rfl (fun _ => rfl) rfl rfl) ?_
  refine j_kCall rfl rfl rfl rfl ?_
  refine jcp F (o_ordered (d.grown 1 ch l) (by omega)) (List.Perm.refl _) (LeL.refl _) rfl rfl (fun v h1 hR => ?_)
  obtain ⟨b, cp, rfl, rfl⟩ := hR
  repeat' (first
      | (refine j_go ?_; first
        | refine j_op0 rfl rfl rfl rfl ?_ | (refine j_kLen rfl ?_; first | refine j_op rfl rfl rfl rfl ?_))
      | refine j_nil ?_
      | (refine r_go ?_; first | refine run_seq ?_ | refine run_region ?_ | (refine (run_if rfl (fun hb => ?_) (fun hb => ?_)) <;> first | (exfalso; omega) | skip) | refine run_ret ?_ | refine run_skip ?_)
      | refine seqQ_normal ?_ | refine seqQ_ret ?_)
  · rw [ls_f (fun q => by have := q.2.2; omega), cdG_l hv hg (by omega)]
    refine endD_view (view_sub (List.sublist_cons_self _ _)) ?_
    exact endD_view (view_none 2 0 rfl) (endD_ret (h1 := [_]) rfl (.cons (.tmp rfl) (.cons (.tmp rfl) .nil)) (Le.refl _) ⟨none, 0, rfl, rfl⟩ (.inl rfl))
  · rw [ls_t ⟨hv, hg, by omega⟩, cdG_o hv hg (by omega)]
    exact endD_ret (h1 := [_]) rfl (.cons (.tmp rfl) (.cons (.tmp rfl) .nil)) (Le.refl _) ⟨b, cp, rfl, rfl⟩ (.inl rfl)
end Go.Proofs.Ytandldhceabdiaa

/-
  A system of dividing cells that is drawn: it is right, and small. No condition.
-/
namespace Go.Proofs.Ytandldhceabdiaa
open Go.AI
set_option maxRecDepth 8000
set_option maxHeartbeats 3200000

theorem o_among (s : Nat) (code : List UInt8) (at_ : Nat) (sd : Int) (xs : List Int) (lo hi : Int) (ha : at_ ≤ 1000000) (h0 : 0 < xs.length) (hm : xs.length ≤ 100) (hx : ∀ x ∈ xs, lo ≤ x ∧ x ≤ hi) : Does Try.prog 77 [.op (some s) 0, .sl (xs.map Go.AI.encI)] [srcB s code at_ sd] (DrawR s code (at_ + 2) (fun r => lo ≤ r ∧ r ≤ hi)) := by
  refine fn_of_runD tyOk ztOk mix Try.func77 rfl (by decide) Try.ntmps77 (fun w0 F => ?_)
  change Run _ _ _ _ _ (_ :: F)
  repeat' (first
      | (refine j_go ?_; first
        | refine j_op0 rfl rfl rfl rfl ?_ | (refine j_kLen rfl ?_; first | refine j_len rfl rfl rfl rfl rfl rfl ?_))
      | refine j_nil ?_
      | (refine r_go ?_; first | refine run_seq ?_ | refine run_region ?_)
      | refine seqQ_normal ?_)
  refine j_kCall rfl rfl rfl rfl ?_
  refine jcp F (o_pick s code at_ sd xs.length ha (by omega)) (List.Perm.refl _) (LeL.refl _) rfl rfl (fun v h1 hR => ?_)
  obtain ⟨r, a1, sd1, rfl, hr, ha1, rfl⟩ := hR
  have hr2 : r.toNat < xs.length := by omega
  have hg := hx _ (List.getElem_mem hr2)
  repeat' (first
      | (refine j_go ?_; first
        | refine j_op0 rfl rfl rfl rfl ?_ | (refine j_kIdx rfl ?_; first | refine j_idxz rfl rfl rfl rfl rfl ⟨by omega, by omega⟩ rfl rfl rfl ?_))
      | refine j_nil ?_
      | (refine r_go ?_; first | refine run_ret ?_)
      | refine seqQ_normal ?_)
  exact endD_ret (h1 := [_]) rfl (.cons (.tmp rfl) .nil) (Le.refl _) ⟨_, a1, sd1, rfl, hg, ha1, rfl⟩ (.inl rfl)
theorem heap_sort {o : Int} {l : List Int} {m : Int} (h : ∀ x ∈ l, 0 ≤ x ∧ x ≤ o - 1) (hl : (l.length : Int) ≤ m) {k : List Int} (p : k.Perm l) (s : k.Pairwise (fun a b => a ≤ b)) : HeapOf o k m :=
  ⟨fun i hi => ⟨h _ (p.mem_iff.1 (List.getElem_mem hi)), fun h0 => List.pairwise_iff_getElem.1 s (i - 1) i (by omega) hi (by omega)⟩, by rw [p.length_eq]; exact hl⟩
theorem HeapOf.mono {o m m' : Int} {l : List Int} (h : HeapOf o l m) (hm : m ≤ m') : HeapOf o l m' := ⟨h.1, by have := h.2; omega⟩
theorem HeapOf.nil {o m : Int} (hm : 0 ≤ m) : HeapOf o [] m := ⟨fun i hi => absurd hi (Nat.not_lt_zero _), hm⟩
/-- Objects that were drawn, in order. -/
def SomR (s : Nat) (code : List UInt8) (lim : Nat) (o most : Int) : A → Heap → Prop := fun v h' => ∃ l at2 sd, v = .sl (l.map Go.AI.encI) ∧ HeapOf o l most ∧ at2 ≤ lim ∧ h' = [srcB s code at2 sd]
theorem o_l07Some (s : Nat) (code : List UInt8) (at_ : Nat) (sd o most : Int) (ha : at_ ≤ 100000) (ho : 1 ≤ o ∧ o ≤ 64) (hm : 0 ≤ most ∧ most ≤ 4) : Does Try.prog 75 [.op (some s) 0, .int o, .int most] [srcB s code at_ sd] (SomR s code (at_ + 10) o most) := by
  refine fn_of_runD tyOk ztOk mix Try.func75 rfl (by decide) Try.ntmps75 (fun w0 F => ?_)
  change Run _ _ _ _ _ (_ :: F)
  repeat' (first
      | (refine j_go ?_; first
        | refine j_op0 rfl rfl rfl rfl ?_ | (refine j_kBin rfl ?_; first | refine j_in rfl rfl ⟨by omega, by omega⟩ rfl rfl ?_) | (refine j_kBsl rfl ?_; first | refine j_bs0 rfl rfl rfl rfl rfl rfl ?_))
      | refine j_nil ?_
      | (refine r_go ?_; first | refine run_seq ?_ | refine run_region ?_)
      | refine seqQ_normal ?_)
  refine j_kCall rfl rfl rfl rfl ?_
  refine jcp F (o_pick s code at_ sd (most + 1) (by omega) (by omega)) (List.Perm.refl _) (LeL.refl _) rfl rfl (fun v h1 hR => ?_)
  obtain ⟨r, a1, sd1, rfl, hr, ha1, rfl⟩ := hR
  repeat' (first
      | (refine j_go ?_; first
        | refine j_op0 rfl rfl rfl rfl ?_)
      | refine j_nil ?_
      | (refine r_go ?_; first | refine run_block ?_)
      | refine seqQ_normal ?_)
  refine run_view (view_none 2 (0 * 1) rfl) ?_
  refine run_loop (fun x : Int × List Int × Option Nat × Nat × Nat × Int => [(0, .op (some s) 0), (1, .int o), (7, .os x.2.2.1 x.2.1.length x.2.2.2.1), (8, .int x.1)]) (fun x => ⟨x.2.2.1, 2, x.2.2.2.1 * 1, (x.2.1.map Go.AI.encI).flatten⟩ :: srcB s code x.2.2.2.2.1 x.2.2.2.2.2 :: F)
    (fun x => (0 ≤ x.1 ∧ x.1 ≤ most) ∧ (x.2.1.length : Int) + x.1 ≤ most ∧ (∀ y ∈ x.2.1, 0 ≤ y ∧ y ≤ o - 1) ∧ (x.2.2.2.2.1 : Int) ≤ at_ + 2 + 2 * (most - x.1)) (fun x => x.1.toNat) (r, [], none, 0, a1, sd1) ⟨rfl, rfl, rfl, rfl, trivial⟩ rfl ⟨by dsimp only; omega, by dsimp only [List.length_nil]; omega, by simp, by dsimp only; omega⟩ (fun ⟨i, l, b, cap, a, sd⟩ ⟨hi, hl, hy, hA⟩ => ?_)
  dsimp only at hi hl hy hA ⊢
  by_cases h0 : 0 < i
  case pos =>
    repeat' (first
      | (refine j_go ?_; first
        | refine j_op0 rfl rfl rfl rfl ?_)
      | refine j_nil ?_
      | (refine r_go ?_; first | refine run_seq ?_ | refine run_region ?_ | (refine (run_if rfl (fun hb => ?_) (fun hb => ?_)) <;> first | (exfalso; omega) | skip) | refine run_block ?_ | refine run_skip ?_)
      | refine seqQ_normal ?_)
    refine j_kCall rfl rfl rfl rfl ?_
    refine jcp (_ :: F) (o_pick s code a sd o (by omega) (by omega)) (List.Perm.swap _ _ _) (LeL.refl _) rfl rfl (fun v h1 hR => ?_)
    obtain ⟨r2, a2, sd2, rfl, hr2, ha2, rfl⟩ := hR
    repeat' (first
      | (refine j_go ?_; first
        | (refine j_kBsl rfl ?_; first | refine j_bsl rfl rfl rfl rfl rfl rfl rfl rfl rfl rfl rfl ?_)))
    refine j_append 1 (g := Go.AI.encI) (ys := l) [r2] rfl rfl rfl rfl rfl rfl rfl rfl rfl rfl rfl rfl (fun _ => rfl) (fun _ _ => rfl) ⟨by simp only [List.length_cons, List.length_nil]; omega, by simp only [List.length_cons, List.length_nil]; omega⟩ rfl rfl (fun b' cap' => ?_)
    repeat' (first
      | (refine j_go ?_; first
        | refine j_op0 rfl rfl rfl rfl ?_ | (refine j_kBin rfl ?_; first | refine j_in rfl rfl ⟨by omega, by omega⟩ rfl rfl ?_))
      | refine j_nil ?_
      | (refine r_go ?_; first | refine run_region ?_)
      | refine seqQ_normal ?_ | refine blockQ_normal ?_)
    have ln : (l ++ [r2]).length = l.length + 1 := by rw [List.length_append]; rfl
    refine loopQ_view (view_perm (List.Perm.swap _ _ _)) ?_
    exact loopQ_next (i - 1, l ++ [r2], b', cap', a2, sd2) ⟨by dsimp only; omega, by dsimp only; omega, fun y h => by
      rcases List.mem_append.1 h with h | h
      · exact hy y h
      · rw [List.mem_singleton] at h; subst h; omega, by dsimp only; omega⟩ (by dsimp only; omega) rfl ⟨rfl, rfl, rfl, rfl, trivial⟩
  obtain rfl : i = 0 := by omega
  refine run_view (view_freeze (g := Go.AI.encI) (z := 1) (ys := l) 0 7 rfl rfl rfl (fun _ => rfl) rfl rfl) ?_
  have cS := c_l07Sorted o l ho (by omega) hy
  rw [srt_sort ho.1 hy] at cS
  repeat' (first
      | (refine j_go ?_; first
        | refine j_op0 rfl rfl rfl rfl ?_ | (refine j_kCall rfl rfl rfl rfl ?_; first | refine jc (cS) (LeL.refl _) rfl rfl ?_))
      | refine j_nil ?_
      | (refine r_go ?_; first | refine run_seq ?_ | refine run_region ?_ | (refine (run_if rfl (fun hb => ?_) (fun hb => ?_)) <;> first | (exfalso; omega) | skip) | refine run_ret ?_ | refine run_exit ?_)
      | refine seqQ_normal ?_ | refine seqQ_exit ?_ | refine blockQ_eq ?_ | refine loopQ_exit ?_)
  exact endD_ret (h1 := [_]) rfl (.cons (.tmp rfl) .nil) (Le.refl _) ⟨sortI l, a, sd, rfl, heap_sort hy (by omega) (sortI_perm l) (sortI_sorted l), by omega, rfl⟩ (.inl rfl)
/-- A rule that was drawn. -/
def RulR (s : Nat) (code : List UInt8) (lim : Nat) (o : Int) : A → Heap → Prop := fun v h' => ∃ (r : DivRule) (at2 : Nat) (sd : Int), v = .agg (encDivRule r) ∧ (r.Ok o ∧ r.first.length ≤ 2 ∧ r.second.length ≤ 2) ∧ at2 ≤ lim ∧ h' = [srcB s code at2 sd]
theorem o_l07DrawRule (s : Nat) (code : List UInt8) (at_ : Nat) (sd o : Int) (ha : at_ ≤ 10000) (ho : 1 ≤ o ∧ o ≤ 64) : Does Try.prog 139 [.op (some s) 0, .int o] [srcB s code at_ sd] (RulR s code (at_ + 100) o) := by
  refine fn_of_runD tyOk ztOk mix Try.func139 rfl (by decide) Try.ntmps139 (fun w0 F => ?_)
  change Run _ _ _ _ _ (_ :: F)
  repeat' (first
      | (refine j_go ?_; first
        | refine j_op0 rfl rfl rfl rfl ?_ | refine j_alloc rfl rfl rfl rfl rfl (fun _ => ?_))
      | refine j_nil ?_
      | (refine r_go ?_; first | refine run_seq ?_ | refine run_region ?_)
      | refine seqQ_normal ?_)
  refine j_kCall rfl rfl rfl rfl ?_
  refine jcp (_ :: F) (o_pick s code at_ sd 7 (by omega) (by omega)) (List.Perm.swap _ _ _) (LeL.refl _) rfl rfl (fun v h1 hR => ?_)
  obtain ⟨r, a1, sd1, rfl, hr, ha1, rfl⟩ := hR
  repeat' (first
      | (refine j_go ?_; first
        | refine j_op0 rfl rfl rfl rfl ?_ | (refine j_kBin rfl ?_; first | refine j_in rfl rfl ⟨by omega, by omega⟩ rfl rfl ?_)))
  refine j_kCall rfl rfl rfl rfl ?_
  refine jcp (_ :: F) (o_pick s code a1 sd1 o (by omega) (by omega)) (List.Perm.refl _) (LeL.refl _) rfl rfl (fun v h1 hR => ?_)
  obtain ⟨r2, a2, sd2, rfl, hr2, ha2, rfl⟩ := hR
  repeat' (first
      | (refine j_go ?_; first
        | refine j_op0 rfl rfl rfl rfl ?_ | (refine j_kStore rfl ?_; first | refine j_storeN 0 rfl rfl rfl rfl rfl rfl rfl rfl rfl rfl rfl ?_) | refine j_build rfl rfl rfl rfl rfl rfl rfl ?_ | refine j_alloc rfl rfl rfl rfl rfl (fun _ => ?_))
      | refine j_nil ?_
      | (refine r_go ?_; first | refine run_seq ?_ | refine run_region ?_)
      | refine seqQ_normal ?_)
  refine j_kCall rfl rfl rfl rfl ?_
  refine jcp (_ :: _ :: F) (o_one s code a2 sd2 3 (by omega) (by omega)) (List.Perm.swap _ _ _) (LeL.refl _) rfl rfl (fun v h1 hR => ?_)
  obtain ⟨b, a3, sd3, rfl, ha3, rfl⟩ := hR
  have fin : True := trivial
  cases b with
  | true =>
    repeat' (first
      | (refine j_go ?_; first
        | refine j_op0 rfl rfl rfl rfl ?_ | (refine j_kStore rfl ?_; first | refine j_store 1 rfl rfl rfl rfl rfl rfl rfl rfl rfl rfl rfl ?_))
      | refine j_nil ?_
      | (refine r_go ?_; first | refine run_seq ?_ | refine run_region ?_ | refine run_cond_t rfl ?_)
      | refine seqQ_normal ?_)
    refine j_kCall rfl rfl rfl rfl ?_
    refine jcp (_ :: _ :: F) (o_l07Some s code a3 sd3 o 2 (by omega) ho (by omega)) (List.Perm.refl _) (LeL.refl _) rfl rfl (fun v h1 hR => ?_)
    obtain ⟨l1, a4, sd4, rfl, hl1, ha4, rfl⟩ := hR
    repeat' (first
      | (refine j_go ?_; first
        | refine j_op0 rfl rfl rfl rfl ?_ | (refine j_kLoad rfl ?_; first | refine j_mload 1 rfl rfl rfl rfl rfl rfl rfl ?_) | (refine j_kStore rfl ?_; first | refine j_store 1 rfl rfl rfl rfl rfl rfl rfl rfl rfl rfl rfl ?_) | (refine j_kBsl rfl ?_; first | refine j_bsl rfl rfl rfl rfl rfl rfl rfl rfl rfl rfl rfl ?_))
      | refine j_nil ?_
      | (refine r_go ?_; first | refine run_seq ?_ | refine run_region ?_ | (refine (run_ifn rfl (fun hb => ?_) (fun hb => ?_)) <;> first | (exfalso; omega) | skip))
      | refine seqQ_normal ?_)
    refine j_kCall rfl rfl rfl rfl ?_
    refine jcp (_ :: _ :: F) (o_among s code a4 sd4 [0, 0, 0, 1, -1] (-1) 1 (by omega) (by decide) (by decide) (by decide)) (List.Perm.refl _) (LeL.refl _) rfl rfl (fun v h1 hR => ?_)
    obtain ⟨c1, a5, sd5, rfl, hc1, ha5, rfl⟩ := hR
    repeat' (first
      | (refine j_go ?_; first
        | refine j_op0 rfl rfl rfl rfl ?_ | (refine j_kCall rfl rfl rfl rfl ?_; first | refine jc (c_l00In _ _ _) (LeL.refl _) rfl rfl ?_) | (refine j_kLoad rfl ?_; first | refine j_mload 1 rfl rfl rfl rfl rfl rfl rfl ?_) | (refine j_kStore rfl ?_; first | refine j_store 1 rfl rfl rfl rfl rfl rfl rfl rfl rfl rfl rfl ?_ | refine j_storeN 2 rfl rfl rfl rfl rfl rfl rfl rfl rfl rfl rfl ?_))
      | refine j_nil ?_
      | (refine r_go ?_; first | refine run_seq ?_ | refine run_region ?_ | (refine (run_if rfl (fun hb => ?_) (fun hb => ?_)) <;> first | (exfalso; omega) | skip) | refine run_ret ?_ | refine run_skip ?_)
      | refine seqQ_normal ?_)
    have l2 := hl1.2
    refine endD_view (view_freezeP 2 4 rfl rfl) (endD_view (view_sub (List.Sublist.cons_cons _ (List.sublist_cons_self _ _))) ?_)
    exact endD_ret (h1 := [_]) rfl (.cons (.cellI rfl rfl) .nil) (Le.agg (by repeat' first | exact LeL.nil | refine LeL.cons ?_ ?_ | exact Le.refl _ | exact Le.nil _)) ⟨⟨1, c1, r2, 0, l1, 0, []⟩, a5, sd5, rfl, ⟨⟨by dsimp only; omega, by dsimp only; omega, hc1, by dsimp only; omega, by dsimp only; omega, hl1.mono (by omega), HeapOf.nil (by omega), fun q => by dsimp only at q; omega, fun _ => rfl, .inr ⟨rfl, rfl⟩⟩, by dsimp only; omega, by dsimp only [List.length_nil]; omega⟩, by omega, rfl⟩ (.inl rfl)
  | false =>
    repeat' (first
      | (refine j_go ?_; first
        | refine j_op0 rfl rfl rfl rfl ?_)
      | refine j_nil ?_
      | (refine r_go ?_; first | refine run_seq ?_ | refine run_region ?_ | refine run_cond_f rfl ?_ | refine run_skip ?_)
      | refine seqQ_normal ?_)
    refine j_kCall rfl rfl rfl rfl ?_
    refine jcp (_ :: _ :: F) (o_l07Some s code a3 sd3 o 2 (by omega) ho (by omega)) (List.Perm.refl _) (LeL.refl _) rfl rfl (fun v h1 hR => ?_)
    obtain ⟨l1, a4, sd4, rfl, hl1, ha4, rfl⟩ := hR
    have l2 := hl1.2
    by_cases k2 : 1 + r = 2
    · repeat' (first
      | (refine j_go ?_; first
        | refine j_op0 rfl rfl rfl rfl ?_ | (refine j_kCall rfl rfl rfl rfl ?_; first | refine jc (c_l00In _ _ _) (LeL.refl _) rfl rfl ?_) | (refine j_kLoad rfl ?_; first | refine j_mload 1 rfl rfl rfl rfl rfl rfl rfl ?_) | (refine j_kStore rfl ?_; first | refine j_store 1 rfl rfl rfl rfl rfl rfl rfl rfl rfl rfl rfl ?_ | refine j_storeN 2 rfl rfl rfl rfl rfl rfl rfl rfl rfl rfl rfl ?_))
      | refine j_nil ?_
      | (refine r_go ?_; first | refine run_seq ?_ | refine run_region ?_ | (refine (run_if rfl (fun hb => ?_) (fun hb => ?_)) <;> first | (exfalso; omega) | skip) | (refine (run_ifn rfl (fun hb => ?_) (fun hb => ?_)) <;> first | (exfalso; omega) | skip) | refine run_ret ?_ | refine run_skip ?_)
      | refine seqQ_normal ?_)
      refine endD_view (view_freezeP 2 4 rfl rfl) (endD_view (view_sub (List.Sublist.cons_cons _ (List.sublist_cons_self _ _))) ?_)
      exact endD_ret (h1 := [_]) rfl (.cons (.cellI rfl rfl) .nil) (Le.agg (by repeat' first | exact LeL.nil | refine LeL.cons ?_ ?_ | exact Le.refl _ | exact Le.nil _)) ⟨⟨1 + r, 0, r2, 0, l1, 0, []⟩, a4, sd4, rfl, ⟨⟨by dsimp only; omega, by dsimp only; omega, by dsimp only; omega, by dsimp only; omega, by dsimp only; omega, hl1.mono (by omega), HeapOf.nil (by omega), fun _ => rfl, fun _ => rfl, .inr ⟨rfl, rfl⟩⟩, by dsimp only; omega, by dsimp only [List.length_nil]; omega⟩, by omega, rfl⟩ (.inl rfl)
    repeat' (first
      | (refine j_go ?_; first
        | refine j_op0 rfl rfl rfl rfl ?_ | (refine j_kLoad rfl ?_; first | refine j_mload 1 rfl rfl rfl rfl rfl rfl rfl ?_) | (refine j_kStore rfl ?_; first | refine j_store 1 rfl rfl rfl rfl rfl rfl rfl rfl rfl rfl rfl ?_) | (refine j_kBsl rfl ?_; first | refine j_bsl rfl rfl rfl rfl rfl rfl rfl rfl rfl rfl rfl ?_))
      | refine j_nil ?_
      | (refine r_go ?_; first | refine run_seq ?_ | refine run_region ?_ | (refine (run_ifn rfl (fun hb => ?_) (fun hb => ?_)) <;> first | (exfalso; omega) | skip))
      | refine seqQ_normal ?_)
    refine j_kCall rfl rfl rfl rfl ?_
    refine jcp (_ :: _ :: F) (o_among s code a4 sd4 [0, 0, 0, 1, -1] (-1) 1 (by omega) (by decide) (by decide) (by decide)) (List.Perm.refl _) (LeL.refl _) rfl rfl (fun v h1 hR => ?_)
    obtain ⟨c1, a5, sd5, rfl, hc1, ha5, rfl⟩ := hR
    by_cases k36 : 3 ≤ 1 + r ∧ 1 + r ≤ 6
    case neg =>
      repeat' (first
      | (refine j_go ?_; first
        | refine j_op0 rfl rfl rfl rfl ?_ | (refine j_kCall rfl rfl rfl rfl ?_; first | refine jc (c_l00In _ _ _) (LeL.refl _) rfl rfl ?_) | (refine j_kLoad rfl ?_; first | refine j_mload 1 rfl rfl rfl rfl rfl rfl rfl ?_) | (refine j_kStore rfl ?_; first | refine j_store 1 rfl rfl rfl rfl rfl rfl rfl rfl rfl rfl rfl ?_ | refine j_storeN 2 rfl rfl rfl rfl rfl rfl rfl rfl rfl rfl rfl ?_))
      | refine j_nil ?_
      | (refine r_go ?_; first | refine run_seq ?_ | refine run_region ?_ | (refine (run_if rfl (fun hb => ?_) (fun hb => ?_)) <;> first | (exfalso; omega) | skip) | refine run_ret ?_ | refine run_skip ?_)
      | refine seqQ_normal ?_)
      refine endD_view (view_freezeP 2 4 rfl rfl) (endD_view (view_sub (List.Sublist.cons_cons _ (List.sublist_cons_self _ _))) ?_)
      exact endD_ret (h1 := [_]) rfl (.cons (.cellI rfl rfl) .nil) (Le.agg (by repeat' first | exact LeL.nil | refine LeL.cons ?_ ?_ | exact Le.refl _ | exact Le.nil _)) ⟨⟨1 + r, c1, r2, 0, l1, 0, []⟩, a5, sd5, rfl, ⟨⟨by dsimp only; omega, by dsimp only; omega, hc1, by dsimp only; omega, by dsimp only; omega, hl1.mono (by omega), HeapOf.nil (by omega), fun q => absurd q k2, fun _ => rfl, .inr ⟨rfl, rfl⟩⟩, by dsimp only; omega, by dsimp only [List.length_nil]; omega⟩, by omega, rfl⟩ (.inl rfl)
    repeat' (first
      | (refine j_go ?_; first
        | refine j_op0 rfl rfl rfl rfl ?_ | (refine j_kCall rfl rfl rfl rfl ?_; first | refine jc (c_l00In _ _ _) (LeL.refl _) rfl rfl ?_) | (refine j_kLoad rfl ?_; first | refine j_mload 1 rfl rfl rfl rfl rfl rfl rfl ?_) | (refine j_kStore rfl ?_; first | refine j_store 1 rfl rfl rfl rfl rfl rfl rfl rfl rfl rfl rfl ?_) | (refine j_kBsl rfl ?_; first | refine j_bsl rfl rfl rfl rfl rfl rfl rfl rfl rfl rfl rfl ?_))
      | refine j_nil ?_
      | (refine r_go ?_; first | refine run_seq ?_ | refine run_region ?_ | (refine (run_if rfl (fun hb => ?_) (fun hb => ?_)) <;> first | (exfalso; omega) | skip))
      | refine seqQ_normal ?_)
    refine j_kCall rfl rfl rfl rfl ?_
    refine jcp (_ :: _ :: F) (o_among s code a5 sd5 [0, 0, 1, -1] (-1) 1 (by omega) (by decide) (by decide) (by decide)) (List.Perm.refl _) (LeL.refl _) rfl rfl (fun v h1 hR => ?_)
    obtain ⟨c2, a6, sd6, rfl, hc2, ha6, rfl⟩ := hR
    by_cases k6 : 1 + r = 6
    case neg =>
      repeat' (first
      | (refine j_go ?_; first
        | refine j_op0 rfl rfl rfl rfl ?_ | (refine j_kLoad rfl ?_; first | refine j_mload 1 rfl rfl rfl rfl rfl rfl rfl ?_) | (refine j_kStore rfl ?_; first | refine j_store 1 rfl rfl rfl rfl rfl rfl rfl rfl rfl rfl rfl ?_ | refine j_storeN 2 rfl rfl rfl rfl rfl rfl rfl rfl rfl rfl rfl ?_))
      | refine j_nil ?_
      | (refine r_go ?_; first | refine run_seq ?_ | refine run_region ?_ | (refine (run_if rfl (fun hb => ?_) (fun hb => ?_)) <;> first | (exfalso; omega) | skip) | refine run_ret ?_ | refine run_skip ?_)
      | refine seqQ_normal ?_)
      refine endD_view (view_freezeP 2 4 rfl rfl) (endD_view (view_sub (List.Sublist.cons_cons _ (List.sublist_cons_self _ _))) ?_)
      exact endD_ret (h1 := [_]) rfl (.cons (.cellI rfl rfl) .nil) (Le.agg (by repeat' first | exact LeL.nil | refine LeL.cons ?_ ?_ | exact Le.refl _ | exact Le.nil _)) ⟨⟨1 + r, c1, r2, c2, l1, 0, []⟩, a6, sd6, rfl, ⟨⟨by dsimp only; omega, by dsimp only; omega, hc1, hc2, by dsimp only; omega, hl1.mono (by omega), HeapOf.nil (by omega), fun q => absurd q k2, fun q => by dsimp only at q; omega, .inr ⟨rfl, rfl⟩⟩, by dsimp only; omega, by dsimp only [List.length_nil]; omega⟩, by omega, rfl⟩ (.inl rfl)
    repeat' (first
      | (refine j_go ?_; first
        | refine j_op0 rfl rfl rfl rfl ?_ | (refine j_kLoad rfl ?_; first | refine j_mload 1 rfl rfl rfl rfl rfl rfl rfl ?_) | (refine j_kStore rfl ?_; first | refine j_store 1 rfl rfl rfl rfl rfl rfl rfl rfl rfl rfl rfl ?_) | (refine j_kBsl rfl ?_; first | refine j_bsl rfl rfl rfl rfl rfl rfl rfl rfl rfl rfl rfl ?_))
      | refine j_nil ?_
      | (refine r_go ?_; first | refine run_seq ?_ | refine run_region ?_ | (refine (run_if rfl (fun hb => ?_) (fun hb => ?_)) <;> first | (exfalso; omega) | skip))
      | refine seqQ_normal ?_)
    refine j_kCall rfl rfl rfl rfl ?_
    refine jcp (_ :: _ :: F) (o_among s code a6 sd6 [0, 0, 1, -1] (-1) 1 (by omega) (by decide) (by decide) (by decide)) (List.Perm.refl _) (LeL.refl _) rfl rfl (fun v h1 hR => ?_)
    obtain ⟨c3, a7, sd7, rfl, hc3, ha7, rfl⟩ := hR
    repeat' (first
      | (refine j_go ?_; first
        | refine j_op0 rfl rfl rfl rfl ?_ | (refine j_kStore rfl ?_; first | refine j_store 1 rfl rfl rfl rfl rfl rfl rfl rfl rfl rfl rfl ?_))
      | refine j_nil ?_
      | (refine r_go ?_; first | refine run_region ?_)
      | refine seqQ_normal ?_)
    refine j_kCall rfl rfl rfl rfl ?_
    refine jcp (_ :: _ :: F) (o_l07Some s code a7 sd7 o 2 (by omega) ho (by omega)) (List.Perm.refl _) (LeL.refl _) rfl rfl (fun v h1 hR => ?_)
    obtain ⟨l3, a8, sd8, rfl, hl3, ha8, rfl⟩ := hR
    have l4 := hl3.2
    repeat' (first
      | (refine j_go ?_; first
        | refine j_op0 rfl rfl rfl rfl ?_ | (refine j_kLoad rfl ?_; first | refine j_mload 1 rfl rfl rfl rfl rfl rfl rfl ?_) | (refine j_kStore rfl ?_; first | refine j_store 1 rfl rfl rfl rfl rfl rfl rfl rfl rfl rfl rfl ?_ | refine j_storeN 2 rfl rfl rfl rfl rfl rfl rfl rfl rfl rfl rfl ?_))
      | refine j_nil ?_
      | (refine r_go ?_; first | refine run_seq ?_ | refine run_region ?_ | refine run_ret ?_)
      | refine seqQ_normal ?_)
    refine endD_view (view_freezeP 2 4 rfl rfl) (endD_view (view_sub (List.Sublist.cons_cons _ (List.sublist_cons_self _ _))) ?_)
    exact endD_ret (h1 := [_]) rfl (.cons (.cellI rfl rfl) .nil) (Le.agg (by repeat' first | exact LeL.nil | refine LeL.cons ?_ ?_ | exact Le.refl _ | exact Le.nil _)) ⟨⟨1 + r, c1, r2, c2, l1, c3, l3⟩, a8, sd8, rfl, ⟨⟨by dsimp only; omega, by dsimp only; omega, hc1, hc2, hc3, hl1.mono (by omega), hl3.mono (by omega), fun q => absurd q k2, fun q => by dsimp only at q; omega, .inl k6⟩, by dsimp only; omega, by dsimp only; omega⟩, by omega, rfl⟩ (.inl rfl)
end Go.Proofs.Ytandldhceabdiaa
