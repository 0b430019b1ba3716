/-
  Passing systems: all choices of a mode, by the reference. No condition.
-/
import Derived.Test.YtbpmmdecaonopaaGreatZS6e
import Derived.Test.YtbpmmdecaonopaaGreatZJN
namespace Go.Proofs.YtbpmmdecaonopaaGreat
open Go.AI
set_option maxRecDepth 8000
set_option maxHeartbeats 1600000

theorem c_l06Mode (m : Int) : Gives Tryz.prog 58 [.int m] (.raw (.bool (dec (1 ≤ m ∧ m ≤ 3)))) := by
  refine fn_of_run tyOk ztOk mix Tryz.func58 rfl (by decide) Tryz.ntmps58 (fun w0 h => ?_)
  repeat' (first
      | (refine j_go ?_; first
        | refine j_op0 rfl rfl rfl rfl ?_ | (refine j_kCall rfl rfl rfl rfl ?_; first | refine jc (c_l00In _ _ _) (LeL.refl _) rfl rfl ?_))
      | refine j_nil ?_
      | (refine r_go ?_; first | refine run_seq ?_ | refine run_region ?_ | refine run_ret ?_)
      | refine seqQ_normal ?_)
  exact end1 rfl (List.Sublist.refl _) (rfl) (.inl rfl)
theorem c_l06Busy (p : Passing) (cs : List Int) (k : Nat) (hv : p.Ok) (hc : cs.length = p.rules.length) (hk : k < p.rules.length) : Gives Tryz.prog 117 [.ip (encPassing p), .sl (cs.map Go.AI.encI), .int (k : Int)] (.raw (.bool (dec (p.busyC cs p.rules[k].cell)))) := by
  refine fn_of_run tyOk ztOk mix Tryz.func117 rfl (by decide) Tryz.ntmps117 (fun w0 h => ?_)
  have h8 := hv.1.2.2.2.2.1
  repeat' (first
      | (refine j_go ?_; first
        | refine j_op0 rfl rfl rfl rfl ?_)
      | refine j_nil ?_
      | (refine r_go ?_; first | refine run_seq ?_ | refine run_region ?_ | refine run_block ?_)
      | refine seqQ_normal ?_)
  refine run_loop (fun i : Nat => [(0, .ip (encPassing p)), (1, .sl (cs.map Go.AI.encI)), (2, .int (k : Int)), (7, .int (i : Int))]) (fun _ => _) (fun i => i ≤ cs.length ∧ (∀ j (h : j < p.rules.length) (h2 : j < cs.length), j < i → ¬ (0 < cs[j] ∧ p.rules[j].cell = p.rules[k].cell))) (fun i => cs.length - i) 0 ⟨rfl, rfl, rfl, rfl, trivial⟩ rfl ⟨Nat.zero_le _, by first | (intros; omega) | (simp; done) | rfl | trivial | exact ⟨by simp [sumF], by intros; omega⟩ | exact ⟨by omega, by simp⟩⟩ (fun i ⟨il, ip⟩ => ?_)
  by_cases hi : i < cs.length
  · have hir : i < p.rules.length := by omega
    repeat' (first
      | (refine j_go ?_; first
        | refine j_op0 rfl rfl rfl rfl ?_ | refine j_off rfl rfl rfl ?_ | (refine j_kIdx rfl ?_; first | refine j_idx rfl rfl rfl rfl rfl (by omega) rfl rfl rfl ?_) | (refine j_kBin rfl ?_; first | refine j_in rfl rfl ⟨by omega, by omega⟩ rfl rfl ?_) | (refine j_kLen rfl ?_; first | refine j_len rfl rfl rfl rfl rfl rfl ?_) | (refine j_kGuard rfl ?_; first | (refine (j_if rfl rfl rfl (fun hb => ?_) (fun hb => ?_)) <;> first | (exfalso; omega) | skip)))
      | refine j_nil ?_
      | (refine r_go ?_; first | refine run_seq ?_ | refine run_region ?_ | refine run_cond_f rfl ?_ | (refine (run_if rfl (fun hb => ?_) (fun hb => ?_)) <;> first | (exfalso; omega) | skip) | refine run_block ?_ | refine run_ret ?_ | refine run_skip ?_ | refine run_regionD (by kernel_rfl) ?_)
      | refine seqQ_normal ?_ | refine seqQ_ret ?_ | refine blockQ_normal ?_ | refine blockQ_ret ?_ | refine loopQ_ret ?_)
    all_goals first
      | exact end1 rfl (by first | exact List.Sublist.refl _ | exact sub1 | exact sub2 | exact sub3) (rbT (⟨i, hir, hi, by assumption, by assumption⟩)) (.inl rfl)
      | exact loopQ_nextD (i + 1) ⟨by omega, fun j h h2 hj => by
          rcases Nat.lt_or_eq_of_le (Nat.le_of_lt_succ hj) with q | rfl
          · exact ip j h h2 q
          · exact fun z => by first | exact absurd z.1 (by assumption) | exact absurd z.2 (by assumption)⟩ (by omega) (by first | exact List.Sublist.refl _ | exact sub1 | exact sub2 | exact sub3) ⟨rfl, rfl, rfl, nx _, trivial⟩
      | trace_state
  · repeat' (first
      | (refine j_go ?_; first
        | refine j_op0 rfl rfl rfl rfl ?_ | (refine j_kLen rfl ?_; first | refine j_len rfl rfl rfl rfl rfl rfl ?_))
      | refine j_nil ?_
      | (refine r_go ?_; first | refine run_seq ?_ | refine run_region ?_ | (refine (run_if rfl (fun hb => ?_) (fun hb => ?_)) <;> first | (exfalso; omega) | skip) | refine run_ret ?_ | refine run_exit ?_)
      | refine seqQ_normal ?_ | refine seqQ_exit ?_ | refine blockQ_eq ?_ | refine loopQ_exit ?_)
    exact end1 rfl (by first | exact List.Sublist.refl _ | exact sub1 | exact sub2 | exact sub3) (rbF (fun ⟨j, h, h2, q1, q2⟩ => ip j h h2 (by omega) ⟨q1, q2⟩)) (.inl rfl)
theorem o_own6 (l : List Int) (hn : l.length ≤ 1000000) : Does Tryz.prog 82 [.sl (l.map Go.AI.encI)] [] (OwnL l) := by
  refine fn_of_runD tyOk ztOk mix Tryz.func82 rfl (by decide) Tryz.ntmps82 (fun w0 F => ?_)
  change Run _ _ _ _ _ F
  repeat' (first
      | (refine j_go ?_; first
        | refine j_op0 rfl rfl rfl rfl ?_ | (refine j_kBsl rfl ?_; first | refine j_bs0 rfl rfl rfl rfl rfl rfl ?_))
      | refine j_nil ?_
      | (refine r_go ?_; first | refine run_seq ?_ | refine run_region ?_)
      | refine seqQ_normal ?_)
  refine j_append0 (g := Go.AI.encI) l rfl rfl rfl rfl rfl rfl rfl rfl (fun _ => rfl) (fun _ _ => rfl) ⟨by omega, by omega⟩ rfl rfl (fun b' cap' => ?_)
  repeat' (first
      | (refine j_go ?_; first
        | refine j_op0 rfl rfl rfl rfl ?_)
      | refine j_nil ?_
      | (refine r_go ?_; first | refine run_ret ?_)
      | refine seqQ_normal ?_)
  exact endD_ret (h1 := [_]) rfl (.cons (.tmp rfl) .nil) (Le.refl _) ⟨b', cap', rfl, rfl⟩ (.inl rfl)
theorem c_l06Room (p : Passing) (L : List (List Int)) (cs : List Int) (k : Nat) (hv : p.Ok) (hk : k < p.rules.length) (hkc : k < cs.length) (hL : Sh (p.parents.length + 1) p.kinds.toNat L 1000000000) (h0 : Nn L) : Gives Tryz.prog 118 [.ip (encPassing p), .sl (L.flatten.map Go.AI.encI), .sl (cs.map Go.AI.encI), .int (k : Int)] (.raw (.bool (dec (cs[k] < 1000 ∧ Nn (p.tk p.rules[k] 1 L))))) := by
  refine fn_of_run tyOk ztOk mix Tryz.func118 rfl (by decide) Tryz.ntmps118 (fun w0 h => ?_)
  have h8 := hv.1.2.2.2.2.1
  obtain ⟨K, own, up, f⟩ := flF hv (List.getElem_mem hk) hL
  have lb := f.b
  repeat' (first
      | (refine j_go ?_; first
        | refine j_op0 rfl rfl rfl rfl ?_)
      | refine j_nil ?_
      | (refine j_goO ?_; first
        | refine j_op0O rfl rfl rfl rfl ?_ | refine j_offO rfl rfl rfl ?_ | (refine j_kIdxO rfl ?_; first | refine j_idxO rfl rfl rfl rfl rfl (by omega) rfl rfl rfl ?_) | (refine j_kGuardO rfl ?_; first | (refine (j_ifO rfl rfl rfl (fun hb => ?_) (fun hb => ?_)) <;> first | (exfalso; omega) | skip)))
      | refine j_nilO ?_
      | (refine r_go ?_; first | refine run_seq ?_ | refine run_region ?_ | refine run_ret ?_ | refine run_opn 1 [⟨0, true, false, 0⟩, ⟨1, true, false, 0⟩, ⟨2, true, false, 0⟩, ⟨3, true, false, 0⟩, ⟨4, true, false, 0⟩, ⟨5, true, false, 0⟩, ⟨6, false, false, 0⟩, ⟨7, true, false, 0⟩, ⟨9, false, false, 0⟩, ⟨10, false, false, 0⟩, ⟨11, false, false, 0⟩, ⟨12, false, false, 0⟩, ⟨13, false, false, 0⟩, ⟨14, false, false, 0⟩, ⟨8, false, true, 0⟩, ⟨15, false, true, 0⟩, ⟨16, true, false, 0⟩, ⟨17, true, false, 0⟩] rfl rfl (by kernel_rfl) ?_)
      | refine seqQ_normal ?_)
  · refine j_kCallO rfl rfl rfl rfl ?_
    refine jcpO _ (o_own6 L.flatten (by omega)) rfl (List.Perm.refl _) (LeL.refl _) rfl rfl (fun v h1 hR => ?_)
    obtain ⟨ob, cp, rfl, rfl⟩ := hR
    skip
    refine j_kCallO rfl rfl rfl rfl ?_
    refine jcpO _ (o_l06Take p hv p.rules[k] (List.getElem_mem hk) L hL h0 1 (by omega) ob cp) rfl (List.Perm.refl _) (LeL.refl _) rfl rfl (fun v h1 hR => ?_)
    obtain ⟨rfl, rfl⟩ := hR
    repeat' (first
      | (refine j_goO ?_; first
        | refine j_op0O rfl rfl rfl rfl ?_)
      | refine j_nilO ?_
      | (refine r_go ?_; first | refine run_ret ?_)
      | refine seqQ_normal ?_)
    exact end1 rfl sub1 (rbD ⟨fun q => ⟨hb, q⟩, fun q => q.2⟩) (.inl rfl)
  · exact end1 rfl (List.Sublist.refl _) (rbF (fun q => hb q.1)) (.inl rfl)
theorem cn_small {p : Passing} (hv : p.Ok) {cs : List Int} (hc : p.Cnts cs) : Small cs := ⟨fun x hx => by have := hc.1 x hx; omega, by have := hc.2; have := hv.1.2.2.2.2.1; omega⟩
theorem c_l06Chosen (p : Passing) (s : Stock) (cs : List Int) (m : Int) (hv : p.Ok) (hs : p.StockOk s) (hc : p.Cnts cs) (hN : Nn (p.left s cs)) : Gives Tryz.prog 107 [.ip (encPassing p), .sl ((p.left s cs).flatten.map Go.AI.encI), .sl (cs.map Go.AI.encI), .int m] (.raw (.bool (dec (p.ChoP s m cs)))) := by
  refine fn_of_run tyOk ztOk mix Tryz.func107 rfl (by decide) Tryz.ntmps107 (fun w0 h => ?_)
  have h8 := hv.1.2.2.2.2.1
  have hcl := hc.2
  have sh := tks_sh' hv hc.w hs (k := p.rules.length) (Nat.le_refl _)
  repeat' (first
      | (refine j_go ?_; first
        | refine j_op0 rfl rfl rfl rfl ?_ | refine j_off rfl rfl rfl ?_ | (refine j_kCall rfl rfl rfl rfl ?_; first | refine jc (c_l06Sum cs (cn_small hv hc)) (LeL.refl _) rfl rfl ?_) | (refine j_kGuard rfl ?_; first | (refine (j_if rfl rfl rfl (fun hb => ?_) (fun hb => ?_)) <;> first | (exfalso; omega) | skip)))
      | refine j_nil ?_
      | (refine r_go ?_; first | refine run_seq ?_ | refine run_region ?_ | refine run_cond_t rfl ?_ | (refine (run_if rfl (fun hb => ?_) (fun hb => ?_)) <;> first | (exfalso; omega) | skip) | refine run_block ?_ | refine run_ret ?_ | refine run_skip ?_)
      | refine seqQ_normal ?_ | refine seqQ_ret ?_)
  · have h3 : tot cs = 0 ∨ m = 3 := by first | exact .inl (by assumption) | exact .inr (by assumption)
    exact end1 rfl (List.Sublist.refl _) (rbD ⟨fun q => ⟨fun _ => q, fun z => absurd h3 z⟩, fun q => q.1 h3⟩) (.inl rfl)
  · have h3 : tot cs = 0 ∨ m = 3 := by first | exact .inl (by assumption) | exact .inr (by assumption)
    exact end1 rfl (List.Sublist.refl _) (rbD ⟨fun q => ⟨fun _ => q, fun z => absurd h3 z⟩, fun q => q.1 h3⟩) (.inl rfl)
  have h3 : ¬ (tot cs = 0 ∨ m = 3) := fun q => q.elim (by assumption) (by assumption)
  refine run_loop (fun k : Nat => [(0, .ip (encPassing p)), (1, .sl ((p.left s cs).flatten.map Go.AI.encI)), (2, .sl (cs.map Go.AI.encI)), (3, .int m), (10, .int (k : Int))]) (fun _ => _) (fun k => k ≤ cs.length ∧ (∀ j (h : j < p.rules.length), j < k → ¬ (m = 2 ∧ p.busyC cs p.rules[j].cell) → ¬ Nn (p.tk p.rules[j] 1 (p.left s cs)))) (fun k => cs.length - k) 0 ⟨rfl, rfl, rfl, rfl, rfl, trivial⟩ rfl ⟨Nat.zero_le _, by first | (intros; omega) | (simp; done) | rfl | trivial | exact ⟨by simp [sumF], by intros; omega⟩ | exact ⟨by omega, by simp⟩⟩ (fun k ⟨kl, kp⟩ => ?_)
  by_cases hk : k < cs.length
  · have hkr : k < p.rules.length := by omega
    have hcap := fun q => more_cap hv hs hc hk (by rw [getD_get hkr]; exact q)
    repeat' (first
      | (refine j_go ?_; first
        | refine j_op0 rfl rfl rfl rfl ?_ | refine j_off rfl rfl rfl ?_ | (refine j_kBin rfl ?_; first | refine j_in rfl rfl ⟨by omega, by omega⟩ rfl rfl ?_) | (refine j_kLen rfl ?_; first | refine j_len rfl rfl rfl rfl rfl rfl ?_) | (refine j_kCall rfl rfl rfl rfl ?_; first | refine jc (c_l06Busy p cs k hv (by omega) hkr) (LeL.refl _) rfl rfl ?_ | refine jc (c_l06Room p (p.left s cs) cs k hv hkr hk sh hN) (LeL.refl _) rfl rfl ?_) | (refine j_kGuard rfl ?_; first | (refine (j_if rfl rfl rfl (fun hb => ?_) (fun hb => ?_)) <;> first | (exfalso; omega) | skip)))
      | refine j_nil ?_
      | (refine r_go ?_; first | refine run_seq ?_ | refine run_region ?_ | refine run_cond_f rfl ?_ | (refine (run_if rfl (fun hb => ?_) (fun hb => ?_)) <;> first | (exfalso; omega) | skip) | refine run_block ?_ | refine run_ret ?_ | refine run_exit ?_ | refine run_skip ?_)
      | refine seqQ_normal ?_ | refine seqQ_ret ?_ | refine seqQ_exit ?_ | refine blockQ_normal ?_ | refine blockQ_ret ?_ | refine blockQ_eq ?_ | refine loopQ_ret ?_)
    all_goals first
      | exact end1 rfl (by first | exact List.Sublist.refl _ | exact sub1 | exact sub2 | exact sub3) (rbF (fun q => by
          rename_i q1
          exact q.2 h3 k hkr (fun z => by first | exact absurd z.1 (by assumption) | exact absurd z.2 (by assumption)) (And.right (by assumption)))) (.inl rfl)
      | exact loopQ_nextD (k + 1) ⟨by omega, fun j h hj => by
          rcases Nat.lt_or_eq_of_le (Nat.le_of_lt_succ hj) with q | rfl
          · exact kp j h q
          · first
              | exact fun z => (z ⟨by assumption, by assumption⟩).elim
              | exact fun _ z => absurd (And.intro (hcap z) z) (by assumption)⟩ (by omega) (by first | exact List.Sublist.refl _ | exact sub1 | exact sub2 | exact sub3) ⟨rfl, rfl, rfl, rfl, nx _, trivial⟩
      | trace_state
  · repeat' (first
      | (refine j_go ?_; first
        | refine j_op0 rfl rfl rfl rfl ?_ | (refine j_kLen rfl ?_; first | refine j_len rfl rfl rfl rfl rfl rfl ?_))
      | refine j_nil ?_
      | (refine r_go ?_; first | refine run_seq ?_ | refine run_region ?_ | (refine (run_if rfl (fun hb => ?_) (fun hb => ?_)) <;> first | (exfalso; omega) | skip) | refine run_ret ?_ | refine run_exit ?_)
      | refine seqQ_normal ?_ | refine seqQ_exit ?_ | refine blockQ_eq ?_ | refine loopQ_exit ?_)
    exact end1 rfl (by first | exact List.Sublist.refl _ | exact sub1 | exact sub2 | exact sub3) (rbT (⟨fun z => absurd z h3, fun _ j h => kp j h (by omega)⟩)) (.inl rfl)

/-! ### The walk through all counts that fit -/
abbrev wkB (b : Nat) (p : Passing) (m f : Int) (o : A) : Blk := ⟨some b, 112, 4, [.ip (encPassing p), .int m, .int f, o]⟩
abbrev rwB (b : Option Nat) (cap : Nat) (o : List (List Int)) : Blk := ⟨b, 24, cap * 1, (o.map (encS Go.AI.encI)).flatten⟩
abbrev liB (b : Option Nat) (cap : Nat) (l : List Int) : Blk := ⟨b, 2, cap * 1, (l.map Go.AI.encI).flatten⟩
/-- The choices among so many counts. -/
noncomputable def Passing.pickC (p : Passing) (s : Stock) (m : Int) (E : List (List Int)) : List (List Int) := E.filter fun x => dec (p.ChoP s m x)
theorem pick_app (p : Passing) (s : Stock) (m : Int) (E G : List (List Int)) : p.pickC s m (E ++ G) = p.pickC s m E ++ p.pickC s m G := List.filter_append _ _
theorem pick_t {p : Passing} {s : Stock} {m : Int} {x : List Int} (h : p.ChoP s m x) : p.pickC s m [x] = [x] := by unfold Passing.pickC; simp [dec_t h]
theorem pick_f {p : Passing} {s : Stock} {m : Int} {x : List Int} (h : ¬ p.ChoP s m x) : p.pickC s m [x] = [] := by unfold Passing.pickC; simp [dec_f h]
theorem pick_len (p : Passing) (s : Stock) (m : Int) (E : List (List Int)) : (p.pickC s m E).length ≤ E.length := List.length_filter_le _ _
theorem take_split {α : Type} (a b : List α) {n : Nat} (h : a.length ≤ n) : (a ++ b).take n = a ++ b.take (n - a.length) := by
  rw [List.take_append, List.take_of_length_le h]
theorem take_pre {α : Type} (a b : List α) {n : Nat} (h : n ≤ a.length) : (a ++ b).take n = a.take n := by
  rw [List.take_append, show n - a.length = 0 from by omega, List.take_zero, List.append_nil]
/-- How many are counted, and which are listed, behind some more. -/
def wkF (f : Nat) (E : List (List Int)) : Nat := min 1501 (f + E.length)
noncomputable def wkO (p : Passing) (s : Stock) (m : Int) (q f : Nat) (o E : List (List Int)) : List (List Int) := o ++ p.pickC s m (E.take (q - f))
theorem wkO_len (p : Passing) (s : Stock) (m : Int) (q f : Nat) (o E : List (List Int)) : (wkO p s m q f o E).length ≤ o.length + min (q - f) E.length := by
  unfold wkO
  have := pick_len p s m (E.take (q - f))
  rw [List.length_take] at this
  rw [List.length_append]; omega
theorem wkF_app {f : Nat} {E G : List (List Int)} (h : f + E.length ≤ 1501) : wkF (wkF f E) G = wkF f (E ++ G) := by
  unfold wkF
  rw [List.length_append]; omega
theorem wkO_app {p : Passing} {s : Stock} {m : Int} {q f : Nat} {o E G : List (List Int)} (h : f + E.length ≤ 1500) (hq : 1500 ≤ q) : wkO p s m q (wkF f E) (wkO p s m q f o E) G = wkO p s m q f o (E ++ G) := by
  unfold wkO wkF
  rw [take_split E G (by omega), List.take_of_length_le (show E.length ≤ q - f by omega), pick_app, List.append_assoc]
  congr 3
  congr 1
  omega
theorem wkO_stop {p : Passing} {s : Stock} {m : Int} {q f : Nat} {o E G : List (List Int)} (h : q ≤ f + E.length) : wkO p s m q f o E = wkO p s m q f o (E ++ G) := by
  unfold wkO
  rw [take_pre E G (by omega)]
theorem wkF_stop {f : Nat} {E G : List (List Int)} (h : 1501 ≤ f + E.length) : wkF f E = wkF f (E ++ G) := by
  unfold wkF; rw [List.length_append]; omega

theorem pm3x {a b c d : Blk} {l : Heap} : (a :: b :: c :: d :: l).Perm ([c] ++ (a :: b :: d :: l)) := by classical exact List.perm_iff_count.2 fun _ => by simp only [List.count_cons, List.cons_append, List.nil_append]; omega
theorem pm3y {a b c d : Blk} {l : Heap} : (a :: b :: c :: d :: l).Perm ([b, c, a] ++ (d :: l)) := by classical exact List.perm_iff_count.2 fun _ => by simp only [List.count_cons, List.cons_append, List.nil_append]; omega
theorem pm3z {a b c : Blk} {l : Heap} : (a :: b :: c :: l).Perm ([c, a, b] ++ l) := by classical exact List.perm_iff_count.2 fun _ => by simp only [List.count_cons, List.cons_append, List.nil_append]; omega
theorem o_l06Walk (p : Passing) (s : Stock) (m : Int) (hv : p.Ok) (hs : p.StockOk s) (bx : Nat) : ∀ (j : Nat) (cs : List Int) (f : Nat) (outs : List (List Int)) (ob : Option Nat) (cap : Nat) (bl : Option Nat) (cl : Nat), p.Pfx cs → (∀ x ∈ cs, x ≤ 1000) → p.fitK s cs → cs.length + j = p.rules.length → f ≤ 1500 → outs.length ≤ f →
    Does Tryz.prog 83 [.op (some bx) 0, .os bl (p.lft s cs).flatten.length cl, .sl (cs.map Go.AI.encI)] [wkB bx p m (f : Int) (.os ob outs.length cap), rwB ob cap outs, liB bl cl (p.lft s cs).flatten]
      (fun _ h' => ∃ ob' cap', h' = [wkB bx p m ((wkF f (p.enumC s j cs) : Nat) : Int) (.os ob' (wkO p s m 1500 f outs (p.enumC s j cs)).length cap'), rwB ob' cap' (wkO p s m 1500 f outs (p.enumC s j cs)), liB bl cl (p.lft s cs).flatten]) := by
  intro j
  have h8 := hv.1.2.2.2.2.1
  induction j with
  | zero =>
    intro cs f outs ob cap bl cl hp h1 hf hl hF ho
    have hc : p.Cnts cs := ⟨fun x hx => ⟨(hp.1 x hx).1, h1 x hx⟩, by omega⟩
    have hN : Nn (p.left s cs) := (fit_left (by omega)).1 hf
    have el : p.lft s cs = p.left s cs := by unfold Passing.lft Passing.left; rw [show cs.length = p.rules.length by omega]
    rw [el]
    have eF : wkF f (p.enumC s 0 cs) = f + 1 := by unfold wkF Passing.enumC; simp only [List.length_singleton]; omega
    have eO1 : p.ChoP s m cs → f + 1 ≤ 1500 → wkO p s m 1500 f outs (p.enumC s 0 cs) = outs ++ [cs] := fun q1 q2 => by
      unfold wkO Passing.enumC; rw [List.take_of_length_le (by rw [List.length_singleton]; omega), pick_t q1]
    have eO2 : ¬ (p.ChoP s m cs ∧ f + 1 ≤ 1500) → wkO p s m 1500 f outs (p.enumC s 0 cs) = outs := fun q => by
      unfold wkO Passing.enumC
      by_cases z : f + 1 ≤ 1500
      · rw [List.take_of_length_le (by rw [List.length_singleton]; omega), pick_f (fun y => q ⟨y, z⟩), List.append_nil]
      · rw [show 1500 - f = 0 from by omega, List.take_zero]; exact List.append_nil _
    have cC := c_l06Chosen p s cs m hv hs hc hN
    refine fn_of_runD tyOk ztOk mix Tryz.func83 rfl (by decide) Tryz.ntmps83 (fun w0 F => ?_)
    change Run _ _ _ _ _ (_ :: _ :: _ :: F)
    have fz : FrzL [liB bl cl (p.left s cs).flatten] [.ip (encPassing p), .os bl (p.left s cs).flatten.length cl, .sl (cs.map Go.AI.encI), .int m] [.ip (encPassing p), .sl ((p.left s cs).flatten.map Go.AI.encI), .sl (cs.map Go.AI.encI), .int m] :=
      FrzL.cons (Frz.same _ _) (FrzL.cons (Frz.flat (g := Go.AI.encI) (ys := (p.left s cs).flatten) (z := 1) rfl rfl (fun _ => rfl) rfl rfl) (FrzL.cons (Frz.same _ _) (FrzL.cons (Frz.same _ _) (FrzL.nil _))))
    repeat' (first
      | (refine j_go ?_; first
        | refine j_op0 rfl rfl rfl rfl ?_ | refine j_off rfl rfl rfl ?_ | (refine j_kBin rfl ?_; first | refine j_in rfl rfl ⟨by omega, by omega⟩ rfl rfl ?_) | (refine j_kLen rfl ?_; first | refine j_len rfl rfl rfl rfl rfl rfl ?_) | (refine j_kLoad rfl ?_; first | refine j_mload 0 rfl rfl rfl rfl rfl rfl rfl ?_) | (refine j_kStore rfl ?_; first | refine j_store 0 rfl rfl rfl rfl rfl rfl rfl rfl rfl rfl rfl ?_) | (refine j_kGuard rfl ?_; first | (refine (j_if rfl rfl rfl (fun hb => ?_) (fun hb => ?_)) <;> first | (exfalso; omega) | skip)))
      | refine j_nil ?_
      | (refine r_go ?_; first | refine run_seq ?_ | refine run_region ?_ | refine run_cond_f rfl ?_ | (refine (run_if rfl (fun hb => ?_) (fun hb => ?_)) <;> first | (exfalso; omega) | skip) | refine run_ret ?_ | refine run_skip ?_ | refine run_regionD (by kernel_rfl) ?_)
      | refine seqQ_normal ?_ | refine seqQ_ret ?_)
    · refine j_kCall rfl rfl rfl rfl ?_
      refine jctq [liB bl cl (p.left s cs).flatten] cC (Clo.raw _) (fun k hk => by rw [List.mem_singleton] at hk; subst hk; exact List.mem_cons_of_mem _ (List.mem_cons_of_mem _ List.mem_cons_self)) fz rfl rfl ?_
      repeat' (first
      | (refine j_go ?_; first
        | refine j_op0 rfl rfl rfl rfl ?_)
      | refine j_nil ?_
      | (refine j_goO ?_; first
        | refine j_op0O rfl rfl rfl rfl ?_ | (refine j_kCallO rfl rfl rfl rfl ?_; first | refine jcO (c_l00Own cs (by omega)) (LeL.refl _) rfl rfl ?_) | (refine j_kLoadO rfl ?_; first | refine j_mloadO 0 rfl rfl rfl rfl rfl rfl rfl rfl ?_) | (refine j_kBslO rfl ?_; first | refine j_bslO rfl rfl rfl rfl rfl rfl rfl rfl rfl rfl rfl ?_))
      | (refine r_go ?_; first | (refine (run_if rfl (fun hb => ?_) (fun hb => ?_)) <;> first | (exfalso; omega) | skip) | refine run_ret ?_ | refine run_skip ?_ | refine run_opn 4 [⟨0, false, false, 0⟩, ⟨1, true, false, 0⟩, ⟨2, true, false, 0⟩, ⟨3, true, false, 0⟩, ⟨4, true, false, 0⟩, ⟨5, true, false, 0⟩, ⟨6, true, false, 0⟩, ⟨7, true, false, 0⟩, ⟨8, false, true, 0⟩, ⟨9, true, false, 0⟩, ⟨10, true, false, 0⟩, ⟨11, false, true, 0⟩] rfl rfl (by kernel_rfl) ?_)
      | refine seqQ_normal ?_ | refine seqQ_ret ?_)
      · refine j_appendO 1 (g := encS Go.AI.encI) (ys := outs) [cs] rfl (fun _ hk => nomatch hk) rfl rfl rfl rfl rfl rfl rfl rfl rfl rfl rfl rfl (fun _ => rfl) (fun _ hy => by simp only [List.mem_singleton] at hy; subst hy; rfl) ⟨by simp only [List.length_cons, List.length_nil]; omega, by simp only [List.length_cons, List.length_nil]; omega⟩ rfl rfl (fun b' cap' => ?_)
        repeat' (first
      | (refine j_goO ?_; first
        | refine j_op0O rfl rfl rfl rfl ?_ | (refine j_kStoreO rfl ?_; first | refine j_storeO 0 rfl rfl rfl rfl rfl rfl rfl rfl rfl rfl rfl rfl (by first | (intro _ hk; exact absurd hk List.not_mem_nil) | (intro k hk; simp at hk ⊢; try simp [hk])) ?_))
      | refine j_nilO ?_
      | (refine r_go ?_; first | refine run_ret ?_)
      | refine seqQ_normal ?_ | refine seqQ_ret ?_)
        exact endD_ret (h1 := [_, _, _]) rfl .nil (Le.refl _) ⟨b', cap', by rw [eF, eO1 (by assumption) (by omega)]; rfl⟩ (.inl rfl)
      · exact endD_ret (h1 := [_, _, _]) rfl .nil (Le.refl _) ⟨ob, cap, by rw [eF, eO2 (fun q => absurd q.1 (by assumption))]; rfl⟩ (.inl rfl)
    · exact endD_ret (h1 := [_, _, _]) rfl .nil (Le.refl _) ⟨ob, cap, by rw [eF, eO2 (fun q => absurd q.2 (by omega))]; rfl⟩ (.inl rfl)
  | succ j ih =>
    intro cs f outs ob cap bl cl hp h1 hf hl hF ho
    have hlt : cs.length < p.rules.length := by omega
    have ml := mx_le hv hs hp hlt hf
    have shL := hp.sh hv hs
    have flb := flat_length shL
    have R := ruF hv (List.getElem_mem hlt)
    obtain ⟨K, own, up, fL⟩ := flF hv (List.getElem_mem hlt) shL
    have lb := fL.b
    refine fn_of_runD tyOk ztOk mix Tryz.func83 rfl (by decide) Tryz.ntmps83 (fun w0 F => ?_)
    change Run _ _ _ _ _ (_ :: _ :: _ :: F)
    repeat' (first
      | (refine j_go ?_; first
        | refine j_op0 rfl rfl rfl rfl ?_ | (refine j_kLen rfl ?_; first | refine j_len rfl rfl rfl rfl rfl rfl ?_) | (refine j_kLoad rfl ?_; first | refine j_mload 0 rfl rfl rfl rfl rfl rfl rfl ?_))
      | refine j_nil ?_
      | (refine r_go ?_; first | refine run_seq ?_ | refine run_region ?_ | (refine (run_if rfl (fun hb => ?_) (fun hb => ?_)) <;> first | (exfalso; omega) | skip) | refine run_skip ?_)
      | refine seqQ_normal ?_)
    refine j_kCall rfl rfl rfl rfl ?_
    refine jct [liB bl cl (p.lft s cs).flatten] (o_own6 (p.lft s cs).flatten (by omega)) (fun k hk => by rw [List.mem_singleton] at hk; subst hk; exact List.mem_cons_of_mem _ (List.mem_cons_of_mem _ List.mem_cons_self)) (FrzL.cons (Frz.flat (g := Go.AI.encI) (ys := (p.lft s cs).flatten) (z := 1) rfl rfl (fun _ => rfl) rfl rfl) (FrzL.nil _)) (fun v h1 ⟨b, cap, q1, q2⟩ => ⟨by rw [q1]; exact Clo.os _ _ _, by rw [q2]; exact CloH.cons (CloL.mapInt _ _) CloH.nil⟩) rfl rfl (fun v h1 hR => ?_)
    obtain ⟨b2, c2, rfl, rfl⟩ := hR
    repeat' (first
      | (refine j_go ?_; first
        | refine j_op0 rfl rfl rfl rfl ?_)
      | refine j_nil ?_
      | (refine r_go ?_; first | refine run_seq ?_ | refine run_region ?_ | refine run_block ?_)
      | refine seqQ_normal ?_)
    have hsn : ∀ n : Nat, n ≤ 1001 → p.Pfx (cs ++ [(n : Int)]) := fun n hn => hp.snoc hlt (by omega)
    have hlen : ∀ n : Nat, n ≤ 1001 → (p.lft s (cs ++ [(n : Int)])).flatten.length = (p.lft s cs).flatten.length := fun n hn => by rw [flat_length ((hsn n hn).sh hv hs), flb]
    have hz : p.lft s (cs ++ [((0 : Nat) : Int)]) = p.lft s cs := by rw [lft_snoc hlt]; exact tk_zero R shL
    refine run_loop (fun x : Nat × Nat × List (List Int) × Option Nat × Nat => [(0, .op (some bx) 0), (2, .sl (cs.map Go.AI.encI)), (6, .int cs.length), (7, .os b2 (p.lft s cs).flatten.length c2), (8, .int (x.1 : Int))])
      (fun x => liB b2 c2 (p.lft s (cs ++ [(x.1 : Int)])).flatten :: wkB bx p m (x.2.1 : Int) (.os x.2.2.2.1 x.2.2.1.length x.2.2.2.2) :: rwB x.2.2.2.1 x.2.2.2.2 x.2.2.1 :: liB bl cl (p.lft s cs).flatten :: F)
      (fun x => x.1 ≤ p.mx s cs ∧ x.2.1 = wkF f (p.enK s j cs x.1) ∧ x.2.2.1 = wkO p s m 1500 f outs (p.enK s j cs x.1)) (fun x => p.mx s cs + 1 - x.1) (0, f, outs, ob, cap) ⟨rfl, rfl, rfl, rfl, rfl, trivial⟩ (by dsimp only; rw [hz]; rfl)
      ⟨Nat.zero_le _, by dsimp only; unfold wkF; rw [enK_zero]; simp only [List.length_nil]; omega, by dsimp only; unfold wkO; rw [enK_zero, List.take_nil]; try exact (List.append_nil _).symm⟩ (fun ⟨n, f2, o2, ob2, cap2⟩ ⟨nl, ef, eo⟩ => ?_)
    dsimp only at nl ef eo ⊢
    obtain ⟨G, eG⟩ := enK_pre p s j cs (a := n) (p.mx s cs + 1) (by omega)
    rw [enK_all] at eG
    have ol := wkO_len p s m 1500 f outs (p.enK s j cs n)
    rw [← eo] at ol
    by_cases hF2 : f2 ≤ 1500
    case neg =>
      have e0 : wkF f (p.enK s j cs n) = min 1501 (f + (p.enK s j cs n).length) := rfl
      have e1 : wkF f (p.enK s j cs n) = wkF f (p.enumC s (j + 1) cs) := by rw [eG]; exact wkF_stop (by omega)
      have e2 : wkO p s m 1500 f outs (p.enK s j cs n) = wkO p s m 1500 f outs (p.enumC s (j + 1) cs) := by rw [eG]; exact wkO_stop (by omega)
      repeat' (first
      | (refine j_go ?_; first
        | refine j_op0 rfl rfl rfl rfl ?_ | (refine j_kLoad rfl ?_; first | refine j_mload 1 rfl rfl rfl rfl rfl rfl rfl ?_) | (refine j_kGuard rfl ?_; first | (refine (j_if rfl rfl rfl (fun hb => ?_) (fun hb => ?_)) <;> first | (exfalso; omega) | skip)))
      | refine j_nil ?_
      | (refine r_go ?_; first | refine run_seq ?_ | refine run_region ?_ | (refine (run_if rfl (fun hb => ?_) (fun hb => ?_)) <;> first | (exfalso; omega) | skip) | refine run_exit ?_)
      | refine seqQ_normal ?_ | refine seqQ_exit ?_ | refine blockQ_eq ?_ | refine loopQ_exit ?_)
      refine endD_view (view_erase 0) ?_
      exact endD_ret (h1 := [_, _, _]) rfl .nil (Le.refl _) ⟨ob2, cap2, by rw [← e1, ← e2, ← ef, ← eo]⟩ (.inr rfl)
    have fn := (mx_iff hv hs hp hlt hf (n := n) (by omega)).2 nl
    have shn := (hsn n (by omega)).sh hv hs
    have e0 : wkF f (p.enK s j cs n) = min 1501 (f + (p.enK s j cs n).length) := rfl
    have IH := ih (cs ++ [(n : Int)]) f2 o2 ob2 cap2 b2 c2 (hsn n (by omega)) (fun x hx => by
      rcases List.mem_append.1 hx with q | q
      · exact h1 x q
      · rw [List.mem_singleton] at q; omega) fn (by rw [List.length_append, List.length_singleton]; omega) hF2 (by omega)
    rw [hlen n (by omega)] at IH
    have eF2 : wkF f2 (p.enumC s j (cs ++ [(n : Int)])) = wkF f (p.enK s j cs (n + 1)) := by rw [ef, enK_succ]; exact wkF_app (by omega)
    have eO2 : wkO p s m 1500 f2 o2 (p.enumC s j (cs ++ [(n : Int)])) = wkO p s m 1500 f outs (p.enK s j cs (n + 1)) := by rw [ef, eo, enK_succ]; exact wkO_app (by omega) (Nat.le_refl _)
    rw [eF2, eO2] at IH
    have tka : p.tk p.rules[cs.length] 1 (p.lft s (cs ++ [(n : Int)])) = p.lft s (cs ++ [((n + 1 : Nat) : Int)]) := by
      rw [lft_snoc hlt, lft_snoc hlt, tk_add R shL (by omega) (by omega) (by omega)]
      congr 1
      push_cast; omega
    repeat' (first
      | (refine j_go ?_; first
        | refine j_op0 rfl rfl rfl rfl ?_ | (refine j_kLoad rfl ?_; first | refine j_mload 1 rfl rfl rfl rfl rfl rfl rfl ?_) | (refine j_kGuard rfl ?_; first | (refine (j_if rfl rfl rfl (fun hb => ?_) (fun hb => ?_)) <;> first | (exfalso; omega) | skip)))
      | refine j_nil ?_
      | (refine r_go ?_; first | refine run_seq ?_ | refine run_region ?_ | (refine (run_if rfl (fun hb => ?_) (fun hb => ?_)) <;> first | (exfalso; omega) | skip) | refine run_block ?_ | refine run_skip ?_)
      | refine seqQ_normal ?_)
    refine j_kCall rfl rfl rfl rfl ?_
    refine jcp _ (o_own6 cs (by omega)) (List.Perm.refl _) (LeL.refl _) rfl rfl (fun v h1 hR => ?_)
    obtain ⟨ob4, cp4, rfl, rfl⟩ := hR
    repeat' (first
      | (refine j_go ?_; first
        | refine j_op0 rfl rfl rfl rfl ?_ | (refine j_kBsl rfl ?_; first | refine j_bsl rfl rfl rfl rfl rfl rfl rfl rfl rfl rfl rfl ?_)))
    refine j_append 0 (g := Go.AI.encI) (ys := cs) [(n : Int)] rfl rfl rfl rfl rfl rfl rfl rfl rfl rfl rfl rfl (fun _ => rfl) (fun _ hy => by simp only [List.mem_singleton] at hy; subst hy; rfl) ⟨by simp only [List.length_cons, List.length_nil]; omega, by simp only [List.length_cons, List.length_nil]; omega⟩ rfl rfl (fun ob5 cp5 => ?_)
    refine j_view (view_freeze (g := Go.AI.encI) (z := 1) (ys := cs ++ [(n : Int)]) 0 76 rfl rfl rfl (fun _ => rfl) rfl rfl) ?_
    skip
    refine j_kCall rfl rfl rfl rfl ?_
    refine jcp (liB bl cl (p.lft s cs).flatten :: F) IH pm3y (LeL.refl _) rfl rfl (fun v h1 hR => ?_)
    obtain ⟨ob3, cap3, rfl⟩ := hR
    repeat' (first
      | refine j_nil ?_
      | (refine j_goO ?_; first
        | refine j_op0O rfl rfl rfl rfl ?_ | (refine j_kIdxO rfl ?_; first | refine j_idxO rfl rfl rfl rfl rfl (by omega) rfl rfl rfl ?_) | (refine j_kLoadO rfl ?_; first | refine j_mloadO 0 rfl rfl rfl rfl rfl rfl rfl rfl ?_))
      | (refine r_go ?_; first | refine run_seq ?_ | refine run_opn 10 [⟨0, true, false, 0⟩, ⟨1, true, false, 0⟩, ⟨2, true, false, 0⟩, ⟨3, true, false, 0⟩, ⟨4, true, false, 0⟩, ⟨5, true, false, 0⟩, ⟨6, true, false, 0⟩, ⟨7, true, false, 0⟩, ⟨8, true, false, 0⟩, ⟨9, true, false, 0⟩, ⟨10, true, false, 0⟩, ⟨11, true, false, 0⟩, ⟨12, true, false, 0⟩, ⟨13, true, false, 0⟩, ⟨14, false, true, 0⟩, ⟨15, true, false, 0⟩] rfl rfl (by kernel_rfl) ?_)
      | refine seqQ_normal ?_)
    refine j_kCallO rfl rfl rfl rfl ?_
    have oT := o_l06Take p hv p.rules[cs.length] (List.getElem_mem hlt) (p.lft s (cs ++ [(n : Int)])) shn fn 1 (by omega) b2 c2
    rw [tka, hlen n (by omega)] at oT
    refine jcpO _ oT rfl pm3x (LeL.refl _) rfl rfl (fun v h1 hR => ?_)
    obtain ⟨rfl, rfl⟩ := hR
    repeat' (first
      | (refine j_go ?_; first
        | refine j_op0 rfl rfl rfl rfl ?_ | (refine j_kBin rfl ?_; first | refine j_in rfl rfl ⟨by omega, by omega⟩ rfl rfl ?_))
      | refine j_nil ?_
      | (refine j_goO ?_; first
        | refine j_op0O rfl rfl rfl rfl ?_)
      | refine j_nilO ?_
      | (refine r_go ?_; first | refine run_region ?_ | (refine (run_ifn rfl (fun hb => ?_) (fun hb => ?_)) <;> first | (exfalso; omega) | skip) | refine run_ret ?_ | refine run_skip ?_)
      | refine seqQ_normal ?_ | refine seqQ_ret ?_ | refine blockQ_normal ?_ | refine blockQ_ret ?_ | refine loopQ_ret ?_)
    · have hnm : n = p.mx s cs := by
        by_cases z : n + 1 ≤ p.mx s cs
        · exact absurd ((mx_iff hv hs hp hlt hf (n := n + 1) (by omega)).2 z) hb
        · omega
      have eE : p.enK s j cs (n + 1) = p.enumC s (j + 1) cs := by rw [hnm, enK_all]
      refine endD_view (view_erase 0) ?_
      exact endD_ret (h1 := [_, _, _]) rfl .nil (Le.refl _) ⟨ob3, cap3, by rw [← eE]⟩ (.inl rfl)
    · have hnm : n + 1 ≤ p.mx s cs := (mx_iff hv hs hp hlt hf (n := n + 1) (by omega)).1 hb
      exact loopQ_next (n + 1, wkF f (p.enK s j cs (n + 1)), wkO p s m 1500 f outs (p.enK s j cs (n + 1)), ob3, cap3) ⟨by dsimp only; omega, rfl, rfl⟩ (by dsimp only; omega) rfl ⟨rfl, rfl, rfl, rfl, nx _, trivial⟩

/-- All counts that fit. -/
noncomputable def Passing.allC (p : Passing) (s : Stock) : List (List Int) := p.enumC s p.rules.length []
noncomputable def codePassChoices (p : Passing) (s : Stock) (m : Int) : Int := open Classical in if p.Ok then if p.StockOk s ∧ (1 ≤ m ∧ m ≤ 3) then if (p.allC s).length ≤ 1500 then 0 else 3 else 2 else 1
noncomputable def resPassChoices (p : Passing) (s : Stock) (m : Int) : List (List Int) := open Classical in if (p.Ok ∧ p.StockOk s) ∧ (1 ≤ m ∧ m ≤ 3) ∧ (p.allC s).length ≤ 1500 then p.pickC s m (p.allC s) else []
theorem pc_t {p : Passing} {s : Stock} {m : Int} (h1 : p.Ok) (h2 : p.StockOk s) (h3 : 1 ≤ m ∧ m ≤ 3) (h4 : (p.allC s).length ≤ 1500) : resPassChoices p s m = p.pickC s m (p.allC s) ∧ codePassChoices p s m = 0 := by
  unfold resPassChoices codePassChoices
  rw [if_pos ⟨⟨h1, h2⟩, h3, h4⟩, if_pos h1, if_pos ⟨h2, h3⟩, if_pos h4]; exact ⟨rfl, rfl⟩
theorem pc_f1 {p : Passing} {s : Stock} {m : Int} (h1 : ¬ p.Ok) : resPassChoices p s m = [] ∧ codePassChoices p s m = 1 := by
  unfold resPassChoices codePassChoices
  rw [if_neg (fun q => h1 q.1.1), if_neg h1]; exact ⟨rfl, rfl⟩
theorem pc_f2 {p : Passing} {s : Stock} {m : Int} (h1 : p.Ok) (h2 : ¬ (p.StockOk s ∧ (1 ≤ m ∧ m ≤ 3))) : resPassChoices p s m = [] ∧ codePassChoices p s m = 2 := by
  unfold resPassChoices codePassChoices
  rw [if_neg (fun q => h2 ⟨q.1.2, q.2.1⟩), if_pos h1, if_neg h2]; exact ⟨rfl, rfl⟩
theorem pc_f3 {p : Passing} {s : Stock} {m : Int} (h1 : p.Ok) (h2 : p.StockOk s) (h3 : 1 ≤ m ∧ m ≤ 3) (h4 : ¬ (p.allC s).length ≤ 1500) : resPassChoices p s m = [] ∧ codePassChoices p s m = 3 := by
  unfold resPassChoices codePassChoices
  rw [if_neg (fun q => h4 q.2.2), if_pos h1, if_pos ⟨h2, h3⟩, if_neg h4]; exact ⟨rfl, rfl⟩
theorem wk_le {E : List (List Int)} : ((wkF 0 E : Nat) : Int) ≤ 1500 ↔ E.length ≤ 1500 := by unfold wkF; omega
theorem wk_all {p : Passing} {s : Stock} {m : Int} {q : Nat} {E : List (List Int)} (h : E.length ≤ q) : wkO p s m q 0 [] E = p.pickC s m E := by
  unfold wkO; rw [List.take_of_length_le (by omega), List.nil_append]
end Go.Proofs.YtbpmmdecaonopaaGreat
