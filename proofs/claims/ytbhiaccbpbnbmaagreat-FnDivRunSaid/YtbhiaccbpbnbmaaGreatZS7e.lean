/-
  Dividing cells: what ValidDivision of the reference and of the program compute. No condition.
-/
import Derived.Test.YtbhiaccbpbnbmaaGreatZS0
namespace Go.Proofs.YtbhiaccbpbnbmaaGreat
open Go.AI
set_option maxRecDepth 8000
set_option maxHeartbeats 1600000

theorem c_isNaN (x : Int) : Gives Tryz.prog 102 [.int x] (.raw (.bool false)) := by
  refine fn_of_run tyOk ztOk mix Tryz.func102 rfl (by decide) Tryz.ntmps102 (fun w0 h => ?_)
  repeat' (first
      | (refine j_go ?_; first
        | refine j_op0 rfl rfl rfl rfl ?_)
      | refine j_nil ?_
      | (refine r_go ?_; first | refine run_seq ?_ | refine run_region ?_ | refine run_ret ?_)
      | refine seqQ_normal ?_)
  exact end1 rfl (List.Sublist.refl _) (rb (by rw [dec_t rfl]; rfl)) (.inl rfl)

theorem c_cmpLess (x y : Int) : Gives Tryz.prog 103 [.int x, .int y] (.raw (.bool (dec (x < y)))) := by
  refine fn_of_run tyOk ztOk mix Tryz.func103 rfl (by decide) Tryz.ntmps103 (fun w0 h => ?_)
  repeat' (first
      | (refine j_go ?_; first
        | refine j_op0 rfl rfl rfl rfl ?_ | refine j_off rfl rfl rfl ?_ | (refine j_kCall rfl rfl rfl rfl ?_; first | refine jc (c_isNaN _) (LeL.refl _) rfl rfl ?_))
      | refine j_nil ?_
      | (refine r_go ?_; first | refine run_seq ?_ | refine run_region ?_ | refine run_ret ?_)
      | refine seqQ_normal ?_)
  all_goals exact end1 rfl (List.Sublist.refl _) (rfl) (.inl rfl)

theorem c_isSorted (l : List Int) : Gives Tryz.prog 93 [.sl (l.map Go.AI.encI)] (.raw (.bool (dec (∀ i (h : i < l.length), 0 < i → l[i-1] ≤ l[i])))) := by
  refine fn_of_run tyOk ztOk mix Tryz.func93 rfl (by decide) Tryz.ntmps93 (fun w0 h => ?_)
  refine run_len (t := 0) rfl (fun hl => ?_)
  rw [List.length_map] at hl
  repeat' (first
      | (refine j_go ?_; first
        | refine j_op0 rfl rfl rfl rfl ?_ | (refine j_kBin rfl ?_; first | refine j_in rfl rfl ⟨by omega, by omega⟩ rfl rfl ?_) | (refine j_kLen rfl ?_; first | refine j_len rfl rfl rfl rfl rfl rfl ?_))
      | refine j_nil ?_
      | (refine r_go ?_; first | refine run_seq ?_ | refine run_region ?_ | refine run_block ?_)
      | refine seqQ_normal ?_)
  refine run_loop (fun k : Nat => [(0, .sl (l.map Go.AI.encI)), (3, .int ((l.length : Int) - 1 - (k : Int)))]) (fun _ => _) (fun k => k ≤ l.length ∧ (∀ i (h : i < l.length), l.length - 1 - k < i → 0 < i → l[i-1] ≤ l[i])) (fun k => l.length - k) 0 ⟨rfl, (by first | rfl | exact si (by first | omega | (simp; done) | (simp [sumF]; done) | (simp; omega)) | exact raw_f (by simp) | exact raw_t (by simp) | exact sa (by first | (rw [catK_zero]; rfl) | (rw [catK_zero, List.append_nil]; rfl) | (rw [catK_zero, List.append_nil]) | (rw [joinK_zero, List.append_nil]; rfl) | (rw [joinK_zero, List.append_nil]) | (simp [catK]; done))), trivial⟩ rfl ⟨Nat.zero_le _, by first | (intros; omega) | (simp; done) | rfl | trivial | exact ⟨by simp [sumF], by intros; omega⟩ | exact ⟨by omega, by simp⟩⟩ (fun k ⟨kl, kp⟩ => ?_)
  have e1 : ((l.length : Int) - 1 - (k : Int)).toNat = l.length - 1 - k := by omega
  have e2 : ((l.length : Int) - 1 - (k : Int) - 1).toNat = l.length - 1 - k - 1 := by omega
  repeat' (first
      | (refine j_go ?_; first
        | refine j_op0 rfl rfl rfl rfl ?_ | (refine j_kIdx rfl ?_; first | refine j_idxz rfl rfl rfl rfl rfl ⟨by omega, by omega⟩ rfl rfl rfl ?_) | (refine j_kBin rfl ?_; first | refine j_in rfl rfl ⟨by omega, by omega⟩ rfl rfl ?_) | (refine j_kCall rfl rfl rfl rfl ?_; first | refine jc (c_cmpLess _ _) (LeL.refl _) rfl rfl ?_))
      | refine j_nil ?_
      | (refine r_go ?_; first | refine run_seq ?_ | refine run_region ?_ | (refine (run_if rfl (fun hb => ?_) (fun hb => ?_)) <;> first | (exfalso; omega) | skip) | refine run_block ?_ | refine run_ret ?_ | refine run_exit ?_ | refine run_skip ?_ | refine run_regionD (by kernel_rfl) ?_)
      | refine seqQ_normal ?_ | refine seqQ_ret ?_ | refine seqQ_exit ?_ | refine blockQ_normal ?_ | refine blockQ_ret ?_ | refine blockQ_eq ?_ | refine loopQ_ret ?_ | refine loopQ_exit ?_)
  · simp only [e1, e2] at hb
    exact end1 rfl (by first | exact List.Sublist.refl _ | exact sub1 | exact sub2 | exact sub3) (rbF (fun q => by have := q (l.length - 1 - k) (by omega) (by omega); omega)) (.inl rfl)
  · simp only [e1, e2] at hb
    exact loopQ_nextD (k + 1) ⟨by omega, fun i h h1 h0 => by
      by_cases hi : i = l.length - 1 - k
      · subst hi; omega
      · exact kp i h (by omega) h0⟩ (by omega) (by first | exact List.Sublist.refl _ | exact sub1 | exact sub2 | exact sub3) ⟨rfl, (by first | rfl | exact si (by omega)), trivial⟩
  · exact end1 rfl (by first | exact List.Sublist.refl _ | exact sub1 | exact sub2 | exact sub3) (rbT (fun i h h0 => kp i h (by omega) h0)) (.inl rfl)

/-- A heap of objects: they do not fall, lie within bounds, and are not too many. -/
def HeapOf (o : Int) (l : List Int) (most : Int) : Prop := (∀ i (h : i < l.length), (0 ≤ l[i] ∧ l[i] ≤ o - 1) ∧ (0 < i → l[i-1] ≤ l[i])) ∧ (l.length : Int) ≤ most

theorem c_l07Heap (o : Int) (l : List Int) (most : Int) (ho : 1 ≤ o ∧ o ≤ 64) : Gives Tryz.prog 55 [.int o, .sl (l.map Go.AI.encI), .int most] (.raw (.bool (dec (HeapOf o l most)))) := by
  refine fn_of_run tyOk ztOk mix Tryz.func55 rfl (by decide) Tryz.ntmps55 (fun w0 h => ?_)
  refine run_len (t := 1) rfl (fun hl => ?_)
  rw [List.length_map] at hl
  repeat' (first
      | (refine j_go ?_; first
        | refine j_op0 rfl rfl rfl rfl ?_)
      | refine j_nil ?_
      | (refine r_go ?_; first | refine run_seq ?_ | refine run_region ?_ | refine run_block ?_)
      | refine seqQ_normal ?_)
  refine run_loop (fun k : Nat => [(0, .int o), (1, .sl (l.map Go.AI.encI)), (2, .int most), (7, .int (k : Int))]) (fun _ => _) (fun k => k ≤ l.length ∧ (∀ i (h : i < l.length), i < k → (0 ≤ l[i] ∧ l[i] ≤ o - 1) ∧ (0 < i → l[i-1] ≤ l[i]))) (fun k => l.length - k) 0 ⟨rfl, rfl, rfl, rfl, trivial⟩ rfl ⟨Nat.zero_le _, by first | (intros; omega) | (simp; done) | rfl | trivial | exact ⟨by simp [sumF], by intros; omega⟩ | exact ⟨by omega, by simp⟩⟩ (fun k ⟨kl, kp⟩ => ?_)
  have e : ((k : Int) - 1).toNat = k - 1 := by omega
  repeat' (first
      | (refine j_go ?_; first
        | refine j_op0 rfl rfl rfl rfl ?_ | refine j_off rfl rfl rfl ?_ | (refine j_kIdx rfl ?_; first | refine j_idx rfl rfl rfl rfl rfl (by omega) rfl rfl rfl ?_ | refine j_idxz rfl rfl rfl rfl rfl ⟨by omega, by omega⟩ rfl rfl rfl ?_) | (refine j_kBin rfl ?_; first | refine j_in rfl rfl ⟨by omega, by omega⟩ rfl rfl ?_) | (refine j_kLen rfl ?_; first | refine j_len rfl rfl rfl rfl rfl rfl ?_) | (refine j_kCall rfl rfl rfl rfl ?_; first | refine jc (c_l00In _ _ _) (LeL.refl _) rfl rfl ?_) | (refine j_kGuard rfl ?_; first | (refine (j_if rfl rfl rfl (fun hb => ?_) (fun hb => ?_)) <;> first | (exfalso; omega) | skip) | (refine (j_ifn rfl rfl rfl (fun hb => ?_) (fun hb => ?_)) <;> first | (exfalso; omega) | skip)))
      | refine j_nil ?_
      | (refine r_go ?_; first | refine run_seq ?_ | refine run_region ?_ | refine run_cond_t rfl ?_ | refine run_cond_f rfl ?_ | (refine (run_if rfl (fun hb => ?_) (fun hb => ?_)) <;> first | (exfalso; omega) | skip) | refine run_block ?_ | refine run_ret ?_ | refine run_exit ?_ | refine run_skip ?_ | refine run_regionD (by kernel_rfl) ?_)
      | refine seqQ_normal ?_ | refine seqQ_ret ?_ | refine seqQ_exit ?_ | refine blockQ_normal ?_ | refine blockQ_ret ?_ | refine blockQ_eq ?_ | refine loopQ_ret ?_ | refine loopQ_exit ?_)
  · exact end1 rfl (by first | exact List.Sublist.refl _ | exact sub1 | exact sub2 | exact sub3) (rbF (fun q => hb (q.1 k (by omega)).1)) (.inl rfl)
  · simp only [e] at hb
    exact end1 rfl (by first | exact List.Sublist.refl _ | exact sub1 | exact sub2 | exact sub3) (rbF (fun q => by have := (q.1 k (by omega)).2 (by omega); omega)) (.inl rfl)
  · simp only [e] at hb
    exact loopQ_nextD (k + 1) ⟨by omega, all_step kp (fun _ => ⟨by assumption, fun _ => by omega⟩)⟩ (by omega) (by first | exact List.Sublist.refl _ | exact sub1 | exact sub2 | exact sub3) ⟨rfl, rfl, rfl, nx _, trivial⟩
  · exact loopQ_nextD (k + 1) ⟨by omega, all_step kp (fun _ => ⟨by assumption, fun _ => by omega⟩)⟩ (by omega) (by first | exact List.Sublist.refl _ | exact sub1 | exact sub2 | exact sub3) ⟨rfl, rfl, rfl, nx _, trivial⟩
  · exact end1 rfl (List.Sublist.refl _) (rbD ⟨fun q => ⟨fun i h => kp i h (by omega), q⟩, fun q => q.2⟩) (.inl rfl)

theorem c_l07Charge (n : Int) : Gives Tryz.prog 56 [.int n] (.raw (.bool (dec (-1 ≤ n ∧ n ≤ 1)))) := by
  refine fn_of_run tyOk ztOk mix Tryz.func56 rfl (by decide) Tryz.ntmps56 (fun w0 h => ?_)
  repeat' (first
      | (refine j_go ?_; first
        | refine j_op0 rfl rfl rfl rfl ?_ | (refine j_kCall rfl rfl rfl rfl ?_; first | refine jc (c_l00In _ _ _) (LeL.refl _) rfl rfl ?_))
      | refine j_nil ?_
      | (refine r_go ?_; first | refine run_seq ?_ | refine run_region ?_ | refine run_ret ?_)
      | refine seqQ_normal ?_)
  exact end1 rfl (List.Sublist.refl _) (rfl) (.inl rfl)
theorem c_isCharge (n : Int) : Gives Tryz.prog 34 [.int n] (.raw (.bool (dec (-1 ≤ n ∧ n ≤ 1)))) := by
  refine fn_of_run tyOk ztOk mix Tryz.func34 rfl (by decide) Tryz.ntmps34 (fun w0 h => ?_)
  repeat' (first
      | (refine j_go ?_; first
        | refine j_op0 rfl rfl rfl rfl ?_ | (refine j_kCall rfl rfl rfl rfl ?_; first | refine jc (c_inRange _ _ _) (LeL.refl _) rfl rfl ?_))
      | refine j_nil ?_
      | (refine r_go ?_; first | refine run_seq ?_ | refine run_region ?_ | refine run_ret ?_)
      | refine seqQ_normal ?_)
  exact end1 rfl (List.Sublist.refl _) (rfl) (.inl rfl)
theorem c_isObject (d : Division) (x : Int) (hd : 1 ≤ d.objects ∧ d.objects ≤ 64) : Gives Tryz.prog 30 [.agg (encDivision d), .int x] (.raw (.bool (dec (0 ≤ x ∧ x ≤ d.objects - 1)))) := by
  refine fn_of_run tyOk ztOk mix Tryz.func30 rfl (by decide) Tryz.ntmps30 (fun w0 h => ?_)
  repeat' (first
      | (refine j_go ?_; first
        | refine j_op0 rfl rfl rfl rfl ?_ | (refine j_kBin rfl ?_; first | refine j_in rfl rfl ⟨by omega, by omega⟩ rfl rfl ?_) | (refine j_kCall rfl rfl rfl rfl ?_; first | refine jc (c_inRange _ _ _) (LeL.refl _) rfl rfl ?_) | refine j_box rfl rfl rfl rfl rfl rfl ?_)
      | refine j_nil ?_
      | (refine r_go ?_; first | refine run_seq ?_ | refine run_region ?_ | refine run_ret ?_)
      | refine seqQ_normal ?_)
  exact end1 rfl (List.Sublist.refl _) (rfl) (.inl rfl)
theorem c_isHeap1 (d : Division) (x : Int) (hd : 1 ≤ d.objects ∧ d.objects ≤ 64) : Gives Tryz.prog 94 [.int x, .ip (encDivision d)] (.raw (.bool (dec (¬ (0 ≤ x ∧ x ≤ d.objects - 1))))) := by
  refine fn_of_run tyOk ztOk mix Tryz.func94 rfl (by decide) Tryz.ntmps94 (fun w0 h => ?_)
  repeat' (first
      | (refine j_go ?_; first
        | refine j_op0 rfl rfl rfl rfl ?_ | (refine j_kCall rfl rfl rfl rfl ?_; first | refine jc (c_isObject _ _ hd) (LeL.refl _) rfl rfl ?_))
      | refine j_nil ?_
      | (refine r_go ?_; first | refine run_seq ?_ | refine run_region ?_ | refine run_ret ?_)
      | refine seqQ_normal ?_)
  exact end1 rfl (List.Sublist.refl _) (rbN Iff.rfl) (.inl rfl)
theorem heap_of {o most : Int} {l : List Int} (h1 : ∀ i (h : i < l.length), 0 < i → l[i-1] ≤ l[i]) (h2 : (l.length : Int) ≤ most) : (¬ ∃ x ∈ l, ¬ (0 ≤ x ∧ x ≤ o - 1)) ↔ HeapOf o l most := by
  constructor
  · intro h
    refine ⟨fun i hi => ⟨?_, h1 i hi⟩, h2⟩
    exact Classical.byContradiction fun q => h ⟨_, List.getElem_mem hi, q⟩
  · rintro ⟨h, _⟩ ⟨x, hx, q⟩
    obtain ⟨i, hi, rfl⟩ := List.getElem_of_mem hx
    exact q (h i hi).1
theorem c_isHeap (d : Division) (l : List Int) (most : Int) (hd : 1 ≤ d.objects ∧ d.objects ≤ 64) : Gives Tryz.prog 72 [.agg (encDivision d), .sl (l.map Go.AI.encI), .int most] (.raw (.bool (dec (HeapOf d.objects l most)))) := by
  refine fn_of_run tyOk ztOk mix Tryz.func72 rfl (by decide) Tryz.ntmps72 (fun w0 h => ?_)
  repeat' (first
      | (refine j_go ?_; first
        | refine j_op0 rfl rfl rfl rfl ?_ | refine j_off rfl rfl rfl ?_ | (refine j_kLen rfl ?_; first | refine j_len rfl rfl rfl rfl rfl rfl ?_) | (refine j_kCall rfl rfl rfl rfl ?_; first | refine jc (c_isSorted _) (LeL.refl _) rfl rfl ?_ | refine jc (c_cfI _ _ (fun x => ¬ (0 ≤ x ∧ x ≤ d.objects - 1)) _ (fun x _ => c_isHeap1 d x hd)) (LeL.refl _) rfl rfl ?_) | (refine j_kGuard rfl ?_; first | (refine (j_if rfl rfl rfl (fun hb => ?_) (fun hb => ?_)) <;> first | (exfalso; omega) | skip)) | refine j_box rfl rfl rfl rfl rfl rfl ?_)
      | refine j_nil ?_
      | (refine r_go ?_; first | refine run_seq ?_ | refine run_region ?_ | refine run_ret ?_)
      | refine seqQ_normal ?_)
  all_goals first | exact end1 rfl (List.Sublist.refl _) (rbN (heap_of (by assumption) (by assumption))) (.inl rfl) | exact end1 rfl (by first | exact List.Sublist.refl _ | exact sub1 | exact sub2 | exact sub3) (rbF (fun q => by first | exact hb (fun i h h0 => (q.1 i h).2 h0) | exact hb q.2)) (.inl rfl) | trace_state

/-- A rule of dividing cells is right. -/
def DivRule.Ok (o : Int) (r : DivRule) : Prop := (1 ≤ r.kind ∧ r.kind ≤ 7) ∧ (0 ≤ r.object ∧ r.object ≤ o - 1) ∧ (-1 ≤ r.charge ∧ r.charge ≤ 1) ∧ (-1 ≤ r.to ∧ r.to ≤ 1) ∧ (-1 ≤ r.toB ∧ r.toB ≤ 1) ∧ HeapOf o r.first 16 ∧ HeapOf o r.second 16 ∧
  (r.kind = 2 → r.charge = 0) ∧ ((r.kind ≤ 2 ∨ r.kind = 7) → r.to = 0) ∧ (r.kind = 6 ∨ r.toB = 0 ∧ (r.second.length : Int) = 0)
/-- A system of dividing cells is right. -/
def Division.Valid (d : Division) : Prop := (1 ≤ d.objects ∧ d.objects ≤ 64) ∧ d.rules.length ≤ 120 ∧ ∀ r ∈ d.rules, r.Ok d.objects

theorem c_l07Rule (d : Division) (r : DivRule) (hd : 1 ≤ d.objects ∧ d.objects ≤ 64) : Gives Tryz.prog 77 [.ip (encDivision d), .ip (encDivRule r)] (.raw (.bool (dec (r.Ok d.objects)))) := by
  refine fn_of_run tyOk ztOk mix Tryz.func77 rfl (by decide) Tryz.ntmps77 (fun w0 h => ?_)
  repeat' (first
      | (refine j_go ?_; first
        | refine j_op0 rfl rfl rfl rfl ?_ | refine j_off rfl rfl rfl ?_ | (refine j_kBin rfl ?_; first | refine j_in rfl rfl ⟨by omega, by omega⟩ rfl rfl ?_) | (refine j_kLen rfl ?_; first | refine j_len rfl rfl rfl rfl rfl rfl ?_) | (refine j_kCall rfl rfl rfl rfl ?_; first | refine jc (c_l00In _ _ _) (LeL.refl _) rfl rfl ?_ | refine jc (c_l07Charge _) (LeL.refl _) rfl rfl ?_ | refine jc (c_l07Heap _ _ _ hd) (LeL.refl _) rfl rfl ?_) | (refine j_kGuard rfl ?_; first | (refine (j_if rfl rfl rfl (fun hb => ?_) (fun hb => ?_)) <;> first | (exfalso; omega) | skip) | (refine (j_ifn rfl rfl rfl (fun hb => ?_) (fun hb => ?_)) <;> first | (exfalso; omega) | skip)))
      | refine j_nil ?_
      | (refine r_go ?_; first | refine run_seq ?_ | refine run_region ?_ | refine run_cond_t rfl ?_ | refine run_cond_f rfl ?_ | (refine (run_ifn rfl (fun hb => ?_) (fun hb => ?_)) <;> first | (exfalso; omega) | skip) | refine run_ret ?_ | refine run_skip ?_ | refine run_regionD (by kernel_rfl) ?_)
      | refine seqQ_normal ?_ | refine seqQ_ret ?_)
  all_goals first
    | exact end1 rfl (by first | exact List.Sublist.refl _ | exact sub1 | exact sub2 | exact sub3) (rbF (fun ⟨q1, q2, q3, q4, q5, q6, q7, q8, q9, q10⟩ => by first | contradiction | (exfalso; omega))) (.inl rfl)
    | exact end1 rfl (by first | exact List.Sublist.refl _ | exact sub1 | exact sub2 | exact sub3) (rbT (by refine ⟨by assumption, by assumption, by assumption, by assumption, by assumption, by assumption, by assumption, fun _ => ?_, fun _ => ?_, ?_⟩ <;> omega)) (.inl rfl)
    | exact end1 rfl (List.Sublist.refl _) (rbD ⟨fun q => by refine ⟨by assumption, by assumption, by assumption, by assumption, by assumption, by assumption, by assumption, fun _ => ?_, fun _ => ?_, ?_⟩ <;> omega, fun ⟨q1, q2, q3, q4, q5, q6, q7, q8, q9, q10⟩ => by omega⟩) (.inl rfl)
    | trace_state

theorem c_l07Ok (d : Division) : Gives Tryz.prog 51 [.ip (encDivision d)] (.raw (.bool (dec d.Valid))) := by
  refine fn_of_run tyOk ztOk mix Tryz.func51 rfl (by decide) Tryz.ntmps51 (fun w0 h => ?_)
  repeat' (first
      | (refine j_go ?_; first
        | refine j_op0 rfl rfl rfl rfl ?_ | refine j_off rfl rfl rfl ?_ | (refine j_kLen rfl ?_; first | refine j_len rfl rfl rfl rfl rfl rfl ?_) | (refine j_kCall rfl rfl rfl rfl ?_; first | refine jc (c_l00In _ _ _) (LeL.refl _) rfl rfl ?_) | (refine j_kGuard rfl ?_; first | (refine (j_ifn rfl rfl rfl (fun hb => ?_) (fun hb => ?_)) <;> first | (exfalso; omega) | skip)))
      | refine j_nil ?_
      | (refine r_go ?_; first | refine run_seq ?_ | refine run_region ?_ | refine run_cond_t rfl ?_ | (refine (run_if rfl (fun hb => ?_) (fun hb => ?_)) <;> first | (exfalso; omega) | skip) | refine run_block ?_ | refine run_ret ?_ | refine run_skip ?_)
      | refine seqQ_normal ?_ | refine seqQ_ret ?_)
  · exact end1 rfl (by first | exact List.Sublist.refl _ | exact sub1 | exact sub2 | exact sub3) (rbF (fun q => hb q.1)) (.inl rfl)
  · exact end1 rfl (by first | exact List.Sublist.refl _ | exact sub1 | exact sub2 | exact sub3) (rbF (fun q => by have := q.2.1; omega)) (.inl rfl)
  · have hd : 1 ≤ d.objects ∧ d.objects ≤ 64 := by assumption
    refine run_loop (fun k : Nat => [(0, .ip (encDivision d)), (3, .int (k : Int))]) (fun _ => _) (fun k => k ≤ d.rules.length ∧ (∀ i (h : i < d.rules.length), i < k → d.rules[i].Ok d.objects)) (fun k => d.rules.length - k) 0 ⟨rfl, rfl, trivial⟩ rfl ⟨Nat.zero_le _, by first | (intros; omega) | (simp; done) | rfl | trivial | exact ⟨by simp [sumF], by intros; omega⟩ | exact ⟨by omega, by simp⟩⟩ (fun k ⟨kl, kp⟩ => ?_)
    repeat' (first
      | (refine j_go ?_; first
        | refine j_op0 rfl rfl rfl rfl ?_ | (refine j_kIdx rfl ?_; first | refine j_idx rfl rfl rfl rfl rfl (by omega) rfl rfl rfl ?_) | (refine j_kBin rfl ?_; first | refine j_in rfl rfl ⟨by omega, by omega⟩ rfl rfl ?_) | (refine j_kLen rfl ?_; first | refine j_len rfl rfl rfl rfl rfl rfl ?_) | (refine j_kCall rfl rfl rfl rfl ?_; first | refine jc (c_l07Rule _ _ hd) (LeL.refl _) rfl rfl ?_))
      | refine j_nil ?_
      | (refine r_go ?_; first | refine run_seq ?_ | refine run_region ?_ | (refine (run_if rfl (fun hb => ?_) (fun hb => ?_)) <;> first | (exfalso; omega) | skip) | (refine (run_ifn rfl (fun hb => ?_) (fun hb => ?_)) <;> first | (exfalso; omega) | skip) | refine run_block ?_ | refine run_ret ?_ | refine run_exit ?_ | refine run_skip ?_)
      | refine seqQ_normal ?_ | refine seqQ_ret ?_ | refine seqQ_exit ?_ | refine blockQ_normal ?_ | refine blockQ_ret ?_ | refine blockQ_eq ?_ | refine loopQ_ret ?_ | refine loopQ_exit ?_)
    · exact end1 rfl (by first | exact List.Sublist.refl _ | exact sub1 | exact sub2 | exact sub3) (rbF (fun q => hb (q.2.2 _ (List.getElem_mem _)))) (.inl rfl)
    · exact loopQ_nextD (k + 1) ⟨by omega, all_step kp (fun _ => hb)⟩ (by omega) (by first | exact List.Sublist.refl _ | exact sub1 | exact sub2 | exact sub3) ⟨rfl, nx _, trivial⟩
    · exact end1 rfl (by first | exact List.Sublist.refl _ | exact sub1 | exact sub2 | exact sub3) (rbT (⟨hd, by omega, fun c hc => by obtain ⟨i, hi, rfl⟩ := List.getElem_of_mem hc; exact kp i hi (by omega)⟩)) (.inl rfl)


/-- The word of a kind of rules. -/
def formW (k : Int) : List UInt8 := if k = 1 then [103, 114, 111, 119] else if k = 2 then [115, 107, 105, 110] else if k = 3 then [116, 117, 114, 110] else if k = 4 then [111, 117, 116] else if k = 5 then [105, 110] else if k = 6 then [115, 112, 108, 105, 116] else if k = 7 then [109, 101, 108, 116] else []
noncomputable def formA (k : Int) : List A := [.str (formW k), .raw (.bool (dec (1 ≤ k ∧ k ≤ 7 ∧ k ≠ 2))), .raw (.bool (dec (3 ≤ k ∧ k ≤ 6))), .raw (.bool (dec (k = 6)))]
theorem form_f {k : Int} (h : ¬ (1 ≤ k ∧ k ≤ 7)) : A.tup [.agg [.str [], .raw (.bool false), .raw (.bool false), .raw (.bool false)], .raw (.bool false)] = A.tup [.agg (formA k), .raw (.bool (dec (1 ≤ k ∧ k ≤ 7)))] := by
  unfold formA formW
  rw [dec_f h, dec_f (by omega), dec_f (by omega), dec_f (by omega)]
  rw [if_neg (by omega), if_neg (by omega), if_neg (by omega), if_neg (by omega), if_neg (by omega), if_neg (by omega), if_neg (by omega)]

theorem form_t {k : Int} {w : List UInt8} {c t d : Bool} (h : formW k = w ∧ dec (1 ≤ k ∧ k ≤ 7 ∧ k ≠ 2) = c ∧ dec (3 ≤ k ∧ k ≤ 6) = t ∧ dec (k = 6) = d ∧ 1 ≤ k ∧ k ≤ 7) : A.tup [.agg [.str w, .raw (.bool c), .raw (.bool t), .raw (.bool d)], .raw (.bool true)] = A.tup [.agg (formA k), .raw (.bool (dec (1 ≤ k ∧ k ≤ 7)))] := by
  obtain ⟨rfl, rfl, rfl, rfl, h⟩ := h
  rw [dec_t h]; rfl

theorem c_formOf (k : Int) : Gives Tryz.prog 85 [.int k] (.tup [.agg (formA k), .raw (.bool (dec (1 ≤ k ∧ k ≤ 7)))]) := by
  refine fn_of_run tyOk ztOk mix Tryz.func85 rfl (by decide) Tryz.ntmps85 (fun w0 h => ?_)
  repeat' (first
      | (refine j_go ?_; first
        | refine j_op0 rfl rfl rfl rfl ?_ | (refine j_kStore rfl ?_; first | refine j_storeN 0 rfl rfl rfl rfl rfl rfl rfl rfl rfl rfl rfl ?_) | refine j_build rfl rfl rfl rfl rfl rfl rfl ?_ | refine j_alloc rfl rfl rfl rfl rfl (fun _ => ?_))
      | refine j_nil ?_
      | (refine r_go ?_; first | refine run_seq ?_ | refine run_region ?_ | (refine (run_if rfl (fun hb => ?_) (fun hb => ?_)) <;> first | (exfalso; omega) | skip) | refine run_block ?_ | refine run_ret ?_ | refine run_skip ?_)
      | refine seqQ_normal ?_ | refine seqQ_ret ?_ | refine blockQ_normal ?_ | refine blockQ_ret ?_)
  all_goals first
    | exact end_cell2 rfl 0 rfl rfl rfl sub1 (form_t (by rename_i hb; subst hb; simp [formW, dec_eq])) (.inl rfl)
    | exact end_cell2 rfl 0 rfl rfl rfl sub1 (form_f (by omega)) (.inl rfl)
    | trace_state

theorem c_isRule (d : Division) (r : DivRule) (hd : 1 ≤ d.objects ∧ d.objects ≤ 64) : Gives Tryz.prog 59 [.agg (encDivision d), .agg (encDivRule r)] (.raw (.bool (dec (r.Ok d.objects)))) := by
  refine fn_of_run tyOk ztOk mix Tryz.func59 rfl (by decide) Tryz.ntmps59 (fun w0 h => ?_)
  repeat' (first
      | (refine j_go ?_; first
        | refine j_op0 rfl rfl rfl rfl ?_ | refine j_off rfl rfl rfl ?_ | (refine j_kLen rfl ?_; first | refine j_len rfl rfl rfl rfl rfl rfl ?_) | (refine j_kCall rfl rfl rfl rfl ?_; first | refine jc (c_formOf _) (LeL.refl _) rfl rfl ?_ | refine jc (c_isCharge _) (LeL.refl _) rfl rfl ?_ | refine jc (c_isObject _ _ hd) (LeL.refl _) rfl rfl ?_ | refine jc (c_isHeap _ _ _ hd) (LeL.refl _) rfl rfl ?_) | (refine j_kLoad rfl ?_; first | refine j_mload 0 rfl rfl rfl rfl rfl rfl rfl ?_) | (refine j_kStore rfl ?_; first | refine j_storeN 0 rfl rfl rfl rfl rfl rfl rfl rfl rfl rfl rfl ?_) | (refine j_kGuard rfl ?_; first | (refine (j_if rfl rfl rfl (fun hb => ?_) (fun hb => ?_)) <;> first | (exfalso; omega) | skip) | (refine (j_ifn rfl rfl rfl (fun hb => ?_) (fun hb => ?_)) <;> first | (exfalso; omega) | skip)) | refine j_box rfl rfl rfl rfl rfl rfl ?_ | refine j_alloc rfl rfl rfl rfl rfl (fun _ => ?_))
      | refine j_nil ?_
      | (refine r_go ?_; first | refine run_seq ?_ | refine run_region ?_ | refine run_cond_t rfl ?_ | (refine (run_ifn rfl (fun hb => ?_) (fun hb => ?_)) <;> first | (exfalso; omega) | skip) | refine run_ret ?_ | refine run_skip ?_)
      | refine seqQ_normal ?_ | refine seqQ_ret ?_)
  all_goals first
    | exact end1 rfl (by first | exact List.Sublist.refl _ | exact sub1 | exact sub2 | exact sub3) (rbF (fun ⟨q1, q2, q3, q4, q5, q6, q7, q8, q9, q10⟩ => by first | contradiction | (exfalso; omega))) (.inl rfl)
    | exact end1 rfl (by first | exact List.Sublist.refl _ | exact sub1 | exact sub2 | exact sub3) (rbT (by refine ⟨by assumption, by assumption, by assumption, by assumption, by assumption, by assumption, by assumption, fun _ => ?_, fun _ => ?_, ?_⟩ <;> omega)) (.inl rfl)
    | exact end1 rfl (by first | exact List.Sublist.refl _ | exact sub1 | exact sub2 | exact sub3) (rbD ⟨fun q => by refine ⟨by assumption, by assumption, by assumption, by assumption, by assumption, by assumption, by assumption, fun _ => ?_, fun _ => ?_, ?_⟩ <;> omega, fun ⟨q1, q2, q3, q4, q5, q6, q7, q8, q9, q10⟩ => by omega⟩) (.inl rfl)
    | trace_state

theorem c_iValidDivision1 (d : Division) (r : DivRule) (hd : 1 ≤ d.objects ∧ d.objects ≤ 64) : Gives Tryz.prog 58 [.agg (encDivRule r), .ip (encDivision d)] (.raw (.bool (dec (¬ r.Ok d.objects)))) := by
  refine fn_of_run tyOk ztOk mix Tryz.func58 rfl (by decide) Tryz.ntmps58 (fun w0 h => ?_)
  repeat' (first
      | (refine j_go ?_; first
        | refine j_op0 rfl rfl rfl rfl ?_ | (refine j_kCall rfl rfl rfl rfl ?_; first | refine jc (c_isRule _ _ hd) (LeL.refl _) rfl rfl ?_) | refine j_box rfl rfl rfl rfl rfl rfl ?_)
      | refine j_nil ?_
      | (refine r_go ?_; first | refine run_seq ?_ | refine run_region ?_ | refine run_ret ?_)
      | refine seqQ_normal ?_)
  exact end1 rfl (List.Sublist.refl _) (rbN Iff.rfl) (.inl rfl)

theorem c_iValidDivision (d : Division) : Gives Tryz.prog 28 [.agg (encDivision d)] (.raw (.bool (dec d.Valid))) := by
  refine fn_of_run tyOk ztOk mix Tryz.func28 rfl (by decide) Tryz.ntmps28 (fun w0 h => ?_)
  repeat' (first
      | (refine j_go ?_; first
        | refine j_op0 rfl rfl rfl rfl ?_ | refine j_off rfl rfl rfl ?_ | (refine j_kLen rfl ?_; first | refine j_len rfl rfl rfl rfl rfl rfl ?_) | (refine j_kCall rfl rfl rfl rfl ?_; first | refine jc (c_inRange _ _ _) (LeL.refl _) rfl rfl ?_) | (refine j_kGuard rfl ?_; first | (refine (j_if rfl rfl rfl (fun hb => ?_) (fun hb => ?_)) <;> first | (exfalso; omega) | skip)) | refine j_box rfl rfl rfl rfl rfl rfl ?_)
      | refine j_nil ?_
      | (refine r_go ?_; first | refine run_seq ?_ | refine run_region ?_ | refine run_ret ?_)
      | refine seqQ_normal ?_)
  · have hd : 1 ≤ d.objects ∧ d.objects ≤ 64 := by assumption
    repeat' (first
      | (refine j_go ?_; first
        | refine j_op0 rfl rfl rfl rfl ?_ | (refine j_kCall rfl rfl rfl rfl ?_; first | refine jc (c_cfD _ _ (fun r => ¬ r.Ok d.objects) _ (fun r _ => c_iValidDivision1 d r hd)) (LeL.refl _) rfl rfl ?_))
      | refine j_nil ?_
      | (refine r_go ?_; first | refine run_ret ?_)
      | refine seqQ_normal ?_)
    exact end1 rfl (List.Sublist.refl _) (rbN ⟨fun h => ⟨hd, by omega, fun r hr => Classical.byContradiction fun q => h ⟨r, hr, q⟩⟩, fun h ⟨r, hr, q⟩ => q (h.2.2 r hr)⟩) (.inl rfl)
  all_goals first | exact end1 rfl (by first | exact List.Sublist.refl _ | exact sub1 | exact sub2 | exact sub3) (rbF (fun q => hb q.1)) (.inl rfl) | exact end1 rfl (by first | exact List.Sublist.refl _ | exact sub1 | exact sub2 | exact sub3) (rbF (fun q => by have := q.2.1; omega)) (.inl rfl) | trace_state

end Go.Proofs.YtbhiaccbpbnbmaaGreat
