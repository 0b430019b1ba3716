/-
  Bags: what the small functions on bags of the reference and of the program compute. No condition.
-/
import Derived.Test.YtlllmhjpcdcoiaaZG0
import Derived.Test.YtlllmhjpcdcoiaaZG2
import Derived.Test.YtlllmhjpcdcoiaaZOP
namespace Go.Proofs.Ytlllmhjpcdcoiaa
open Go.AI
set_option maxRecDepth 8000
set_option maxHeartbeats 1600000

/-- A bag for so many kinds. -/
def BagK (k : Int) (b : List Int) : Prop := Bag b ∧ (b.length : Int) = k
theorem BagK.bnd {k : Int} {b : List Int} (h : BagK k b) : 0 ≤ tot b ∧ tot b ≤ 8000 := by
  have := h.1.take b.length (Nat.le_refl _)
  have := h.1.2.2
  rw [List.take_length] at *
  unfold tot; omega

theorem c_l01Bag (b : List Int) : Gives Try.prog 69 [.sl (b.map Go.AI.encI)] (.raw (.bool (dec (Bag b)))) := by
  refine fn_of_run tyOk ztOk mix Try.func69 rfl (by decide) Try.ntmps69 (fun w0 h => ?_)
  refine run_len (t := 0) rfl (fun hl => ?_)
  rw [List.length_map] at hl
  repeat' (first
      | (refine j_go ?_; first
        | refine j_op0 rfl rfl rfl rfl ?_)
      | refine j_nil ?_
      | (refine r_go ?_; first | refine run_seq ?_ | refine run_region ?_ | refine run_block ?_)
      | refine seqQ_normal ?_)
  refine run_loop (fun k : Nat => [(0, .sl (b.map Go.AI.encI)), (3, .int (k : Int))]) (fun _ => _) (fun k => k ≤ b.length ∧ (∀ i (h : i < b.length), i < k → 0 ≤ b[i] ∧ b[i] ≤ 1000)) (fun k => b.length - k) 0 ⟨rfl, rfl, trivial⟩ rfl ⟨Nat.zero_le _, by first | (intros; omega) | (simp; done) | rfl | trivial | exact ⟨by simp [sumF], by intros; omega⟩ | exact ⟨by omega, by simp⟩⟩ (fun k ⟨kl, kp⟩ => ?_)
  repeat' (first
      | (refine j_go ?_; first
        | refine j_op0 rfl rfl rfl rfl ?_ | (refine j_kIdx rfl ?_; first | refine j_idx rfl rfl rfl rfl rfl (by omega) rfl rfl rfl ?_) | (refine j_kBin rfl ?_; first | refine j_in rfl rfl ⟨by omega, by omega⟩ rfl rfl ?_) | (refine j_kLen rfl ?_; first | refine j_len rfl rfl rfl rfl rfl rfl ?_) | (refine j_kCall rfl rfl rfl rfl ?_; first | refine jc (c_l00In _ _ _) (LeL.refl _) rfl rfl ?_))
      | refine j_nil ?_
      | (refine r_go ?_; first | refine run_seq ?_ | refine run_region ?_ | (refine (run_if rfl (fun hb => ?_) (fun hb => ?_)) <;> first | (exfalso; omega) | skip) | (refine (run_ifn rfl (fun hb => ?_) (fun hb => ?_)) <;> first | (exfalso; omega) | skip) | refine run_block ?_ | refine run_ret ?_ | refine run_exit ?_ | refine run_skip ?_)
      | refine seqQ_normal ?_ | refine seqQ_ret ?_ | refine seqQ_exit ?_ | refine blockQ_normal ?_ | refine blockQ_ret ?_ | refine blockQ_eq ?_ | refine loopQ_ret ?_ | refine loopQ_exit ?_)
  · exact end1 rfl (by first | exact List.Sublist.refl _ | exact sub1 | exact sub2 | exact sub3) (rbF (fun q => hb (q.1 _ (List.getElem_mem _)))) (.inl rfl)
  · exact loopQ_nextD (k + 1) ⟨by omega, all_step kp (fun _ => hb)⟩ (by omega) (by first | exact List.Sublist.refl _ | exact sub1 | exact sub2 | exact sub3) ⟨rfl, nx _, trivial⟩
  · exact end1 rfl (List.Sublist.refl _) (rbD ⟨fun q => ⟨fun x hx => by obtain ⟨i, hi, rfl⟩ := List.getElem_of_mem hx; exact kp i hi (by omega), by omega, by omega⟩, fun q => by have := q.2; omega⟩) (.inl rfl)

theorem c_l02Bag (s : System) (b : List Int) : Gives Try.prog 50 [.ip (encSystem s), .sl (b.map Go.AI.encI)] (.raw (.bool (dec (BagK s.kinds b)))) := by
  refine fn_of_run tyOk ztOk mix Try.func50 rfl (by decide) Try.ntmps50 (fun w0 h => ?_)
  repeat' (first
      | (refine j_go ?_; first
        | refine j_op0 rfl rfl rfl rfl ?_ | refine j_off rfl rfl rfl ?_ | (refine j_kLen rfl ?_; first | refine j_len rfl rfl rfl rfl rfl rfl ?_) | (refine j_kCall rfl rfl rfl rfl ?_; first | refine jc (c_l01Bag _) (LeL.refl _) rfl rfl ?_) | (refine j_kGuard rfl ?_; first | (refine (j_if rfl rfl rfl (fun hb => ?_) (fun hb => ?_)) <;> first | (exfalso; omega) | skip)))
      | refine j_nil ?_
      | (refine r_go ?_; first | refine run_seq ?_ | refine run_region ?_ | refine run_ret ?_)
      | refine seqQ_normal ?_)
  · exact end1 rfl (List.Sublist.refl _) (rbD ⟨fun q => ⟨by assumption, q⟩, fun q => q.2⟩) (.inl rfl)
  · exact end1 rfl (by first | exact List.Sublist.refl _ | exact sub1 | exact sub2 | exact sub3) (rbF (fun q => hb q.1)) (.inl rfl)

theorem c_l01Size (b : List Int) (hB : Small b) : Gives Try.prog 51 [.sl (b.map Go.AI.encI)] (.int (tot b)) := by
  refine fn_of_run tyOk ztOk mix Try.func51 rfl (by decide) Try.ntmps51 (fun w0 h => ?_)
  have hB2 := hB.2
  repeat' (first
      | (refine j_go ?_; first
        | refine j_op0 rfl rfl rfl rfl ?_)
      | refine j_nil ?_
      | (refine r_go ?_; first | refine run_seq ?_ | refine run_region ?_ | refine run_block ?_)
      | refine seqQ_normal ?_)
  refine run_loop (fun k : Nat => [(0, .sl (b.map Go.AI.encI)), (3, .int (sumF (fun x => x) (b.take k))), (4, .int (k : Int))]) (fun _ => _) (fun k => k ≤ b.length ∧ (True)) (fun k => b.length - k) 0 ⟨rfl, (by first | rfl | exact si (by first | omega | (simp; done) | (simp [sumF]; done) | (simp; omega)) | exact raw_f (by simp) | exact raw_t (by simp) | exact sa (by first | (rw [catK_zero]; rfl) | (rw [catK_zero, List.append_nil]; rfl) | (rw [catK_zero, List.append_nil]) | (rw [joinK_zero, List.append_nil]; rfl) | (rw [joinK_zero, List.append_nil]) | (simp [catK]; done))), rfl, trivial⟩ rfl ⟨Nat.zero_le _, by first | (intros; omega) | (simp; done) | rfl | trivial | exact ⟨by simp [sumF], by intros; omega⟩ | exact ⟨by omega, by simp⟩⟩ (fun k ⟨kl, kp⟩ => ?_)
  have b1 := hB.take k kl
  by_cases hk : k < b.length
  · have b2 := hB.1 _ (List.getElem_mem hk)
    repeat' (first
      | (refine j_go ?_; first
        | refine j_op0 rfl rfl rfl rfl ?_ | (refine j_kIdx rfl ?_; first | refine j_idx rfl rfl rfl rfl rfl (by omega) rfl rfl rfl ?_) | (refine j_kBin rfl ?_; first | refine j_in rfl rfl ⟨by omega, by omega⟩ rfl rfl ?_) | (refine j_kLen rfl ?_; first | refine j_len rfl rfl rfl rfl rfl rfl ?_))
      | refine j_nil ?_
      | (refine r_go ?_; first | refine run_seq ?_ | refine run_region ?_ | (refine (run_if rfl (fun hb => ?_) (fun hb => ?_)) <;> first | (exfalso; omega) | skip) | refine run_block ?_ | refine run_skip ?_)
      | refine seqQ_normal ?_ | refine blockQ_normal ?_)
    exact loopQ_nextD (k + 1) ⟨by omega, trivial⟩ (by omega) (by first | exact List.Sublist.refl _ | exact sub1 | exact sub2 | exact sub3) ⟨rfl, (by first | rfl | (rw [sumF_succ (fun x => x) hk]; try rfl) | exact si (by omega)), nx _, trivial⟩
  · repeat' (first
      | (refine j_go ?_; first
        | refine j_op0 rfl rfl rfl rfl ?_ | (refine j_kLen rfl ?_; first | refine j_len rfl rfl rfl rfl rfl rfl ?_))
      | refine j_nil ?_
      | (refine r_go ?_; first | refine run_seq ?_ | refine run_region ?_ | (refine (run_if rfl (fun hb => ?_) (fun hb => ?_)) <;> first | (exfalso; omega) | skip) | refine run_ret ?_ | refine run_exit ?_)
      | refine seqQ_normal ?_ | refine seqQ_exit ?_ | refine blockQ_eq ?_ | refine loopQ_exit ?_)
    exact end1 rfl (List.Sublist.refl _) (ai (by rw [List.take_of_length_le (by omega)]; rfl)) (.inl rfl)

theorem c_bagSize (b : List Int) (hB : Small b) : Gives Try.prog 43 [.sl (b.map Go.AI.encI)] (.int (tot b)) := by
  refine fn_of_run tyOk ztOk mix Try.func43 rfl (by decide) Try.ntmps43 (fun w0 h => ?_)
  have hB2 := hB.2
  repeat' (first
      | (refine j_go ?_; first
        | refine j_op0 rfl rfl rfl rfl ?_ | (refine j_kLen rfl ?_; first | refine j_len rfl rfl rfl rfl rfl rfl ?_))
      | refine j_nil ?_
      | (refine r_go ?_; first | refine run_seq ?_ | refine run_region ?_ | refine run_block ?_)
      | refine seqQ_normal ?_)
  refine run_loop (fun k : Nat => [(3, .int (sumF (fun x => x) (b.take k))), (6, .sl (b.map Go.AI.encI)), (7, .int b.length), (8, .int (k : Int))]) (fun _ => _) (fun k => k ≤ b.length ∧ (True)) (fun k => b.length - k) 0 ⟨(by first | rfl | exact si (by first | omega | (simp; done) | (simp [sumF]; done) | (simp; omega)) | exact raw_f (by simp) | exact raw_t (by simp) | exact sa (by first | (rw [catK_zero]; rfl) | (rw [catK_zero, List.append_nil]; rfl) | (rw [catK_zero, List.append_nil]) | (rw [joinK_zero, List.append_nil]; rfl) | (rw [joinK_zero, List.append_nil]) | (simp [catK]; done))), rfl, rfl, rfl, trivial⟩ rfl ⟨Nat.zero_le _, by first | (intros; omega) | (simp; done) | rfl | trivial | exact ⟨by simp [sumF], by intros; omega⟩ | exact ⟨by omega, by simp⟩⟩ (fun k ⟨kl, kp⟩ => ?_)
  have b1 := hB.take k kl
  by_cases hk : k < b.length
  · have b2 := hB.1 _ (List.getElem_mem hk)
    repeat' (first
      | (refine j_go ?_; first
        | refine j_op0 rfl rfl rfl rfl ?_ | (refine j_kIdx rfl ?_; first | refine j_idx rfl rfl rfl rfl rfl (by omega) rfl rfl rfl ?_) | (refine j_kBin rfl ?_; first | refine j_in rfl rfl ⟨by omega, by omega⟩ rfl rfl ?_))
      | refine j_nil ?_
      | (refine r_go ?_; first | refine run_seq ?_ | refine run_region ?_ | (refine (run_if rfl (fun hb => ?_) (fun hb => ?_)) <;> first | (exfalso; omega) | skip) | refine run_block ?_ | refine run_skip ?_)
      | refine seqQ_normal ?_ | refine blockQ_normal ?_)
    exact loopQ_nextD (k + 1) ⟨by omega, trivial⟩ (by omega) (by first | exact List.Sublist.refl _ | exact sub1 | exact sub2 | exact sub3) ⟨(by first | rfl | (rw [sumF_succ (fun x => x) hk]; try rfl) | exact si (by omega)), rfl, rfl, nx _, trivial⟩
  · repeat' (first
      | (refine j_go ?_; first
        | refine j_op0 rfl rfl rfl rfl ?_)
      | refine j_nil ?_
      | (refine r_go ?_; first | refine run_seq ?_ | refine run_region ?_ | (refine (run_if rfl (fun hb => ?_) (fun hb => ?_)) <;> first | (exfalso; omega) | skip) | refine run_ret ?_ | refine run_exit ?_)
      | refine seqQ_normal ?_ | refine seqQ_exit ?_ | refine blockQ_eq ?_ | refine loopQ_exit ?_)
    exact end1 rfl (List.Sublist.refl _) (ai (by rw [List.take_of_length_le (by omega)]; rfl)) (.inl rfl)

theorem c_sizeI (l : List Int) : Gives Try.prog 58 [.sl (l.map Go.AI.encI)] (.int l.length) := by
  refine fn_of_run tyOk ztOk mix Try.func58 rfl (by decide) Try.ntmps58 (fun w0 h => ?_)
  repeat' (first
      | (refine j_go ?_; first
        | refine j_op0 rfl rfl rfl rfl ?_ | (refine j_kLen rfl ?_; first | refine j_len rfl rfl rfl rfl rfl rfl ?_))
      | refine j_nil ?_
      | (refine r_go ?_; first | refine run_seq ?_ | refine run_region ?_ | refine run_ret ?_)
      | refine seqQ_normal ?_)
  exact end1 rfl (List.Sublist.refl _) (rfl) (.inl rfl)

theorem c_ValidBag1 (x : Int) : Gives Try.prog 60 [.int x] (.raw (.bool (dec (¬ (0 ≤ x ∧ x ≤ 1000))))) := by
  refine fn_of_run tyOk ztOk mix Try.func60 rfl (by decide) Try.ntmps60 (fun w0 h => ?_)
  repeat' (first
      | (refine j_go ?_; first
        | refine j_op0 rfl rfl rfl rfl ?_ | (refine j_kCall rfl rfl rfl rfl ?_; first | refine jc (c_inRange _ _ _) (LeL.refl _) rfl rfl ?_))
      | refine j_nil ?_
      | (refine r_go ?_; first | refine run_seq ?_ | refine run_region ?_ | refine run_ret ?_)
      | refine seqQ_normal ?_)
  exact end1 rfl (List.Sublist.refl _) (rbN Iff.rfl) (.inl rfl)

theorem bag_of {k : Int} {b : List Int} (h1 : 1 ≤ k ∧ k ≤ 8) (h2 : (b.length : Int) = k) : (¬ ∃ x ∈ b, ¬ (0 ≤ x ∧ x ≤ 1000)) ↔ BagK k b := by
  constructor
  · intro h
    exact ⟨⟨fun x hx => Classical.byContradiction fun q => h ⟨x, hx, q⟩, by omega, by omega⟩, h2⟩
  · rintro h ⟨x, hx, q⟩
    exact q (h.1.1 x hx)
theorem c_ValidBag (k : Int) (b : List Int) : Gives Try.prog 42 [.int k, .sl (b.map Go.AI.encI)] (.raw (.bool (dec (BagK k b)))) := by
  refine fn_of_run tyOk ztOk mix Try.func42 rfl (by decide) Try.ntmps42 (fun w0 h => ?_)
  repeat' (first
      | (refine j_go ?_; first
        | refine j_op0 rfl rfl rfl rfl ?_ | refine j_off rfl rfl rfl ?_ | (refine j_kCall rfl rfl rfl rfl ?_; first | refine jc (c_inRange _ _ _) (LeL.refl _) rfl rfl ?_ | refine jc (c_sizeI _) (LeL.refl _) rfl rfl ?_ | refine jc (c_cfI _ _ (fun x => ¬ (0 ≤ x ∧ x ≤ 1000)) _ (fun x _ => c_ValidBag1 x)) (LeL.refl _) rfl rfl ?_) | (refine j_kGuard rfl ?_; first | (refine (j_if rfl rfl rfl (fun hb => ?_) (fun hb => ?_)) <;> first | (exfalso; omega) | skip)))
      | refine j_nil ?_
      | (refine r_go ?_; first | refine run_seq ?_ | refine run_region ?_ | refine run_ret ?_)
      | refine seqQ_normal ?_)
  all_goals first | exact end1 rfl (List.Sublist.refl _) (rbN (bag_of (by assumption) (by assumption))) (.inl rfl) | exact end1 rfl (by first | exact List.Sublist.refl _ | exact sub1 | exact sub2 | exact sub3) (rbF (fun q => by have := q.1.2; have := q.2; omega)) (.inl rfl) | trace_state

/-! #### The frame of a system -/
def System.Frame (s : System) : Prop := (1 ≤ s.kinds ∧ s.kinds ≤ 8) ∧ (1 ≤ s.parents.length ∧ s.parents.length ≤ 6) ∧ s.parents[0]? = some (-1) ∧ ∀ c (h : c < s.parents.length), 1 ≤ c → 0 ≤ s.parents[c] ∧ s.parents[c] ≤ (c : Int) - 1
theorem System.Frame.zero {s : System} (h : s.Frame) : s.parents[0]'(by have := h.2.1; omega) = -1 := by
  have h1 := h.2.2.1
  rw [List.getElem?_eq_getElem (by have := h.2.1; omega)] at h1
  exact Option.some.inj h1

theorem c_l02Frame (s : System) : Gives Try.prog 48 [.ip (encSystem s)] (.raw (.bool (dec s.Frame))) := by
  refine fn_of_run tyOk ztOk mix Try.func48 rfl (by decide) Try.ntmps48 (fun w0 h => ?_)
  repeat' (first
      | (refine j_go ?_; first
        | refine j_op0 rfl rfl rfl rfl ?_ | refine j_off rfl rfl rfl ?_ | (refine j_kIdx rfl ?_; first | refine j_idxz rfl rfl rfl rfl rfl ⟨by omega, by omega⟩ rfl rfl rfl ?_) | (refine j_kLen rfl ?_; first | refine j_len rfl rfl rfl rfl rfl rfl ?_) | (refine j_kCall rfl rfl rfl rfl ?_; first | refine jc (c_l00In _ _ _) (LeL.refl _) rfl rfl ?_) | (refine j_kGuard rfl ?_; first | (refine (j_ifn rfl rfl rfl (fun hb => ?_) (fun hb => ?_)) <;> first | (exfalso; omega) | skip)))
      | refine j_nil ?_
      | (refine r_go ?_; first | refine run_seq ?_ | refine run_region ?_ | refine run_cond_t rfl ?_ | (refine (run_ifn rfl (fun hb => ?_) (fun hb => ?_)) <;> first | (exfalso; omega) | skip) | refine run_block ?_ | refine run_ret ?_ | refine run_skip ?_)
      | refine seqQ_normal ?_ | refine seqQ_ret ?_)
  · exact end1 rfl (by first | exact List.Sublist.refl _ | exact sub1 | exact sub2 | exact sub3) (rbF (fun q => hb q.1)) (.inl rfl)
  · exact end1 rfl (by first | exact List.Sublist.refl _ | exact sub1 | exact sub2 | exact sub3) (rbF (fun q => by have := q.2.1; omega)) (.inl rfl)
  · exact end1 rfl (by first | exact List.Sublist.refl _ | exact sub1 | exact sub2 | exact sub3) (rbF (fun q => by have := q.zero; exact hb this)) (.inl rfl)
  · have h0 : (s.parents[0]'(by omega)) = -1 := by assumption
    refine run_loop (fun k : Nat => [(0, .ip (encSystem s)), (3, .int (k : Int))]) (fun _ => _) (fun k => 1 ≤ k ∧ k ≤ s.parents.length ∧ (∀ c (h : c < s.parents.length), c < k → 1 ≤ c → 0 ≤ s.parents[c] ∧ s.parents[c] ≤ (c : Int) - 1)) (fun k => s.parents.length - k) 1 ⟨rfl, rfl, trivial⟩ rfl ⟨Nat.le_refl _, by omega, by first | (intros; omega) | (simp; done) | rfl | trivial | exact ⟨by simp [sumF], by intros; omega⟩ | exact ⟨by omega, by simp⟩⟩ (fun k ⟨ks, kl, kp⟩ => ?_)
    repeat' (first
      | (refine j_go ?_; first
        | refine j_op0 rfl rfl rfl rfl ?_ | (refine j_kIdx rfl ?_; first | refine j_idx rfl rfl rfl rfl rfl (by omega) rfl rfl rfl ?_) | (refine j_kBin rfl ?_; first | refine j_in rfl rfl ⟨by omega, by omega⟩ rfl rfl ?_) | (refine j_kLen rfl ?_; first | refine j_len rfl rfl rfl rfl rfl rfl ?_) | (refine j_kCall rfl rfl rfl rfl ?_; first | refine jc (c_l00In _ _ _) (LeL.refl _) rfl rfl ?_))
      | refine j_nil ?_
      | (refine r_go ?_; first | refine run_seq ?_ | refine run_region ?_ | (refine (run_if rfl (fun hb => ?_) (fun hb => ?_)) <;> first | (exfalso; omega) | skip) | (refine (run_ifn rfl (fun hb => ?_) (fun hb => ?_)) <;> first | (exfalso; omega) | skip) | refine run_block ?_ | refine run_ret ?_ | refine run_exit ?_ | refine run_skip ?_)
      | refine seqQ_normal ?_ | refine seqQ_ret ?_ | refine seqQ_exit ?_ | refine blockQ_normal ?_ | refine blockQ_ret ?_ | refine blockQ_eq ?_ | refine loopQ_ret ?_ | refine loopQ_exit ?_)
    · exact end1 rfl (by first | exact List.Sublist.refl _ | exact sub1 | exact sub2 | exact sub3) (rbF (fun q => hb (q.2.2.2 k (by omega) (by omega)))) (.inl rfl)
    · exact loopQ_nextD (k + 1) ⟨by omega, by omega, all_step kp (fun _ _ => hb)⟩ (by omega) (by first | exact List.Sublist.refl _ | exact sub1 | exact sub2 | exact sub3) ⟨rfl, nx _, trivial⟩
    · exact end1 rfl (by first | exact List.Sublist.refl _ | exact sub1 | exact sub2 | exact sub3) (rbT (⟨by assumption, by omega, by rw [List.getElem?_eq_getElem (by omega), h0], fun c h1 h2 => kp c h1 (by omega) h2⟩)) (.inl rfl)

theorem c_isShell (s : System) : Gives Try.prog 55 [.agg (encSystem s)] (.raw (.bool (dec s.Frame))) := by
  refine fn_of_run tyOk ztOk mix Try.func55 rfl (by decide) Try.ntmps55 (fun w0 h => ?_)
  repeat' (first
      | (refine j_go ?_; first
        | refine j_op0 rfl rfl rfl rfl ?_ | refine j_off rfl rfl rfl ?_ | (refine j_kIdx rfl ?_; first | refine j_idxz rfl rfl rfl rfl rfl ⟨by omega, by omega⟩ rfl rfl rfl ?_) | (refine j_kLen rfl ?_; first | refine j_len rfl rfl rfl rfl rfl rfl ?_) | (refine j_kCall rfl rfl rfl rfl ?_; first | refine jc (c_inRange _ _ _) (LeL.refl _) rfl rfl ?_ | refine jc (c_sizeI _) (LeL.refl _) rfl rfl ?_) | (refine j_kSlice rfl ?_; first | refine j_tail 1 rfl rfl rfl rfl rfl (by omega) (fun _ => rfl) rfl rfl ?_) | (refine j_kGuard rfl ?_; first | (refine (j_ifn rfl rfl rfl (fun hb => ?_) (fun hb => ?_)) <;> first | (exfalso; omega) | skip)) | refine j_box rfl rfl rfl rfl rfl rfl ?_)
      | refine j_nil ?_
      | (refine r_go ?_; first | refine run_seq ?_ | refine run_region ?_ | refine run_cond_t rfl ?_ | (refine (run_ifn rfl (fun hb => ?_) (fun hb => ?_)) <;> first | (exfalso; omega) | skip) | refine run_block ?_ | refine run_ret ?_ | refine run_skip ?_)
      | refine seqQ_normal ?_ | refine seqQ_ret ?_)
  · exact end1 rfl (by first | exact List.Sublist.refl _ | exact sub1 | exact sub2 | exact sub3) (rbF (fun q => hb q.1)) (.inl rfl)
  · exact end1 rfl (by first | exact List.Sublist.refl _ | exact sub1 | exact sub2 | exact sub3) (rbF (fun q => by have := q.2.1; omega)) (.inl rfl)
  · exact end1 rfl (by first | exact List.Sublist.refl _ | exact sub1 | exact sub2 | exact sub3) (rbF (fun q => by have := q.zero; exact hb this)) (.inl rfl)
  · have h0 : (s.parents[0]'(by omega)) = -1 := by assumption
    have hl : (s.parents.drop 1).length = s.parents.length - 1 := by simp
    refine run_loop (fun k : Nat => [(25, .sl ((s.parents.drop 1).map Go.AI.encI)), (26, .int (s.parents.drop 1).length), (27, .int (k : Int))]) (fun _ => _) (fun k => k ≤ (s.parents.drop 1).length ∧ (∀ c (h : c < s.parents.length), c < k + 1 → 1 ≤ c → 0 ≤ s.parents[c] ∧ s.parents[c] ≤ (c : Int) - 1)) (fun k => (s.parents.drop 1).length - k) 0 ⟨rfl, rfl, rfl, trivial⟩ rfl ⟨Nat.zero_le _, by first | (intros; omega) | (simp; done) | rfl | trivial | exact ⟨by simp [sumF], by intros; omega⟩ | exact ⟨by omega, by simp⟩⟩ (fun k ⟨kl, kp⟩ => ?_)
    repeat' (first
      | (refine j_go ?_; first
        | refine j_op0 rfl rfl rfl rfl ?_ | (refine j_kIdx rfl ?_; first | refine j_idx rfl rfl rfl rfl rfl (by omega) rfl rfl rfl ?_) | (refine j_kBin rfl ?_; first | refine j_in rfl rfl ⟨by omega, by omega⟩ rfl rfl ?_) | (refine j_kCall rfl rfl rfl rfl ?_; first | refine jc (c_inRange _ _ _) (LeL.refl _) rfl rfl ?_))
      | refine j_nil ?_
      | (refine r_go ?_; first | refine run_seq ?_ | refine run_region ?_ | (refine (run_if rfl (fun hb => ?_) (fun hb => ?_)) <;> first | (exfalso; omega) | skip) | (refine (run_ifn rfl (fun hb => ?_) (fun hb => ?_)) <;> first | (exfalso; omega) | skip) | refine run_block ?_ | refine run_ret ?_ | refine run_exit ?_ | refine run_skip ?_)
      | refine seqQ_normal ?_ | refine seqQ_ret ?_ | refine seqQ_exit ?_ | refine blockQ_normal ?_ | refine blockQ_ret ?_ | refine blockQ_eq ?_ | refine loopQ_ret ?_ | refine loopQ_exit ?_)
    · simp only [List.getElem_drop, Nat.add_comm 1 k] at hb
      exact end1 rfl (by first | exact List.Sublist.refl _ | exact sub1 | exact sub2 | exact sub3) (rbF (fun q => hb (by have := q.2.2.2 (k + 1) (by omega) (by omega); omega))) (.inl rfl)
    · simp only [List.getElem_drop, Nat.add_comm 1 k] at hb
      exact loopQ_nextD (k + 1) ⟨by omega, all_step kp (fun _ _ => by omega)⟩ (by omega) (by first | exact List.Sublist.refl _ | exact sub1 | exact sub2 | exact sub3) ⟨rfl, rfl, nx _, trivial⟩
    · exact end1 rfl (by first | exact List.Sublist.refl _ | exact sub1 | exact sub2 | exact sub3) (rbT (⟨by assumption, by omega, by rw [List.getElem?_eq_getElem (by omega), h0], fun c h1 h2 => kp c h1 (by omega) h2⟩)) (.inl rfl)

/-- Cell c lies within cell o. -/
inductive Lies (ps : List Int) (o : Int) : Int → Prop
  | here {c p : Int} (h : ps[c.toNat]? = some p) (hp : 0 ≤ p) (e : p = o) : Lies ps o c
  | up {c p : Int} (h : ps[c.toNat]? = some p) (hp : 0 ≤ p) (t : Lies ps o p) : Lies ps o c
theorem lies_iff {ps : List Int} {o c : Int} (h : c.toNat < ps.length) : Lies ps o c ↔ 0 ≤ ps[c.toNat] ∧ (ps[c.toNat] = o ∨ Lies ps o ps[c.toNat]) := by
  constructor
  · intro q
    cases q with
    | here h1 hp e => rw [List.getElem?_eq_getElem h] at h1; cases h1; exact ⟨hp, .inl e⟩
    | up h1 hp t => rw [List.getElem?_eq_getElem h] at h1; cases h1; exact ⟨hp, .inr t⟩
  · rintro ⟨hp, e | t⟩
    · exact .here (List.getElem?_eq_getElem h) hp e
    · exact .up (List.getElem?_eq_getElem h) hp t
theorem System.Frame.par {s : System} (h : s.Frame) {c : Int} (h0 : 0 ≤ c) (h1 : c ≤ (s.parents.length : Int) - 1) : (c = 0 ∧ s.parents[c.toNat]'(by omega) = -1) ∨ (1 ≤ c ∧ 0 ≤ s.parents[c.toNat]'(by omega) ∧ s.parents[c.toNat]'(by omega) ≤ c - 1) := by
  by_cases hc : c = 0
  · subst hc; exact .inl ⟨rfl, h.zero⟩
  · have := h.2.2.2 c.toNat (by omega) (by omega)
    exact .inr ⟨by omega, by omega, by omega⟩

theorem c_l02In (s : System) (c o : Int) (hf : s.Frame) (h0 : 0 ≤ c) (h1 : c ≤ (s.parents.length : Int) - 1) : Gives Try.prog 68 [.ip (encSystem s), .int c, .int o] (.raw (.bool (dec (Lies s.parents o c)))) := by
  refine fn_of_run tyOk ztOk mix Try.func68 rfl (by decide) Try.ntmps68 (fun w0 h => ?_)
  have hl := hf.2.1
  repeat' (first
      | (refine j_go ?_; first
        | refine j_op0 rfl rfl rfl rfl ?_)
      | refine j_nil ?_
      | (refine r_go ?_; first | refine run_seq ?_ | refine run_region ?_ | refine run_block ?_)
      | refine seqQ_normal ?_)
  refine run_loop (fun x : Int => [(0, .ip (encSystem s)), (1, .int x), (2, .int o)]) (fun _ => _) (fun x => (0 ≤ x ∧ x ≤ (s.parents.length : Int) - 1) ∧ (Lies s.parents o c ↔ Lies s.parents o x)) (fun x => x.toNat) c ⟨rfl, rfl, rfl, trivial⟩ rfl ⟨⟨h0, h1⟩, Iff.rfl⟩ (fun x ⟨xl, xe⟩ => ?_)
  have hp := hf.par xl.1 xl.2
  have hi := lies_iff (ps := s.parents) (o := o) (c := x) (by omega)
  repeat' (first
      | (refine j_go ?_; first
        | refine j_op0 rfl rfl rfl rfl ?_ | (refine j_kIdx rfl ?_; first | refine j_idxz rfl rfl rfl rfl rfl ⟨by omega, by omega⟩ rfl rfl rfl ?_))
      | refine j_nil ?_
      | (refine r_go ?_; first | refine run_seq ?_ | refine run_region ?_ | (refine (run_if rfl (fun hb => ?_) (fun hb => ?_)) <;> first | (exfalso; omega) | skip) | refine run_block ?_ | refine run_ret ?_ | refine run_exit ?_ | refine run_skip ?_)
      | refine seqQ_normal ?_ | refine seqQ_ret ?_ | refine seqQ_exit ?_ | refine blockQ_normal ?_ | refine blockQ_ret ?_ | refine blockQ_eq ?_ | refine loopQ_ret ?_ | refine loopQ_exit ?_)
  · exact end1 rfl (by first | exact List.Sublist.refl _ | exact sub1 | exact sub2 | exact sub3) (rbT (xe.2 (hi.2 ⟨by omega, .inl hb⟩))) (.inl rfl)
  · exact loopQ_nextD _ ⟨⟨by omega, by omega⟩, by rw [xe, hi]; exact ⟨fun q => q.2.resolve_left hb, fun q => ⟨by omega, .inr q⟩⟩⟩ (by omega) (List.Sublist.refl _) ⟨rfl, rfl, rfl, trivial⟩
  · exact end1 rfl (by first | exact List.Sublist.refl _ | exact sub1 | exact sub2 | exact sub3) (rbF (fun q => by have := (hi.1 (xe.1 q)).1; omega)) (.inl rfl)

theorem c_lies (s : System) (c o : Int) (hf : s.Frame) (h0 : 0 ≤ c) (h1 : c ≤ (s.parents.length : Int) - 1) : Gives Try.prog 72 [.agg (encSystem s), .int c, .int o] (.raw (.bool (dec (Lies s.parents o c)))) := by
  refine fn_of_run tyOk ztOk mix Try.func72 rfl (by decide) Try.ntmps72 (fun w0 h => ?_)
  have hl := hf.2.1
  have hp0 := hf.par h0 h1
  have hi0 := lies_iff (ps := s.parents) (o := o) (c := c) (by omega)
  repeat' (first
      | (refine j_go ?_; first
        | refine j_op0 rfl rfl rfl rfl ?_ | (refine j_kIdx rfl ?_; first | refine j_idxz rfl rfl rfl rfl rfl ⟨by omega, by omega⟩ rfl rfl rfl ?_) | refine j_box rfl rfl rfl rfl rfl rfl ?_)
      | refine j_nil ?_
      | (refine r_go ?_; first | refine run_seq ?_ | refine run_region ?_ | refine run_block ?_)
      | refine seqQ_normal ?_)
  refine run_loop (fun x : Int => [(1, .int x), (2, .int o), (3, .ip (encSystem s))]) (fun _ => _) (fun x => (-1 ≤ x ∧ x ≤ (s.parents.length : Int) - 1) ∧ (Lies s.parents o c ↔ 0 ≤ x ∧ (x = o ∨ Lies s.parents o x))) (fun x => (x + 1).toNat) _ ⟨rfl, rfl, rfl, trivial⟩ rfl ⟨⟨by omega, by omega⟩, hi0⟩ (fun x ⟨xl, xe⟩ => ?_)
  by_cases hx : 0 ≤ x
  · have hp := hf.par hx xl.2
    have hi := lies_iff (ps := s.parents) (o := o) (c := x) (by omega)
    repeat' (first
      | (refine j_go ?_; first
        | refine j_op0 rfl rfl rfl rfl ?_ | (refine j_kIdx rfl ?_; first | refine j_idxz rfl rfl rfl rfl rfl ⟨by omega, by omega⟩ rfl rfl rfl ?_))
      | refine j_nil ?_
      | (refine r_go ?_; first | refine run_seq ?_ | refine run_region ?_ | (refine (run_if rfl (fun hb => ?_) (fun hb => ?_)) <;> first | (exfalso; omega) | skip) | refine run_block ?_ | refine run_ret ?_ | refine run_skip ?_)
      | refine seqQ_normal ?_ | refine seqQ_ret ?_ | refine blockQ_normal ?_ | refine blockQ_ret ?_ | refine loopQ_ret ?_)
    · exact end1 rfl (by first | exact List.Sublist.refl _ | exact sub1 | exact sub2 | exact sub3) (rbT (xe.2 ⟨hx, .inl hb⟩)) (.inl rfl)
    · exact loopQ_nextD _ ⟨⟨by omega, by omega⟩, by rw [xe, hi]; exact ⟨fun q => q.2.resolve_left hb, fun q => ⟨hx, .inr q⟩⟩⟩ (by omega) (List.Sublist.refl _) ⟨rfl, rfl, rfl, trivial⟩
  · repeat' (first
      | (refine j_go ?_; first
        | refine j_op0 rfl rfl rfl rfl ?_)
      | refine j_nil ?_
      | (refine r_go ?_; first | refine run_seq ?_ | refine run_region ?_ | (refine (run_if rfl (fun hb => ?_) (fun hb => ?_)) <;> first | (exfalso; omega) | skip) | refine run_ret ?_ | refine run_exit ?_)
      | refine seqQ_normal ?_ | refine seqQ_exit ?_ | refine blockQ_eq ?_ | refine loopQ_exit ?_)
    exact end1 rfl (by first | exact List.Sublist.refl _ | exact sub1 | exact sub2 | exact sub3) (rbF (fun q => hx (xe.1 q).1)) (.inl rfl)

theorem c_isCell (s : System) (c : Int) (hl : s.parents.length ≤ 6) : Gives Try.prog 71 [.agg (encSystem s), .int c] (.raw (.bool (dec (0 ≤ c ∧ c ≤ (s.parents.length : Int) - 1)))) := by
  refine fn_of_run tyOk ztOk mix Try.func71 rfl (by decide) Try.ntmps71 (fun w0 h => ?_)
  repeat' (first
      | (refine j_go ?_; first
        | refine j_op0 rfl rfl rfl rfl ?_ | (refine j_kBin rfl ?_; first | refine j_in rfl rfl ⟨by omega, by omega⟩ rfl rfl ?_) | (refine j_kCall rfl rfl rfl rfl ?_; first | refine jc (c_sizeI _) (LeL.refl _) rfl rfl ?_ | refine jc (c_inRange _ _ _) (LeL.refl _) rfl rfl ?_) | refine j_box rfl rfl rfl rfl rfl rfl ?_)
      | refine j_nil ?_
      | (refine r_go ?_; first | refine run_seq ?_ | refine run_region ?_ | refine run_ret ?_)
      | refine seqQ_normal ?_)
  exact end1 rfl (List.Sublist.refl _) (rfl) (.inl rfl)

end Go.Proofs.Ytlllmhjpcdcoiaa

/-
  Rules and systems: what ValidRule and ValidSystem of the reference and of the program compute. No condition.
-/
namespace Go.Proofs.Ytlllmhjpcdcoiaa
open Go.AI
set_option maxRecDepth 8000
set_option maxHeartbeats 1600000

def System.IntoOk (s : System) (r : Rule) (x : Into) : Prop := (0 ≤ x.cell ∧ x.cell ≤ (s.parents.length : Int) - 1) ∧ Lies s.parents r.cell x.cell ∧ BagK s.kinds x.bag ∧ ¬ tot x.bag = 0
/-- A rule is right for a system. -/
def System.RuleOk (s : System) (r : Rule) : Prop := (0 ≤ r.cell ∧ r.cell ≤ (s.parents.length : Int) - 1) ∧ (0 ≤ r.rank ∧ r.rank ≤ 9) ∧ ¬ (r.melts = true ∧ r.cell = 0) ∧ (r.into.length : Int) ≤ 3 ∧
  BagK s.kinds r.need ∧ BagK s.kinds r.have_ ∧ BagK s.kinds r.lack ∧ BagK s.kinds r.here ∧ BagK s.kinds r.out ∧ ¬ tot r.need = 0 ∧
  ∀ i (h : i < r.into.length), s.IntoOk r r.into[i] ∧ (0 < i → r.into[i-1].cell < r.into[i].cell)
theorem BagK.bag {k : Int} {b : List Int} (h : BagK k b) : Small b := h.1.small

theorem c_l02Rule (s : System) (r : Rule) (hf : s.Frame) : Gives Try.prog 49 [.ip (encSystem s), .ip (encRule r)] (.raw (.bool (dec (s.RuleOk r)))) := by
  refine fn_of_run tyOk ztOk mix Try.func49 rfl (by decide) Try.ntmps49 (fun w0 h => ?_)
  have hl := hf.2.1
  repeat' (first
      | (refine j_go ?_; first
        | refine j_op0 rfl rfl rfl rfl ?_ | refine j_off rfl rfl rfl ?_ | (refine j_kBin rfl ?_; first | refine j_in rfl rfl ⟨by omega, by omega⟩ rfl rfl ?_) | (refine j_kLen rfl ?_; first | refine j_len rfl rfl rfl rfl rfl rfl ?_) | (refine j_kCall rfl rfl rfl rfl ?_; first | refine jc (c_l00In _ _ _) (LeL.refl _) rfl rfl ?_ | refine jc (c_l02Bag _ _) (LeL.refl _) rfl rfl ?_ | refine jc (c_l01Size _ (BagK.bag (k := s.kinds) (by assumption))) (LeL.refl _) rfl rfl ?_) | (refine j_kGuard rfl ?_; first | (refine (j_if rfl rfl rfl (fun hb => ?_) (fun hb => ?_)) <;> first | (exfalso; omega) | skip) | (refine (j_ifn rfl rfl rfl (fun hb => ?_) (fun hb => ?_)) <;> first | (exfalso; omega) | skip) | (refine (j_branch rfl rfl rfl (fun hb => ?_) (fun hb => ?_)) <;> skip; (fail_if_success guard_hyp hb : true = true); (fail_if_success guard_hyp hb : true = false); (fail_if_success guard_hyp hb : false = true); (fail_if_success guard_hyp hb : false = false))))
      | refine j_nil ?_
      | (refine r_go ?_; first | refine run_seq ?_ | refine run_region ?_ | refine run_cond_t rfl ?_ | (refine (run_if rfl (fun hb => ?_) (fun hb => ?_)) <;> first | (exfalso; omega) | skip) | refine run_block ?_ | refine run_ret ?_ | refine run_skip ?_ | refine run_regionD (by kernel_rfl) ?_)
      | refine seqQ_normal ?_ | refine seqQ_ret ?_)
  all_goals first
    | (refine end1 rfl (by first | exact List.Sublist.refl _ | exact sub1 | exact sub2 | exact sub3) ?_ (.inl rfl); first | exact rbF (fun ⟨q1, q2, q3, q4, q5, q6, q7, q8, q9, q10, q11⟩ => by first | exact absurd q1 (by assumption) | exact absurd q2 (by assumption) | exact absurd q5 (by assumption) | exact absurd q6 (by assumption) | exact absurd q7 (by assumption) | exact absurd q8 (by assumption) | exact absurd q9 (by assumption) | exact q10 (by assumption) | exact q3 ⟨by assumption, by assumption⟩ | (exfalso; omega)))
    | skip
  all_goals
    have hm : ¬ (r.melts = true ∧ r.cell = 0) := by first | (rintro ⟨p1, p2⟩; first | contradiction | simp_all)
    refine run_loop (fun k : Nat => [(0, .ip (encSystem s)), (1, .ip (encRule r)), (5, .int (k : Int))]) (fun _ => _) (fun k => k ≤ r.into.length ∧ (∀ i (h : i < r.into.length), i < k → s.IntoOk r r.into[i] ∧ (0 < i → r.into[i-1].cell < r.into[i].cell))) (fun k => r.into.length - k) 0 ⟨rfl, rfl, rfl, trivial⟩ rfl ⟨Nat.zero_le _, by first | (intros; omega) | (simp; done) | rfl | trivial | exact ⟨by simp [sumF], by intros; omega⟩ | exact ⟨by omega, by simp⟩⟩ (fun k ⟨kl, kp⟩ => ?_)
    have e : ((k : Int) - 1).toNat = k - 1 := by omega
    repeat' (first
      | (refine j_go ?_; first
        | refine j_op0 rfl rfl rfl rfl ?_ | refine j_off rfl rfl rfl ?_ | (refine j_kIdx rfl ?_; first | refine j_idx rfl rfl rfl rfl rfl (by omega) rfl rfl rfl ?_ | refine j_idxz rfl rfl rfl rfl rfl ⟨by omega, by omega⟩ rfl rfl rfl ?_) | (refine j_kBin rfl ?_; first | refine j_in rfl rfl ⟨by omega, by omega⟩ rfl rfl ?_) | (refine j_kLen rfl ?_; first | refine j_len rfl rfl rfl rfl rfl rfl ?_) | (refine j_kCall rfl rfl rfl rfl ?_; first | refine jc (c_l00In _ _ _) (LeL.refl _) rfl rfl ?_ | refine jc (c_l02In _ _ _ hf (by omega) (by omega)) (LeL.refl _) rfl rfl ?_ | refine jc (c_l02Bag _ _) (LeL.refl _) rfl rfl ?_ | refine jc (c_l01Size _ (BagK.bag (k := s.kinds) (by assumption))) (LeL.refl _) rfl rfl ?_) | (refine j_kGuard rfl ?_; first | (refine (j_if rfl rfl rfl (fun hb => ?_) (fun hb => ?_)) <;> first | (exfalso; omega) | skip) | (refine (j_ifn rfl rfl rfl (fun hb => ?_) (fun hb => ?_)) <;> first | (exfalso; omega) | skip)))
      | refine j_nil ?_
      | (refine r_go ?_; first | refine run_seq ?_ | refine run_region ?_ | refine run_cond_t rfl ?_ | refine run_cond_f rfl ?_ | (refine (run_if rfl (fun hb => ?_) (fun hb => ?_)) <;> first | (exfalso; omega) | skip) | refine run_block ?_ | refine run_ret ?_ | refine run_exit ?_ | refine run_skip ?_ | refine run_regionD (by kernel_rfl) ?_)
      | refine seqQ_normal ?_ | refine seqQ_ret ?_ | refine seqQ_exit ?_ | refine blockQ_normal ?_ | refine blockQ_ret ?_ | refine blockQ_eq ?_ | refine loopQ_ret ?_ | refine loopQ_exit ?_)
    all_goals try simp only [e] at hb
    all_goals first
      | exact loopQ_nextD (k + 1) ⟨by omega, all_step kp (fun _ => ⟨⟨by assumption, by assumption, by assumption, by assumption⟩, fun _ => by omega⟩)⟩ (by omega) (by first | exact List.Sublist.refl _ | exact sub1 | exact sub2 | exact sub3) ⟨rfl, rfl, nx _, trivial⟩
      | (refine end1 rfl (by first | exact List.Sublist.refl _ | exact sub1 | exact sub2 | exact sub3) ?_ (.inl rfl); first | exact rbF (fun ⟨_, _, _, _, _, _, _, _, _, _, q⟩ => by
          have ⟨⟨a1, a2, a3, a4⟩, a5⟩ := q k (by omega)
          first | exact absurd a1 (by assumption) | exact absurd a2 (by assumption) | exact absurd a3 (by assumption) | exact a4 (by assumption) | (have := a5 (by omega); omega)) | exact rbT ⟨by assumption, by assumption, hm, by omega, by assumption, by assumption, by assumption, by assumption, by assumption, by assumption, fun i h => kp i h (by omega)⟩)
      | trace_state


def Rule.bags (r : Rule) : List (List Int) := [r.need, r.have_, r.lack, r.here, r.out]

theorem c_isRule2 (s : System) (r : Rule) (hf : s.Frame) : Gives Try.prog 56 [.agg (encSystem s), .agg (encRule r)] (.raw (.bool (dec (s.RuleOk r)))) := by
  refine fn_of_run tyOk ztOk mix Try.func56 rfl (by decide) Try.ntmps56 (fun w0 h => ?_)
  have hl := hf.2.1
  repeat' (first
      | (refine j_go ?_; first
        | refine j_op0 rfl rfl rfl rfl ?_ | refine j_off rfl rfl rfl ?_ | (refine j_kLen rfl ?_; first | refine j_len rfl rfl rfl rfl rfl rfl ?_ | refine j_op rfl rfl rfl rfl ?_) | (refine j_kCall rfl rfl rfl rfl ?_; first | refine jc (c_isCell _ _ hl.2) (LeL.refl _) rfl rfl ?_ | refine jc (c_inRange _ _ _) (LeL.refl _) rfl rfl ?_) | (refine j_kBsl rfl ?_; first | refine j_bsl rfl rfl rfl rfl rfl rfl rfl rfl rfl rfl rfl ?_) | (refine j_kGuard rfl ?_; first | (refine (j_if rfl rfl rfl (fun hb => ?_) (fun hb => ?_)) <;> first | (exfalso; omega) | skip) | (refine (j_ifn rfl rfl rfl (fun hb => ?_) (fun hb => ?_)) <;> first | (exfalso; omega) | skip) | (refine (j_branch rfl rfl rfl (fun hb => ?_) (fun hb => ?_)) <;> skip; (fail_if_success guard_hyp hb : true = true); (fail_if_success guard_hyp hb : true = false); (fail_if_success guard_hyp hb : false = true); (fail_if_success guard_hyp hb : false = false))) | refine j_box rfl rfl rfl rfl rfl rfl ?_)
      | refine j_nil ?_
      | (refine r_go ?_; first | refine run_seq ?_ | refine run_region ?_ | refine run_cond_t rfl ?_ | (refine (run_if rfl (fun hb => ?_) (fun hb => ?_)) <;> first | (exfalso; omega) | skip) | refine run_block ?_ | refine run_ret ?_ | refine run_skip ?_)
      | refine seqQ_normal ?_ | refine seqQ_ret ?_)
  all_goals first
    | (refine end1 rfl (by first | exact List.Sublist.refl _ | exact sub1 | exact sub2 | exact sub3) ?_ (.inl rfl); first | exact rbF (fun ⟨q1, q2, q3, q4, q5, q6, q7, q8, q9, q10, q11⟩ => by first | exact absurd q1 (by assumption) | exact absurd q2 (by assumption) | exact absurd q5 (by assumption) | exact absurd q6 (by assumption) | exact absurd q7 (by assumption) | exact absurd q8 (by assumption) | exact absurd q9 (by assumption) | exact q10 (by assumption) | exact q3 ⟨by assumption, by assumption⟩ | (exfalso; omega)))
    | skip
  all_goals
    have hm : ¬ (r.melts = true ∧ r.cell = 0) := by first | (rintro ⟨p1, p2⟩; first | contradiction | simp_all)
    have hbl : r.bags.length = 5 := rfl
    refine run_loop (fun j : Nat => [(2, .ip (encSystem s)), (3, .ip (encRule r)), (45, .sl (r.bags.map (encS Go.AI.encI))), (46, .int r.bags.length), (47, .int (j : Int))]) (fun _ => _) (fun j => j ≤ r.bags.length ∧ (∀ i (h : i < r.bags.length), i < j → BagK s.kinds r.bags[i])) (fun j => r.bags.length - j) 0 ⟨rfl, rfl, rfl, rfl, rfl, trivial⟩ rfl ⟨Nat.zero_le _, by first | (intros; omega) | (simp; done) | rfl | trivial | exact ⟨by simp [sumF], by intros; omega⟩ | exact ⟨by omega, by simp⟩⟩ (fun j ⟨jl, jp⟩ => ?_)
    repeat' (first
      | (refine j_go ?_; first
        | refine j_op0 rfl rfl rfl rfl ?_ | (refine j_kIdx rfl ?_; first | refine j_idx rfl rfl rfl rfl rfl (by omega) rfl rfl rfl ?_) | (refine j_kBin rfl ?_; first | refine j_in rfl rfl ⟨by omega, by omega⟩ rfl rfl ?_) | (refine j_kLen rfl ?_; first | refine j_len rfl rfl rfl rfl rfl rfl ?_) | (refine j_kCall rfl rfl rfl rfl ?_; first | refine jc (c_ValidBag _ _) (LeL.refl _) rfl rfl ?_))
      | refine j_nil ?_
      | (refine r_go ?_; first | refine run_seq ?_ | refine run_region ?_ | (refine (run_if rfl (fun hb => ?_) (fun hb => ?_)) <;> first | (exfalso; omega) | skip) | (refine (run_ifn rfl (fun hb => ?_) (fun hb => ?_)) <;> first | (exfalso; omega) | skip) | refine run_block ?_ | refine run_ret ?_ | refine run_exit ?_ | refine run_skip ?_)
      | refine seqQ_normal ?_ | refine seqQ_ret ?_ | refine seqQ_exit ?_ | refine blockQ_normal ?_ | refine blockQ_ret ?_ | refine blockQ_eq ?_ | refine loopQ_ret ?_ | refine loopQ_exit ?_)
    · exact end1 rfl (by first | exact List.Sublist.refl _ | exact sub1 | exact sub2 | exact sub3) (rbF (fun ⟨q1, q2, q3, q4, q5, q6, q7, q8, q9, q10, q11⟩ => hb (by
        have q : ∀ b ∈ r.bags, BagK s.kinds b := by
          intro b hb; simp only [Rule.bags, List.mem_cons, List.not_mem_nil, or_false] at hb
          rcases hb with rfl | rfl | rfl | rfl | rfl <;> assumption
        exact q _ (List.getElem_mem _)))) (.inl rfl)
    · exact loopQ_nextD (j + 1) ⟨by omega, all_step jp (fun _ => hb)⟩ (by omega) (by first | exact List.Sublist.refl _ | exact sub1 | exact sub2 | exact sub3) ⟨rfl, rfl, rfl, rfl, nx _, trivial⟩
    have b0 : BagK s.kinds r.need := jp 0 (show 0 < 5 by decide) (by omega)
    have b1 : BagK s.kinds r.have_ := jp 1 (show 1 < 5 by decide) (by omega)
    have b2 : BagK s.kinds r.lack := jp 2 (show 2 < 5 by decide) (by omega)
    have b3 : BagK s.kinds r.here := jp 3 (show 3 < 5 by decide) (by omega)
    have b4 : BagK s.kinds r.out := jp 4 (show 4 < 5 by decide) (by omega)
    have tb := b0.bnd
    refine run_loop (fun k : Nat => [(2, .ip (encSystem s)), (3, .ip (encRule r)), (58, .sl (r.into.map encInto)), (59, .int r.into.length), (60, .int (k : Int))]) (fun _ => _) (fun k => k ≤ r.into.length ∧ (∀ i (h : i < r.into.length), i < k → s.IntoOk r r.into[i] ∧ (0 < i → r.into[i-1].cell < r.into[i].cell))) (fun k => r.into.length - k) 0 ⟨rfl, rfl, rfl, rfl, rfl, trivial⟩ rfl ⟨Nat.zero_le _, by first | (intros; omega) | (simp; done) | rfl | trivial | exact ⟨by simp [sumF], by intros; omega⟩ | exact ⟨by omega, by simp⟩⟩ (fun k ⟨kl, kp⟩ => ?_)
    have e : ((k : Int) - 1).toNat = k - 1 := by omega
    repeat' (first
      | (refine j_go ?_; first
        | refine j_op0 rfl rfl rfl rfl ?_ | refine j_off rfl rfl rfl ?_ | (refine j_kIdx rfl ?_; first | refine j_idx rfl rfl rfl rfl rfl (by omega) rfl rfl rfl ?_ | refine j_idxz rfl rfl rfl rfl rfl ⟨by omega, by omega⟩ rfl rfl rfl ?_) | (refine j_kBin rfl ?_; first | refine j_in rfl rfl ⟨by omega, by omega⟩ rfl rfl ?_) | (refine j_kCall rfl rfl rfl rfl ?_; first | refine jc (c_isCell _ _ hl.2) (LeL.refl _) rfl rfl ?_ | refine jc (c_lies _ _ _ hf (by omega) (by omega)) (LeL.refl _) rfl rfl ?_ | refine jc (c_ValidBag _ _) (LeL.refl _) rfl rfl ?_ | refine jc (c_bagSize _ (BagK.bag (k := s.kinds) (by assumption))) (LeL.refl _) rfl rfl ?_) | (refine j_kLoad rfl ?_; first | refine j_mload 0 rfl rfl rfl rfl rfl rfl rfl ?_) | (refine j_kStore rfl ?_; first | refine j_storeN 0 rfl rfl rfl rfl rfl rfl rfl rfl rfl rfl rfl ?_) | (refine j_kGuard rfl ?_; first | (refine (j_if rfl rfl rfl (fun hb => ?_) (fun hb => ?_)) <;> first | (exfalso; omega) | skip) | (refine (j_ifn rfl rfl rfl (fun hb => ?_) (fun hb => ?_)) <;> first | (exfalso; omega) | skip)) | refine j_alloc rfl rfl rfl rfl rfl (fun _ => ?_))
      | refine j_nil ?_
      | (refine r_go ?_; first | refine run_seq ?_ | refine run_region ?_ | refine run_cond_t rfl ?_ | refine run_cond_f rfl ?_ | (refine (run_if rfl (fun hb => ?_) (fun hb => ?_)) <;> first | (exfalso; omega) | skip) | refine run_block ?_ | refine run_ret ?_ | refine run_exit ?_ | refine run_skip ?_ | refine run_regionD (by kernel_rfl) ?_)
      | refine seqQ_normal ?_ | refine seqQ_ret ?_ | refine seqQ_exit ?_ | refine blockQ_normal ?_ | refine blockQ_ret ?_ | refine blockQ_eq ?_ | refine loopQ_ret ?_ | refine loopQ_exit ?_)
    all_goals try simp only [e] at hb
    all_goals first
      | exact loopQ_nextD (k + 1) ⟨by omega, all_step kp (fun _ => ⟨⟨by assumption, by assumption, by assumption, by assumption⟩, fun _ => by omega⟩)⟩ (by omega) (by first | exact List.Sublist.refl _ | exact sub1 | exact sub2 | exact sub3) ⟨rfl, rfl, rfl, rfl, nx _, trivial⟩
      | (refine end1 rfl (by first | exact List.Sublist.refl _ | exact sub1 | exact sub2 | exact sub3) ?_ (.inl rfl); first | exact rbF (fun ⟨_, _, _, _, _, _, _, _, _, _, q⟩ => by
          have ⟨⟨a1, a2, a3, a4⟩, a5⟩ := q k (by omega)
          first | exact absurd a1 (by assumption) | exact absurd a2 (by assumption) | exact absurd a3 (by assumption) | exact a4 (by assumption) | (have := a5 (by omega); omega)) | exact rbD ⟨fun q => ⟨by assumption, by assumption, hm, by omega, by assumption, by assumption, by assumption, by assumption, by assumption, by omega, fun i h => kp i h (by omega)⟩, fun ⟨_, _, _, _, _, _, _, _, _, q, _⟩ => by omega⟩)
      | trace_state


end Go.Proofs.Ytlllmhjpcdcoiaa
