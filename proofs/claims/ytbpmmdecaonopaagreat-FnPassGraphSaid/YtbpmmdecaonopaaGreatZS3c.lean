/-
  Passing systems and stocks: what ValidPassing and ValidStock of the reference and of the program compute. No condition.
-/
import Derived.Test.YtbpmmdecaonopaaGreatZG6
namespace Go.Proofs.YtbpmmdecaonopaaGreat
open Go.AI
set_option maxRecDepth 8000
set_option maxHeartbeats 1600000

def Passing.Bound (p : Passing) (b : List Int) : Prop := ∃ i, ∃ h : i < b.length, 0 < b[i] ∧ ¬ p.free[i]? = some true
def Passing.Frame (p : Passing) : Prop := (1 ≤ p.kinds ∧ p.kinds ≤ 8) ∧ (1 ≤ p.parents.length ∧ p.parents.length ≤ 4) ∧ p.parents[0]? = some (-1) ∧ (p.free.length : Int) = p.kinds ∧ p.rules.length ≤ 8 ∧ ∀ c (h : c < p.parents.length), 1 ≤ c → 0 ≤ p.parents[c] ∧ p.parents[c] ≤ (c : Int) - 1
def Passing.RuleOk (p : Passing) (r : PassRule) : Prop := (0 ≤ r.cell ∧ r.cell ≤ (p.parents.length : Int) - 1) ∧ BagK p.kinds r.out ∧ BagK p.kinds r.in_ ∧ ¬ tot r.out + tot r.in_ = 0 ∧ (0 < r.cell ∨ 0 < tot r.out ∨ p.Bound r.in_)
def Passing.Ok (p : Passing) : Prop := p.Frame ∧ ∀ r ∈ p.rules, p.RuleOk r
def Passing.StockOk (p : Passing) (s : Stock) : Prop := s.cells.length = p.parents.length ∧ BagK p.kinds s.around ∧ (∀ b ∈ s.cells, BagK p.kinds b) ∧ ∀ i (h : i < s.around.length), ¬ (0 < s.around[i] ∧ p.free[i]? = some true)

theorem bag_le {p : Passing} (hfr : (p.free.length : Int) = p.kinds) {b : List Int} (q : BagK p.kinds b) : b.length ≤ p.free.length := by have := q.2; omega

theorem c_l06Sum (b : List Int) (hB : Small b) : Gives Tryz.prog 40 [.sl (b.map Go.AI.encI)] (.int (tot b)) := by
  refine fn_of_run tyOk ztOk mix Tryz.func40 rfl (by decide) Tryz.ntmps40 (fun w0 h => ?_)
  have hB2 := hB.2
  repeat' (first
      | (refine j_go ?_; first
        | refine j_op0 rfl rfl rfl rfl ?_)
      | refine j_nil ?_
      | (refine r_go ?_; first | refine run_seq ?_ | refine run_region ?_ | refine run_block ?_)
      | refine seqQ_normal ?_)
  refine run_loop (fun k : Nat => [(0, .sl (b.map Go.AI.encI)), (3, .int (sumF (fun x => x) (b.take k))), (4, .int (k : Int))]) (fun _ => _) (fun k => k ≤ b.length ∧ (True)) (fun k => b.length - k) 0 ⟨rfl, (by first | rfl | exact si (by first | omega | (simp; done) | (simp [sumF]; done) | (simp; omega)) | exact raw_f (by simp) | exact raw_t (by simp) | exact sa (by first | (rw [catK_zero]; rfl) | (rw [catK_zero, List.append_nil]; rfl) | (rw [catK_zero, List.append_nil]) | (rw [joinK_zero, List.append_nil]; rfl) | (rw [joinK_zero, List.append_nil]) | (simp [catK]; done))), rfl, trivial⟩ rfl ⟨Nat.zero_le _, by first | (intros; omega) | (simp; done) | rfl | trivial | exact ⟨by simp [sumF], by intros; omega⟩ | exact ⟨by omega, by simp⟩⟩ (fun k ⟨kl, kp⟩ => ?_)
  have b1 := hB.take k kl
  by_cases hk : k < b.length
  · have b2 := hB.1 _ (List.getElem_mem hk)
    repeat' (first
      | (refine j_go ?_; first
        | refine j_op0 rfl rfl rfl rfl ?_ | (refine j_kIdx rfl ?_; first | refine j_idx rfl rfl rfl rfl rfl (by omega) rfl rfl rfl ?_) | (refine j_kBin rfl ?_; first | refine j_in rfl rfl ⟨by omega, by omega⟩ rfl rfl ?_) | (refine j_kLen rfl ?_; first | refine j_len rfl rfl rfl rfl rfl rfl ?_))
      | refine j_nil ?_
      | (refine r_go ?_; first | refine run_seq ?_ | refine run_region ?_ | (refine (run_if rfl (fun hb => ?_) (fun hb => ?_)) <;> first | (exfalso; omega) | skip) | refine run_block ?_ | refine run_skip ?_)
      | refine seqQ_normal ?_ | refine blockQ_normal ?_)
    exact loopQ_nextD (k + 1) ⟨by omega, trivial⟩ (by omega) (by first | exact List.Sublist.refl _ | exact sub1 | exact sub2 | exact sub3) ⟨rfl, (by first | rfl | (rw [sumF_succ (fun x => x) hk]; try rfl) | exact si (by omega)), nx _, trivial⟩
  · repeat' (first
      | (refine j_go ?_; first
        | refine j_op0 rfl rfl rfl rfl ?_ | (refine j_kLen rfl ?_; first | refine j_len rfl rfl rfl rfl rfl rfl ?_))
      | refine j_nil ?_
      | (refine r_go ?_; first | refine run_seq ?_ | refine run_region ?_ | (refine (run_if rfl (fun hb => ?_) (fun hb => ?_)) <;> first | (exfalso; omega) | skip) | refine run_ret ?_ | refine run_exit ?_)
      | refine seqQ_normal ?_ | refine seqQ_exit ?_ | refine blockQ_eq ?_ | refine loopQ_exit ?_)
    exact end1 rfl (List.Sublist.refl _) (ai (by rw [List.take_of_length_le (by omega)]; rfl)) (.inl rfl)

theorem c_l06Bag (m : Int) (b : List Int) (h1 : 1 ≤ m ∧ m ≤ 8) : Gives Tryz.prog 69 [.int m, .sl (b.map Go.AI.encI)] (.raw (.bool (dec (BagK m b)))) := by
  refine fn_of_run tyOk ztOk mix Tryz.func69 rfl (by decide) Tryz.ntmps69 (fun w0 h => ?_)
  refine run_len (t := 1) rfl (fun hl => ?_)
  rw [List.length_map] at hl
  repeat' (first
      | (refine j_go ?_; first
        | refine j_op0 rfl rfl rfl rfl ?_)
      | refine j_nil ?_
      | (refine r_go ?_; first | refine run_seq ?_ | refine run_region ?_ | refine run_block ?_)
      | refine seqQ_normal ?_)
  refine run_loop (fun k : Nat => [(0, .int m), (1, .sl (b.map Go.AI.encI)), (5, .int (k : Int))]) (fun _ => _) (fun k => k ≤ b.length ∧ (∀ i (h : i < b.length), i < k → 0 ≤ b[i] ∧ b[i] ≤ 1000)) (fun k => b.length - k) 0 ⟨rfl, rfl, rfl, trivial⟩ rfl ⟨Nat.zero_le _, by first | (intros; omega) | (simp; done) | rfl | trivial | exact ⟨by simp [sumF], by intros; omega⟩ | exact ⟨by omega, by simp⟩⟩ (fun k ⟨kl, kp⟩ => ?_)
  repeat' (first
      | (refine j_go ?_; first
        | refine j_op0 rfl rfl rfl rfl ?_ | (refine j_kIdx rfl ?_; first | refine j_idx rfl rfl rfl rfl rfl (by omega) rfl rfl rfl ?_) | (refine j_kBin rfl ?_; first | refine j_in rfl rfl ⟨by omega, by omega⟩ rfl rfl ?_) | (refine j_kLen rfl ?_; first | refine j_len rfl rfl rfl rfl rfl rfl ?_) | (refine j_kCall rfl rfl rfl rfl ?_; first | refine jc (c_l00In _ _ _) (LeL.refl _) rfl rfl ?_))
      | refine j_nil ?_
      | (refine r_go ?_; first | refine run_seq ?_ | refine run_region ?_ | (refine (run_if rfl (fun hb => ?_) (fun hb => ?_)) <;> first | (exfalso; omega) | skip) | (refine (run_ifn rfl (fun hb => ?_) (fun hb => ?_)) <;> first | (exfalso; omega) | skip) | refine run_block ?_ | refine run_ret ?_ | refine run_exit ?_ | refine run_skip ?_)
      | refine seqQ_normal ?_ | refine seqQ_ret ?_ | refine seqQ_exit ?_ | refine blockQ_normal ?_ | refine blockQ_ret ?_ | refine blockQ_eq ?_ | refine loopQ_ret ?_ | refine loopQ_exit ?_)
  · exact end1 rfl (by first | exact List.Sublist.refl _ | exact sub1 | exact sub2 | exact sub3) (rbF (fun q => hb (q.1.1 _ (List.getElem_mem _)))) (.inl rfl)
  · exact loopQ_nextD (k + 1) ⟨by omega, all_step kp (fun _ => hb)⟩ (by omega) (by first | exact List.Sublist.refl _ | exact sub1 | exact sub2 | exact sub3) ⟨rfl, rfl, nx _, trivial⟩
  · exact end1 rfl (List.Sublist.refl _) (rbD ⟨fun q => ⟨⟨fun x hx => by obtain ⟨i, hi, rfl⟩ := List.getElem_of_mem hx; exact kp i hi (by omega), by omega, by omega⟩, q⟩, fun q => q.2⟩) (.inl rfl)

theorem c_l06Rule (p : Passing) (r : PassRule) (hf : p.Frame) : Gives Tryz.prog 42 [.ip (encPassing p), .ip (encPassRule r)] (.raw (.bool (dec (p.RuleOk r)))) := by
  refine fn_of_run tyOk ztOk mix Tryz.func42 rfl (by decide) Tryz.ntmps42 (fun w0 h => ?_)
  have hk8 := hf.1
  have hp4 := hf.2.1
  have hfr := hf.2.2.2.1
  repeat' (first
      | (refine j_go ?_; first
        | refine j_op0 rfl rfl rfl rfl ?_ | refine j_off rfl rfl rfl ?_ | (refine j_kBin rfl ?_; first | refine j_in rfl rfl ⟨by omega, by omega⟩ rfl rfl ?_) | (refine j_kLen rfl ?_; first | refine j_len rfl rfl rfl rfl rfl rfl ?_) | (refine j_kCall rfl rfl rfl rfl ?_; first | refine jc (c_l00In _ _ _) (LeL.refl _) rfl rfl ?_ | refine jc (c_l06Bag _ _ hk8) (LeL.refl _) rfl rfl ?_ | refine jc (c_l06Sum _ (BagK.bag (k := p.kinds) (by assumption))) (LeL.refl _) rfl rfl ?_) | (refine j_kGuard rfl ?_; first | (refine (j_ifn rfl rfl rfl (fun hb => ?_) (fun hb => ?_)) <;> first | (exfalso; omega) | skip)))
      | refine j_nil ?_
      | (refine r_go ?_; first | refine run_seq ?_ | refine run_region ?_ | refine run_cond_t rfl ?_ | refine run_ret ?_ | refine run_regionD (by kernel_rfl) ?_)
      | refine seqQ_normal ?_ | refine seqQ_ret ?_)
  · exact end1 rfl (by first | exact List.Sublist.refl _ | exact sub1 | exact sub2 | exact sub3) (rbF (fun q => hb q.1)) (.inl rfl)
  · exact end1 rfl (by first | exact List.Sublist.refl _ | exact sub1 | exact sub2 | exact sub3) (rbF (fun q => hb q.2.1)) (.inl rfl)
  · exact end1 rfl (by first | exact List.Sublist.refl _ | exact sub1 | exact sub2 | exact sub3) (rbF (fun q => hb q.2.2.1)) (.inl rfl)
  have ho : BagK p.kinds r.out := by assumption
  have hi : BagK p.kinds r.in_ := by assumption
  have to := ho.bnd
  have ti := hi.bnd
  repeat' (first
      | (refine j_go ?_; first
        | refine j_op0 rfl rfl rfl rfl ?_ | refine j_off rfl rfl rfl ?_ | (refine j_kBin rfl ?_; first | refine j_in rfl rfl ⟨by omega, by omega⟩ rfl rfl ?_) | (refine j_kCall rfl rfl rfl rfl ?_; first | refine jc (c_l06Sum _ (BagK.bag (k := p.kinds) (by assumption))) (LeL.refl _) rfl rfl ?_) | (refine j_kGuard rfl ?_; first | (refine (j_if rfl rfl rfl (fun hb => ?_) (fun hb => ?_)) <;> first | (exfalso; omega) | skip)))
      | refine j_nil ?_
      | (refine r_go ?_; first | refine run_seq ?_ | refine run_region ?_ | refine run_cond_t rfl ?_ | (refine (run_if rfl (fun hb => ?_) (fun hb => ?_)) <;> first | (exfalso; omega) | skip) | refine run_block ?_ | refine run_ret ?_ | refine run_skip ?_)
      | refine seqQ_normal ?_ | refine seqQ_ret ?_)
  · exact end1 rfl (by first | exact List.Sublist.refl _ | exact sub1 | exact sub2 | exact sub3) (rbF (fun q => q.2.2.2.1 (by omega))) (.inl rfl)
  · exact end1 rfl (by first | exact List.Sublist.refl _ | exact sub1 | exact sub2 | exact sub3) (rbT (⟨by assumption, ho, hi, by omega, .inl (by omega)⟩)) (.inl rfl)
  · exact end1 rfl (by first | exact List.Sublist.refl _ | exact sub1 | exact sub2 | exact sub3) (rbT (⟨by assumption, ho, hi, by omega, .inr (.inl (by omega))⟩)) (.inl rfl)
  have hin : BagK p.kinds r.in_ := by assumption
  have hil := hin.2
  refine run_loop (fun k : Nat => [(0, .ip (encPassing p)), (1, .ip (encPassRule r)), (5, .int (k : Int))]) (fun _ => _) (fun k => k ≤ r.in_.length ∧ (∀ i (h : i < r.in_.length), i < k → ¬ (0 < r.in_[i] ∧ ¬ p.free[i]? = some true))) (fun k => r.in_.length - k) 0 ⟨rfl, rfl, rfl, trivial⟩ rfl ⟨Nat.zero_le _, by first | (intros; omega) | (simp; done) | rfl | trivial | exact ⟨by simp [sumF], by intros; omega⟩ | exact ⟨by omega, by simp⟩⟩ (fun k ⟨kl, kp⟩ => ?_)
  by_cases hk : k < r.in_.length
  · have hkf : k < p.free.length := by omega
    repeat' (first
      | (refine j_go ?_; first
        | refine j_op0 rfl rfl rfl rfl ?_ | refine j_off rfl rfl rfl ?_ | (refine j_kIdx rfl ?_; first | refine j_idx rfl rfl rfl rfl rfl (by omega) rfl rfl rfl ?_) | (refine j_kBin rfl ?_; first | refine j_in rfl rfl ⟨by omega, by omega⟩ rfl rfl ?_) | (refine j_kLen rfl ?_; first | refine j_len rfl rfl rfl rfl rfl rfl ?_) | (refine j_kGuard rfl ?_; first | (refine (j_if rfl rfl rfl (fun hb => ?_) (fun hb => ?_)) <;> first | (exfalso; omega) | skip)))
      | refine j_nil ?_
      | (refine r_go ?_; first | refine run_seq ?_ | refine run_region ?_ | refine run_cond_f rfl ?_ | (refine (run_if rfl (fun hb => ?_) (fun hb => ?_)) <;> first | (exfalso; omega) | skip) | refine run_block ?_ | refine run_ret ?_ | refine run_skip ?_ | refine run_condn rfl (fun hb => ?_) (fun hb => ?_))
      | refine seqQ_normal ?_ | refine seqQ_ret ?_ | refine blockQ_normal ?_ | refine blockQ_ret ?_ | refine loopQ_ret ?_)
    all_goals first
      | exact end1 rfl (by first | exact List.Sublist.refl _ | exact sub1 | exact sub2 | exact sub3) (rbT (⟨by assumption, by assumption, by assumption, by omega, .inr (.inr ⟨k, hk, by assumption, by first | exact al_f (by assumption) | exact al_f' (by assumption) | (rw [List.getElem?_eq_getElem hkf]; simp_all)⟩)⟩)) (.inl rfl)
      | exact loopQ_nextD (k + 1) ⟨by omega, all_step kp (fun _ q => by first | exact absurd q.1 (by assumption) | exact q.2 (al_t (by assumption)) | exact q.2 (al_t' (by assumption)) | (have := q.2; rw [List.getElem?_eq_getElem hkf] at this; simp_all))⟩ (by omega) (by first | exact List.Sublist.refl _ | exact sub1 | exact sub2 | exact sub3) ⟨rfl, rfl, nx _, trivial⟩
      | trace_state
  · repeat' (first
      | (refine j_go ?_; first
        | refine j_op0 rfl rfl rfl rfl ?_ | (refine j_kLen rfl ?_; first | refine j_len rfl rfl rfl rfl rfl rfl ?_))
      | refine j_nil ?_
      | (refine r_go ?_; first | refine run_seq ?_ | refine run_region ?_ | (refine (run_if rfl (fun hb => ?_) (fun hb => ?_)) <;> first | (exfalso; omega) | skip) | refine run_ret ?_ | refine run_exit ?_)
      | refine seqQ_normal ?_ | refine seqQ_exit ?_ | refine blockQ_eq ?_ | refine loopQ_exit ?_)
    exact end1 rfl (by first | exact List.Sublist.refl _ | exact sub1 | exact sub2 | exact sub3) (rbF (fun q => by
        obtain ⟨q1, q2, q3, q4, q5⟩ := q
        rcases q5 with q5 | q5 | ⟨i, hi, q6⟩
        · omega
        · omega
        · exact kp i hi (by omega) q6)) (.inl rfl)

theorem c_l06Ok (p : Passing) : Gives Tryz.prog 80 [.ip (encPassing p)] (.raw (.bool (dec p.Ok))) := by
  refine fn_of_run tyOk ztOk mix Tryz.func80 rfl (by decide) Tryz.ntmps80 (fun w0 h => ?_)
  repeat' (first
      | (refine j_go ?_; first
        | refine j_op0 rfl rfl rfl rfl ?_ | refine j_off rfl rfl rfl ?_ | (refine j_kIdx rfl ?_; first | refine j_idxz rfl rfl rfl rfl rfl ⟨by omega, by omega⟩ rfl rfl rfl ?_) | (refine j_kLen rfl ?_; first | refine j_len rfl rfl rfl rfl rfl rfl ?_) | (refine j_kCall rfl rfl rfl rfl ?_; first | refine jc (c_l00In _ _ _) (LeL.refl _) rfl rfl ?_) | (refine j_kGuard rfl ?_; first | (refine (j_if rfl rfl rfl (fun hb => ?_) (fun hb => ?_)) <;> first | (exfalso; omega) | skip) | (refine (j_ifn rfl rfl rfl (fun hb => ?_) (fun hb => ?_)) <;> first | (exfalso; omega) | skip)))
      | refine j_nil ?_
      | (refine r_go ?_; first | refine run_seq ?_ | refine run_region ?_ | refine run_cond_t rfl ?_ | (refine (run_ifn rfl (fun hb => ?_) (fun hb => ?_)) <;> first | (exfalso; omega) | skip) | refine run_block ?_ | refine run_ret ?_ | refine run_skip ?_ | refine run_regionD (by kernel_rfl) ?_)
      | refine seqQ_normal ?_ | refine seqQ_ret ?_)
  all_goals first
    | exact end1 rfl (by first | exact List.Sublist.refl _ | exact sub1 | exact sub2 | exact sub3) (rbF (fun q => by
        obtain ⟨⟨q1, q2, q3, q4, q5, q6⟩, q7⟩ := q
        first
          | exact absurd q1 (by assumption)
          | (exfalso; omega)
          | (have z : p.parents[0]'(by omega) = -1 := by
               rw [List.getElem?_eq_getElem (by omega)] at q3; simpa using q3
             exact absurd z (by assumption)))) (.inl rfl)
    | skip
  have h0 : (p.parents[0]'(by omega)) = -1 := by assumption
  have h1 : 1 ≤ p.kinds ∧ p.kinds ≤ 8 := by assumption
  refine run_loop (fun k : Nat => [(0, .ip (encPassing p)), (3, .int p.parents.length), (4, .int (k : Int))]) (fun _ => _) (fun k => 1 ≤ k ∧ k ≤ p.parents.length ∧ (∀ c (h : c < p.parents.length), c < k → 1 ≤ c → 0 ≤ p.parents[c] ∧ p.parents[c] ≤ (c : Int) - 1)) (fun k => p.parents.length - k) 1 ⟨rfl, rfl, rfl, trivial⟩ rfl ⟨Nat.le_refl _, by omega, by first | (intros; omega) | (simp; done) | rfl | trivial | exact ⟨by simp [sumF], by intros; omega⟩ | exact ⟨by omega, by simp⟩⟩ (fun k ⟨ks, kl, kp⟩ => ?_)
  repeat' (first
      | (refine j_go ?_; first
        | refine j_op0 rfl rfl rfl rfl ?_ | (refine j_kIdx rfl ?_; first | refine j_idx rfl rfl rfl rfl rfl (by omega) rfl rfl rfl ?_) | (refine j_kBin rfl ?_; first | refine j_in rfl rfl ⟨by omega, by omega⟩ rfl rfl ?_) | (refine j_kCall rfl rfl rfl rfl ?_; first | refine jc (c_l00In _ _ _) (LeL.refl _) rfl rfl ?_))
      | refine j_nil ?_
      | (refine r_go ?_; first | refine run_seq ?_ | refine run_region ?_ | (refine (run_if rfl (fun hb => ?_) (fun hb => ?_)) <;> first | (exfalso; omega) | skip) | (refine (run_ifn rfl (fun hb => ?_) (fun hb => ?_)) <;> first | (exfalso; omega) | skip) | refine run_block ?_ | refine run_ret ?_ | refine run_exit ?_ | refine run_skip ?_)
      | refine seqQ_normal ?_ | refine seqQ_ret ?_ | refine seqQ_exit ?_ | refine blockQ_normal ?_ | refine blockQ_ret ?_ | refine blockQ_eq ?_ | refine loopQ_ret ?_ | refine loopQ_exit ?_)
  · exact end1 rfl (by first | exact List.Sublist.refl _ | exact sub1 | exact sub2 | exact sub3) (rbF (fun q => hb (q.1.2.2.2.2.2 k (by omega) (by omega)))) (.inl rfl)
  · exact loopQ_nextD (k + 1) ⟨by omega, by omega, all_step kp (fun _ _ => hb)⟩ (by omega) (by first | exact List.Sublist.refl _ | exact sub1 | exact sub2 | exact sub3) ⟨rfl, rfl, nx _, trivial⟩
  · have hf : p.Frame := ⟨h1, by omega, by rw [List.getElem?_eq_getElem (by omega), h0], by omega, by omega, fun c h1 h2 => kp c h1 (by omega) h2⟩
    refine run_loop (fun j : Nat => [(0, .ip (encPassing p)), (5, .int (j : Int))]) (fun _ => _) (fun j => j ≤ p.rules.length ∧ (∀ i (h : i < p.rules.length), i < j → p.RuleOk p.rules[i])) (fun j => p.rules.length - j) 0 ⟨rfl, rfl, trivial⟩ rfl ⟨Nat.zero_le _, by first | (intros; omega) | (simp; done) | rfl | trivial | exact ⟨by simp [sumF], by intros; omega⟩ | exact ⟨by omega, by simp⟩⟩ (fun j ⟨jl, jp⟩ => ?_)
    repeat' (first
      | (refine j_go ?_; first
        | refine j_op0 rfl rfl rfl rfl ?_ | (refine j_kIdx rfl ?_; first | refine j_idx rfl rfl rfl rfl rfl (by omega) rfl rfl rfl ?_) | (refine j_kBin rfl ?_; first | refine j_in rfl rfl ⟨by omega, by omega⟩ rfl rfl ?_) | (refine j_kLen rfl ?_; first | refine j_len rfl rfl rfl rfl rfl rfl ?_) | (refine j_kCall rfl rfl rfl rfl ?_; first | refine jc (c_l06Rule _ _ hf) (LeL.refl _) rfl rfl ?_))
      | refine j_nil ?_
      | (refine r_go ?_; first | refine run_seq ?_ | refine run_region ?_ | (refine (run_if rfl (fun hb => ?_) (fun hb => ?_)) <;> first | (exfalso; omega) | skip) | (refine (run_ifn rfl (fun hb => ?_) (fun hb => ?_)) <;> first | (exfalso; omega) | skip) | refine run_block ?_ | refine run_ret ?_ | refine run_exit ?_ | refine run_skip ?_)
      | refine seqQ_normal ?_ | refine seqQ_ret ?_ | refine seqQ_exit ?_ | refine blockQ_normal ?_ | refine blockQ_ret ?_ | refine blockQ_eq ?_ | refine loopQ_ret ?_ | refine loopQ_exit ?_)
    · exact end1 rfl (by first | exact List.Sublist.refl _ | exact sub1 | exact sub2 | exact sub3) (rbF (fun q => hb (q.2 _ (List.getElem_mem _)))) (.inl rfl)
    · exact loopQ_nextD (j + 1) ⟨by omega, all_step jp (fun _ => hb)⟩ (by omega) (by first | exact List.Sublist.refl _ | exact sub1 | exact sub2 | exact sub3) ⟨rfl, nx _, trivial⟩
    · exact end1 rfl (by first | exact List.Sublist.refl _ | exact sub1 | exact sub2 | exact sub3) (rbT (⟨hf, fun r hr => by obtain ⟨i, hi, rfl⟩ := List.getElem_of_mem hr; exact jp i hi (by omega)⟩)) (.inl rfl)

theorem c_l06Stock (p : Passing) (s : Stock) (hv : p.Ok) : Gives Tryz.prog 81 [.ip (encPassing p), .ip (encStock s)] (.raw (.bool (dec (p.StockOk s)))) := by
  refine fn_of_run tyOk ztOk mix Tryz.func81 rfl (by decide) Tryz.ntmps81 (fun w0 h => ?_)
  have h8 := hv.1.1
  have h4 := hv.1.2.1
  have hfr := hv.1.2.2.2.1
  repeat' (first
      | (refine j_go ?_; first
        | refine j_op0 rfl rfl rfl rfl ?_ | refine j_off rfl rfl rfl ?_ | (refine j_kLen rfl ?_; first | refine j_len rfl rfl rfl rfl rfl rfl ?_) | (refine j_kCall rfl rfl rfl rfl ?_; first | refine jc (c_l06Bag _ _ h8) (LeL.refl _) rfl rfl ?_) | (refine j_kGuard rfl ?_; first | (refine (j_ifn rfl rfl rfl (fun hb => ?_) (fun hb => ?_)) <;> first | (exfalso; omega) | skip)))
      | refine j_nil ?_
      | (refine r_go ?_; first | refine run_seq ?_ | refine run_region ?_ | refine run_cond_t rfl ?_ | (refine (run_ifn rfl (fun hb => ?_) (fun hb => ?_)) <;> first | (exfalso; omega) | skip) | refine run_block ?_ | refine run_ret ?_ | refine run_skip ?_ | refine run_regionD (by kernel_rfl) ?_)
      | refine seqQ_normal ?_ | refine seqQ_ret ?_)
  all_goals first
    | exact end1 rfl (by first | exact List.Sublist.refl _ | exact sub1 | exact sub2 | exact sub3) (rbF (fun q => by first | exact absurd q.2.1 (by assumption) | (have := q.1; omega))) (.inl rfl)
    | skip
  have ha : BagK p.kinds s.around := by assumption
  have hal := ha.2
  have hcl : s.cells.length = p.parents.length := by omega
  refine run_loop (fun k : Nat => [(0, .ip (encPassing p)), (1, .ip (encStock s)), (5, .int (k : Int))]) (fun _ => _) (fun k => k ≤ s.cells.length ∧ (∀ i (h : i < s.cells.length), i < k → BagK p.kinds s.cells[i])) (fun k => s.cells.length - k) 0 ⟨rfl, rfl, rfl, trivial⟩ rfl ⟨Nat.zero_le _, by first | (intros; omega) | (simp; done) | rfl | trivial | exact ⟨by simp [sumF], by intros; omega⟩ | exact ⟨by omega, by simp⟩⟩ (fun k ⟨kl, kp⟩ => ?_)
  repeat' (first
      | (refine j_go ?_; first
        | refine j_op0 rfl rfl rfl rfl ?_ | (refine j_kIdx rfl ?_; first | refine j_idx rfl rfl rfl rfl rfl (by omega) rfl rfl rfl ?_) | (refine j_kBin rfl ?_; first | refine j_in rfl rfl ⟨by omega, by omega⟩ rfl rfl ?_) | (refine j_kLen rfl ?_; first | refine j_len rfl rfl rfl rfl rfl rfl ?_) | (refine j_kCall rfl rfl rfl rfl ?_; first | refine jc (c_l06Bag _ _ h8) (LeL.refl _) rfl rfl ?_))
      | refine j_nil ?_
      | (refine r_go ?_; first | refine run_seq ?_ | refine run_region ?_ | (refine (run_if rfl (fun hb => ?_) (fun hb => ?_)) <;> first | (exfalso; omega) | skip) | (refine (run_ifn rfl (fun hb => ?_) (fun hb => ?_)) <;> first | (exfalso; omega) | skip) | refine run_block ?_ | refine run_ret ?_ | refine run_exit ?_ | refine run_skip ?_ | refine run_regionD (by kernel_rfl) ?_)
      | refine seqQ_normal ?_ | refine seqQ_ret ?_ | refine seqQ_exit ?_ | refine blockQ_normal ?_ | refine blockQ_ret ?_ | refine blockQ_eq ?_ | refine loopQ_ret ?_ | refine loopQ_exit ?_)
  · exact end1 rfl (by first | exact List.Sublist.refl _ | exact sub1 | exact sub2 | exact sub3) (rbF (fun q => hb (q.2.2.1 _ (List.getElem_mem _)))) (.inl rfl)
  · exact loopQ_nextD (k + 1) ⟨by omega, all_step kp (fun _ => hb)⟩ (by omega) (by first | exact List.Sublist.refl _ | exact sub1 | exact sub2 | exact sub3) ⟨rfl, rfl, nx _, trivial⟩
  · refine run_loop (fun j : Nat => [(0, .ip (encPassing p)), (1, .ip (encStock s)), (6, .int (j : Int))]) (fun _ => _) (fun j => j ≤ s.around.length ∧ (∀ i (h : i < s.around.length), i < j → ¬ (0 < s.around[i] ∧ p.free[i]? = some true))) (fun j => s.around.length - j) 0 ⟨rfl, rfl, rfl, trivial⟩ rfl ⟨Nat.zero_le _, by first | (intros; omega) | (simp; done) | rfl | trivial | exact ⟨by simp [sumF], by intros; omega⟩ | exact ⟨by omega, by simp⟩⟩ (fun j ⟨jl, jp⟩ => ?_)
    by_cases hj : j < s.around.length
    · have hjf : j < p.free.length := by omega
      repeat' (first
      | (refine j_go ?_; first
        | refine j_op0 rfl rfl rfl rfl ?_ | refine j_off rfl rfl rfl ?_ | (refine j_kIdx rfl ?_; first | refine j_idx rfl rfl rfl rfl rfl (by omega) rfl rfl rfl ?_) | (refine j_kBin rfl ?_; first | refine j_in rfl rfl ⟨by omega, by omega⟩ rfl rfl ?_) | (refine j_kLen rfl ?_; first | refine j_len rfl rfl rfl rfl rfl rfl ?_) | (refine j_kGuard rfl ?_; first | (refine (j_branch rfl rfl rfl (fun hb => ?_) (fun hb => ?_)) <;> skip; (fail_if_success guard_hyp hb : true = true); (fail_if_success guard_hyp hb : true = false); (fail_if_success guard_hyp hb : false = true); (fail_if_success guard_hyp hb : false = false))))
      | refine j_nil ?_
      | (refine r_go ?_; first | refine run_seq ?_ | refine run_region ?_ | refine run_cond_f rfl ?_ | (refine (run_if rfl (fun hb => ?_) (fun hb => ?_)) <;> first | (exfalso; omega) | skip) | refine run_block ?_ | refine run_ret ?_ | refine run_skip ?_)
      | refine seqQ_normal ?_ | refine seqQ_ret ?_ | refine blockQ_normal ?_ | refine blockQ_ret ?_ | refine loopQ_ret ?_)
      all_goals first
        | exact end1 rfl (by first | exact List.Sublist.refl _ | exact sub1 | exact sub2 | exact sub3) (rbF (fun q => q.2.2.2 j hj ⟨by assumption, by first | exact al_t (by assumption) | (rw [List.getElem?_eq_getElem hjf]; simp_all)⟩)) (.inl rfl)
        | exact loopQ_nextD (j + 1) ⟨by omega, all_step jp (fun _ q => by first | exact absurd q.1 (by assumption) | exact al_f (by assumption) q.2 | (have := q.2; rw [List.getElem?_eq_getElem hjf] at this; simp_all))⟩ (by omega) (by first | exact List.Sublist.refl _ | exact sub1 | exact sub2 | exact sub3) ⟨rfl, rfl, nx _, trivial⟩
        | trace_state
    · repeat' (first
      | (refine j_go ?_; first
        | refine j_op0 rfl rfl rfl rfl ?_ | (refine j_kLen rfl ?_; first | refine j_len rfl rfl rfl rfl rfl rfl ?_))
      | refine j_nil ?_
      | (refine r_go ?_; first | refine run_seq ?_ | refine run_region ?_ | (refine (run_if rfl (fun hb => ?_) (fun hb => ?_)) <;> first | (exfalso; omega) | skip) | refine run_ret ?_ | refine run_exit ?_)
      | refine seqQ_normal ?_ | refine seqQ_exit ?_ | refine blockQ_eq ?_ | refine loopQ_exit ?_)
      exact end1 rfl (by first | exact List.Sublist.refl _ | exact sub1 | exact sub2 | exact sub3) (rbT (⟨hcl, ha, fun b hb => by obtain ⟨i, hi, rfl⟩ := List.getElem_of_mem hb; exact kp i hi (by omega), fun i h => jp i h (by omega)⟩)) (.inl rfl)


theorem c_sizeB (l : List Bool) : Gives Tryz.prog 89 [.sl (l.map encB)] (.int l.length) := by
  refine fn_of_run tyOk ztOk mix Tryz.func89 rfl (by decide) Tryz.ntmps89 (fun w0 h => ?_)
  repeat' (first
      | (refine j_go ?_; first
        | refine j_op0 rfl rfl rfl rfl ?_ | (refine j_kLen rfl ?_; first | refine j_len rfl rfl rfl rfl rfl rfl ?_))
      | refine j_nil ?_
      | (refine r_go ?_; first | refine run_seq ?_ | refine run_region ?_ | refine run_ret ?_)
      | refine seqQ_normal ?_)
  exact end1 rfl (List.Sublist.refl _) (rfl) (.inl rfl)
theorem c_hasBound (p : Passing) (b : List Int) (hl : b.length ≤ p.free.length) : Gives Tryz.prog 92 [.agg (encPassing p), .sl (b.map Go.AI.encI)] (.raw (.bool (dec (p.Bound b)))) := by
  refine fn_of_run tyOk ztOk mix Tryz.func92 rfl (by decide) Tryz.ntmps92 (fun w0 h => ?_)
  refine run_len (t := 1) rfl (fun hl2 => ?_)
  rw [List.length_map] at hl2
  repeat' (first
      | (refine j_go ?_; first
        | refine j_op0 rfl rfl rfl rfl ?_ | (refine j_kLen rfl ?_; first | refine j_len rfl rfl rfl rfl rfl rfl ?_) | refine j_box rfl rfl rfl rfl rfl rfl ?_)
      | refine j_nil ?_
      | (refine r_go ?_; first | refine run_seq ?_ | refine run_region ?_ | refine run_block ?_)
      | refine seqQ_normal ?_)
  refine run_loop (fun k : Nat => [(2, .ip (encPassing p)), (7, .sl (b.map Go.AI.encI)), (8, .int b.length), (9, .int (k : Int))]) (fun _ => _) (fun k => k ≤ b.length ∧ (∀ i (h : i < b.length), i < k → ¬ (0 < b[i] ∧ ¬ p.free[i]? = some true))) (fun k => b.length - k) 0 ⟨rfl, rfl, rfl, rfl, trivial⟩ rfl ⟨Nat.zero_le _, by first | (intros; omega) | (simp; done) | rfl | trivial | exact ⟨by simp [sumF], by intros; omega⟩ | exact ⟨by omega, by simp⟩⟩ (fun k ⟨kl, kp⟩ => ?_)
  by_cases hk : k < b.length
  · have hkf : k < p.free.length := by omega
    repeat' (first
      | (refine j_go ?_; first
        | refine j_op0 rfl rfl rfl rfl ?_ | refine j_off rfl rfl rfl ?_ | (refine j_kIdx rfl ?_; first | refine j_idx rfl rfl rfl rfl rfl (by omega) rfl rfl rfl ?_) | (refine j_kBin rfl ?_; first | refine j_in rfl rfl ⟨by omega, by omega⟩ rfl rfl ?_) | (refine j_kGuard rfl ?_; first | (refine (j_if rfl rfl rfl (fun hb => ?_) (fun hb => ?_)) <;> first | (exfalso; omega) | skip)))
      | refine j_nil ?_
      | (refine r_go ?_; first | refine run_seq ?_ | refine run_region ?_ | refine run_cond_f rfl ?_ | (refine (run_if rfl (fun hb => ?_) (fun hb => ?_)) <;> first | (exfalso; omega) | skip) | refine run_block ?_ | refine run_ret ?_ | refine run_skip ?_ | refine run_condn rfl (fun hb => ?_) (fun hb => ?_))
      | refine seqQ_normal ?_ | refine seqQ_ret ?_ | refine blockQ_normal ?_ | refine blockQ_ret ?_ | refine loopQ_ret ?_)
    all_goals first
      | exact end1 rfl (by first | exact List.Sublist.refl _ | exact sub1 | exact sub2 | exact sub3) (rbT (⟨k, hk, by assumption, by first | exact al_f (by assumption) | exact al_f' (by assumption) | (rw [List.getElem?_eq_getElem hkf]; simp_all)⟩)) (.inl rfl)
      | exact loopQ_nextD (k + 1) ⟨by omega, all_step kp (fun _ q => by first | exact absurd q.1 (by assumption) | exact q.2 (al_t (by assumption)) | exact q.2 (al_t' (by assumption)) | (have := q.2; rw [List.getElem?_eq_getElem hkf] at this; simp_all))⟩ (by omega) (by first | exact List.Sublist.refl _ | exact sub1 | exact sub2 | exact sub3) ⟨rfl, rfl, rfl, nx _, trivial⟩
      | trace_state
  · repeat' (first
      | (refine j_go ?_; first
        | refine j_op0 rfl rfl rfl rfl ?_)
      | refine j_nil ?_
      | (refine r_go ?_; first | refine run_seq ?_ | refine run_region ?_ | (refine (run_if rfl (fun hb => ?_) (fun hb => ?_)) <;> first | (exfalso; omega) | skip) | refine run_ret ?_ | refine run_exit ?_)
      | refine seqQ_normal ?_ | refine seqQ_exit ?_ | refine blockQ_eq ?_ | refine loopQ_exit ?_)
    exact end1 rfl (by first | exact List.Sublist.refl _ | exact sub1 | exact sub2 | exact sub3) (rbF (fun ⟨i, hi, q⟩ => kp i hi (by omega) q)) (.inl rfl)
theorem c_iValidPassing1 (p : Passing) (r : PassRule) (hf : p.Frame) : Gives Tryz.prog 91 [.agg (encPassRule r), .ip (encPassing p)] (.raw (.bool (dec (¬ p.RuleOk r)))) := by
  refine fn_of_run tyOk ztOk mix Tryz.func91 rfl (by decide) Tryz.ntmps91 (fun w0 h => ?_)
  have hk8 := hf.1
  have hp4 := hf.2.1
  have hfr := hf.2.2.2.1
  repeat' (first
      | (refine j_go ?_; first
        | refine j_op0 rfl rfl rfl rfl ?_ | refine j_off rfl rfl rfl ?_ | (refine j_kBin rfl ?_; first | refine j_in rfl rfl ⟨by omega, by omega⟩ rfl rfl ?_) | (refine j_kCall rfl rfl rfl rfl ?_; first | refine jc (c_inRange _ _ _) (LeL.refl _) rfl rfl ?_ | refine jc (c_sizeI _) (LeL.refl _) rfl rfl ?_ | refine jc (c_ValidBag _ _) (LeL.refl _) rfl rfl ?_ | refine jc (c_bagSize _ (BagK.bag (k := p.kinds) (by assumption))) (LeL.refl _) rfl rfl ?_) | (refine j_kGuard rfl ?_; first | (refine (j_ifn rfl rfl rfl (fun hb => ?_) (fun hb => ?_)) <;> first | (exfalso; omega) | skip)) | refine j_box rfl rfl rfl rfl rfl rfl ?_)
      | refine j_nil ?_
      | (refine r_go ?_; first | refine run_seq ?_ | refine run_region ?_ | refine run_ret ?_ | refine run_regionD (by kernel_rfl) ?_)
      | refine seqQ_normal ?_)
  · exact end1 rfl (by first | exact List.Sublist.refl _ | exact sub1 | exact sub2 | exact sub3) (rbT (fun q => hb q.1)) (.inl rfl)
  · exact end1 rfl (by first | exact List.Sublist.refl _ | exact sub1 | exact sub2 | exact sub3) (rbT (fun q => hb q.2.1)) (.inl rfl)
  · exact end1 rfl (by first | exact List.Sublist.refl _ | exact sub1 | exact sub2 | exact sub3) (rbT (fun q => hb q.2.2.1)) (.inl rfl)
  have ho : BagK p.kinds r.out := by assumption
  have hi : BagK p.kinds r.in_ := by assumption
  have to := ho.bnd
  have ti := hi.bnd
  repeat' (first
      | (refine j_go ?_; first
        | refine j_op0 rfl rfl rfl rfl ?_ | refine j_off rfl rfl rfl ?_ | (refine j_kBin rfl ?_; first | refine j_in rfl rfl ⟨by omega, by omega⟩ rfl rfl ?_) | (refine j_kCall rfl rfl rfl rfl ?_; first | refine jc (c_bagSize _ (BagK.bag (k := p.kinds) (by assumption))) (LeL.refl _) rfl rfl ?_ | refine jc (c_hasBound _ _ (bag_le hfr hi)) (LeL.refl _) rfl rfl ?_) | (refine j_kGuard rfl ?_; first | (refine (j_if rfl rfl rfl (fun hb => ?_) (fun hb => ?_)) <;> first | (exfalso; omega) | skip)))
      | refine j_nil ?_
      | (refine r_go ?_; first | refine run_ret ?_)
      | refine seqQ_normal ?_)
  all_goals first
    | exact end1 rfl (by first | exact List.Sublist.refl _ | exact sub1 | exact sub2 | exact sub3) (rbT (fun q => q.2.2.2.1 (by omega))) (.inl rfl)
    | exact end1 rfl (List.Sublist.refl _) (rbN ⟨fun q r => by rcases r.2.2.2.2 with q5 | q5 | q5 <;> first | omega | exact q q5, fun q z => q ⟨by assumption, ho, hi, by omega, .inr (.inr z)⟩⟩) (.inl rfl)
    | exact end1 rfl (by first | exact List.Sublist.refl _ | exact sub1 | exact sub2 | exact sub3) (rbT (fun q => by rcases q.2.2.2.2 with q5 | q5 | q5 <;> first | omega | exact absurd q5 (by assumption))) (.inl rfl)
    | exact end1 rfl (by first | exact List.Sublist.refl _ | exact sub1 | exact sub2 | exact sub3) (rbF (fun q => q ⟨by assumption, ho, hi, by omega, by first | exact .inl (by omega) | exact .inr (.inl (by omega)) | exact .inr (.inr (by assumption))⟩)) (.inl rfl)
    | trace_state

theorem c_iValidPassing (p : Passing) : Gives Tryz.prog 70 [.agg (encPassing p)] (.raw (.bool (dec p.Ok))) := by
  refine fn_of_run tyOk ztOk mix Tryz.func70 rfl (by decide) Tryz.ntmps70 (fun w0 h => ?_)
  repeat' (first
      | (refine j_go ?_; first
        | refine j_op0 rfl rfl rfl rfl ?_ | refine j_off rfl rfl rfl ?_ | (refine j_kIdx rfl ?_; first | refine j_idxz rfl rfl rfl rfl rfl ⟨by omega, by omega⟩ rfl rfl rfl ?_) | (refine j_kLen rfl ?_; first | refine j_len rfl rfl rfl rfl rfl rfl ?_) | (refine j_kCall rfl rfl rfl rfl ?_; first | refine jc (c_inRange _ _ _) (LeL.refl _) rfl rfl ?_ | refine jc (c_sizeI _) (LeL.refl _) rfl rfl ?_ | refine jc (c_sizeB _) (LeL.refl _) rfl rfl ?_) | (refine j_kSlice rfl ?_; first | refine j_tail 1 rfl rfl rfl rfl rfl (by omega) (fun _ => rfl) rfl rfl ?_) | (refine j_kGuard rfl ?_; first | (refine (j_ifn rfl rfl rfl (fun hb => ?_) (fun hb => ?_)) <;> first | (exfalso; omega) | skip)) | refine j_box rfl rfl rfl rfl rfl rfl ?_)
      | refine j_nil ?_
      | (refine r_go ?_; first | refine run_seq ?_ | refine run_region ?_ | refine run_cond_t rfl ?_ | (refine (run_if rfl (fun hb => ?_) (fun hb => ?_)) <;> first | (exfalso; omega) | skip) | refine run_block ?_ | refine run_ret ?_ | refine run_skip ?_ | refine run_regionD (by kernel_rfl) ?_)
      | refine seqQ_normal ?_ | refine seqQ_ret ?_)
  all_goals first
    | exact end1 rfl (by first | exact List.Sublist.refl _ | exact sub1 | exact sub2 | exact sub3) (rbF (fun q => by
        obtain ⟨⟨q1, q2, q3, q4, q5, q6⟩, q7⟩ := q
        first
          | exact absurd q1 (by assumption)
          | (exfalso; omega)
          | (have z : p.parents[0]'(by omega) = -1 := by
               rw [List.getElem?_eq_getElem (by omega)] at q3; simpa using q3
             exact absurd z (by assumption)))) (.inl rfl)
    | skip
  have h0 : (p.parents[0]'(by omega)) = -1 := by assumption
  have h1 : 1 ≤ p.kinds ∧ p.kinds ≤ 8 := by assumption
  have hl : (p.parents.drop 1).length = p.parents.length - 1 := by simp
  refine run_loop (fun k : Nat => [(1, .ip (encPassing p)), (39, .sl ((p.parents.drop 1).map Go.AI.encI)), (40, .int (p.parents.drop 1).length), (41, .int (k : Int))]) (fun _ => _) (fun k => k ≤ (p.parents.drop 1).length ∧ (∀ c (h : c < p.parents.length), c < k + 1 → 1 ≤ c → 0 ≤ p.parents[c] ∧ p.parents[c] ≤ (c : Int) - 1)) (fun k => (p.parents.drop 1).length - k) 0 ⟨rfl, rfl, rfl, rfl, trivial⟩ rfl ⟨Nat.zero_le _, by first | (intros; omega) | (simp; done) | rfl | trivial | exact ⟨by simp [sumF], by intros; omega⟩ | exact ⟨by omega, by simp⟩⟩ (fun k ⟨kl, kp⟩ => ?_)
  repeat' (first
      | (refine j_go ?_; first
        | refine j_op0 rfl rfl rfl rfl ?_ | (refine j_kIdx rfl ?_; first | refine j_idx rfl rfl rfl rfl rfl (by omega) rfl rfl rfl ?_) | (refine j_kBin rfl ?_; first | refine j_in rfl rfl ⟨by omega, by omega⟩ rfl rfl ?_) | (refine j_kCall rfl rfl rfl rfl ?_; first | refine jc (c_inRange _ _ _) (LeL.refl _) rfl rfl ?_))
      | refine j_nil ?_
      | (refine r_go ?_; first | refine run_seq ?_ | refine run_region ?_ | (refine (run_if rfl (fun hb => ?_) (fun hb => ?_)) <;> first | (exfalso; omega) | skip) | (refine (run_ifn rfl (fun hb => ?_) (fun hb => ?_)) <;> first | (exfalso; omega) | skip) | refine run_block ?_ | refine run_ret ?_ | refine run_exit ?_ | refine run_skip ?_)
      | refine seqQ_normal ?_ | refine seqQ_ret ?_ | refine seqQ_exit ?_ | refine blockQ_normal ?_ | refine blockQ_ret ?_ | refine blockQ_eq ?_ | refine loopQ_ret ?_ | refine loopQ_exit ?_)
  · simp only [List.getElem_drop, Nat.add_comm 1 k] at hb
    exact end1 rfl (by first | exact List.Sublist.refl _ | exact sub1 | exact sub2 | exact sub3) (rbF (fun q => hb (by have := q.1.2.2.2.2.2 (k + 1) (by omega) (by omega); omega))) (.inl rfl)
  · simp only [List.getElem_drop, Nat.add_comm 1 k] at hb
    exact loopQ_nextD (k + 1) ⟨by omega, all_step kp (fun _ _ => by omega)⟩ (by omega) (by first | exact List.Sublist.refl _ | exact sub1 | exact sub2 | exact sub3) ⟨rfl, rfl, rfl, nx _, trivial⟩
  · have hf : p.Frame := ⟨h1, by omega, by rw [List.getElem?_eq_getElem (by omega), h0], by omega, by omega, fun c h1 h2 => kp c h1 (by omega) h2⟩
    repeat' (first
      | (refine j_go ?_; first
        | refine j_op0 rfl rfl rfl rfl ?_ | (refine j_kCall rfl rfl rfl rfl ?_; first | refine jc (c_cfP _ _ (fun r => ¬ p.RuleOk r) _ (fun r _ => c_iValidPassing1 p r hf)) (LeL.refl _) rfl rfl ?_))
      | refine j_nil ?_
      | (refine r_go ?_; first | refine run_ret ?_)
      | refine seqQ_normal ?_)
    exact end1 rfl (List.Sublist.refl _) (rbN ⟨fun q => ⟨hf, fun r hr => by
        by_cases z : p.RuleOk r
        · exact z
        · exact absurd ⟨r, hr, z⟩ q⟩, fun q ⟨r, hr, z⟩ => z (q.2 r hr)⟩) (.inl rfl)

theorem c_iValidStock1 (p : Passing) (b : List Int) : Gives Tryz.prog 76 [.sl (b.map Go.AI.encI), .ip (encPassing p)] (.raw (.bool (dec (¬ BagK p.kinds b)))) := by
  refine fn_of_run tyOk ztOk mix Tryz.func76 rfl (by decide) Tryz.ntmps76 (fun w0 h => ?_)
  repeat' (first
      | (refine j_go ?_; first
        | refine j_op0 rfl rfl rfl rfl ?_ | (refine j_kCall rfl rfl rfl rfl ?_; first | refine jc (c_ValidBag _ _) (LeL.refl _) rfl rfl ?_))
      | refine j_nil ?_
      | (refine r_go ?_; first | refine run_seq ?_ | refine run_region ?_ | refine run_ret ?_)
      | refine seqQ_normal ?_)
  exact end1 rfl (List.Sublist.refl _) (rbN Iff.rfl) (.inl rfl)
theorem c_iValidStock (p : Passing) (s : Stock) : Gives Tryz.prog 49 [.agg (encPassing p), .agg (encStock s)] (.raw (.bool (dec (p.Ok ∧ p.StockOk s)))) := by
  refine fn_of_run tyOk ztOk mix Tryz.func49 rfl (by decide) Tryz.ntmps49 (fun w0 h => ?_)
  repeat' (first
      | (refine j_go ?_; first
        | refine j_op0 rfl rfl rfl rfl ?_ | refine j_off rfl rfl rfl ?_ | (refine j_kLen rfl ?_; first | refine j_len rfl rfl rfl rfl rfl rfl ?_) | (refine j_kCall rfl rfl rfl rfl ?_; first | refine jc (c_iValidPassing _) (LeL.refl _) rfl rfl ?_ | refine jc (c_ValidBag _ _) (LeL.refl _) rfl rfl ?_) | (refine j_kGuard rfl ?_; first | (refine (j_ifn rfl rfl rfl (fun hb => ?_) (fun hb => ?_)) <;> first | (exfalso; omega) | skip)) | refine j_box rfl rfl rfl rfl rfl rfl ?_)
      | refine j_nil ?_
      | (refine r_go ?_; first | refine run_seq ?_ | refine run_region ?_ | refine run_cond_t rfl ?_ | (refine (run_ifn rfl (fun hb => ?_) (fun hb => ?_)) <;> first | (exfalso; omega) | skip) | refine run_block ?_ | refine run_ret ?_ | refine run_skip ?_)
      | refine seqQ_normal ?_ | refine seqQ_ret ?_)
  all_goals first
    | exact end1 rfl (by first | exact List.Sublist.refl _ | exact sub1 | exact sub2 | exact sub3) (rbF (fun q => by
        obtain ⟨q0, q1, q2, q3, q4⟩ := q
        first | exact absurd q0 (by assumption) | exact absurd q2 (by assumption) | omega)) (.inl rfl)
    | skip
  have hv : p.Ok := by assumption
  have ha : BagK p.kinds s.around := by assumption
  have hal := ha.2
  have h8 := hv.1.1
  have hfr := hv.1.2.2.2.1
  have hcl : s.cells.length = p.parents.length := by omega
  refine run_loop (fun j : Nat => [(2, .ip (encPassing p)), (3, .ip (encStock s)), (28, .sl (s.around.map Go.AI.encI)), (29, .int s.around.length), (30, .int (j : Int))]) (fun _ => _) (fun j => j ≤ s.around.length ∧ (∀ i (h : i < s.around.length), i < j → ¬ (0 < s.around[i] ∧ p.free[i]? = some true))) (fun j => s.around.length - j) 0 ⟨rfl, rfl, rfl, rfl, rfl, trivial⟩ rfl ⟨Nat.zero_le _, by first | (intros; omega) | (simp; done) | rfl | trivial | exact ⟨by simp [sumF], by intros; omega⟩ | exact ⟨by omega, by simp⟩⟩ (fun j ⟨jl, jp⟩ => ?_)
  by_cases hj : j < s.around.length
  · have hjf : j < p.free.length := by omega
    repeat' (first
      | (refine j_go ?_; first
        | refine j_op0 rfl rfl rfl rfl ?_ | refine j_off rfl rfl rfl ?_ | (refine j_kIdx rfl ?_; first | refine j_idx rfl rfl rfl rfl rfl (by omega) rfl rfl rfl ?_) | (refine j_kBin rfl ?_; first | refine j_in rfl rfl ⟨by omega, by omega⟩ rfl rfl ?_) | (refine j_kGuard rfl ?_; first | (refine (j_if rfl rfl rfl (fun hb => ?_) (fun hb => ?_)) <;> first | (exfalso; omega) | skip)))
      | refine j_nil ?_
      | (refine r_go ?_; first | refine run_seq ?_ | refine run_region ?_ | refine run_cond_f rfl ?_ | (refine (run_if rfl (fun hb => ?_) (fun hb => ?_)) <;> first | (exfalso; omega) | skip) | refine run_block ?_ | refine run_ret ?_ | refine run_skip ?_ | refine run_cond rfl (fun hb => ?_) (fun hb => ?_))
      | refine seqQ_normal ?_ | refine seqQ_ret ?_ | refine blockQ_normal ?_ | refine blockQ_ret ?_ | refine loopQ_ret ?_)
    all_goals first
      | exact end1 rfl (by first | exact List.Sublist.refl _ | exact sub1 | exact sub2 | exact sub3) (rbF (fun q => q.2.2.2.2 j hj ⟨by assumption, by first | exact al_t (by assumption) | (rw [List.getElem?_eq_getElem hjf]; simp_all)⟩)) (.inl rfl)
      | exact loopQ_nextD (j + 1) ⟨by omega, all_step jp (fun _ q => by first | exact absurd q.1 (by assumption) | exact al_f (by assumption) q.2 | (have := q.2; rw [List.getElem?_eq_getElem hjf] at this; simp_all))⟩ (by omega) (by first | exact List.Sublist.refl _ | exact sub1 | exact sub2 | exact sub3) ⟨rfl, rfl, rfl, rfl, nx _, trivial⟩
      | trace_state
  · repeat' (first
      | (refine j_go ?_; first
        | refine j_op0 rfl rfl rfl rfl ?_ | (refine j_kCall rfl rfl rfl rfl ?_; first | refine jc (c_cfS _ _ (fun b => ¬ BagK p.kinds b) _ (fun b _ => c_iValidStock1 p b)) (LeL.refl _) rfl rfl ?_))
      | refine j_nil ?_
      | (refine r_go ?_; first | refine run_seq ?_ | refine run_region ?_ | (refine (run_if rfl (fun hb => ?_) (fun hb => ?_)) <;> first | (exfalso; omega) | skip) | refine run_ret ?_ | refine run_exit ?_)
      | refine seqQ_normal ?_ | refine seqQ_exit ?_ | refine blockQ_eq ?_ | refine loopQ_exit ?_)
    exact end1 rfl (List.Sublist.refl _) (rbN ⟨fun q => ⟨hv, hcl, ha, fun b hb => by
        by_cases z : BagK p.kinds b
        · exact z
        · exact absurd ⟨b, hb, z⟩ q, fun i h => jp i h (by omega)⟩, fun q ⟨b, hb, z⟩ => z (q.2.2.2.1 b hb)⟩) (.inl rfl)

end Go.Proofs.YtbpmmdecaonopaaGreat

/-
  Steps: which rules are enabled, what the reference and the program compute. No condition.
-/
namespace Go.Proofs.YtbpmmdecaonopaaGreat
open Go.AI
set_option maxRecDepth 8000
set_option maxHeartbeats 1600000

def Within (a b : List Int) : Prop := ∀ i (ha : i < a.length) (hb : i < b.length), a[i] ≤ b[i]


def bagOf (t : State) (c : Int) : List Int := t.bags.getD c.toNat []
def IntoNow (s : System) (t : State) (r : Rule) (x : Into) : Prop := t.Lives x.cell ∧ pnow s t x.cell = r.cell
/-- A rule is enabled. -/
def EnP (s : System) (t : State) (r : Rule) : Prop := t.Lives r.cell ∧ Within r.need (bagOf t r.cell) ∧ Within r.have_ (bagOf t r.cell) ∧ ¬ (0 < tot r.lack ∧ Within r.lack (bagOf t r.cell)) ∧ ∀ i (h : i < r.into.length), IntoNow s t r r.into[i]
end Go.Proofs.YtbpmmdecaonopaaGreat

/-
  Steps: which rules are applicable, what the reference and the program compute; IsHalted. No condition.
-/
namespace Go.Proofs.YtbpmmdecaonopaaGreat
open Go.AI
set_option maxRecDepth 8000
set_option maxHeartbeats 1600000

open Classical in
/-- The greatest rank among those of some rules that are so and that have a cell. -/
noncomputable def bst (init : Int) (en : Rule → Prop) (c : Int) : List Rule → Int
  | [] => init
  | r :: rs => bst (if en r ∧ r.cell = c then max init r.rank else init) en c rs
/-- A rule is applicable. -/
def App (s : System) (t : State) (r : Rule) : Prop := EnP s t r ∧ ∀ x ∈ s.rules, EnP s t x → x.cell = r.cell → x.rank ≤ r.rank
end Go.Proofs.YtbpmmdecaonopaaGreat

/-
  Steps: the program's list of applicable rules; IsHalted. No condition.
-/
namespace Go.Proofs.YtbpmmdecaonopaaGreat
open Go.AI
set_option maxRecDepth 8000
set_option maxHeartbeats 1600000

end Go.Proofs.YtbpmmdecaonopaaGreat
