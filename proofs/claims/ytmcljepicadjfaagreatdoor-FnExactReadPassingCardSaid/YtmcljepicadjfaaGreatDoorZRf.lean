/-
  Library functions over lists of passing rules: the first element of a kind. No condition.
-/
import Derived.Test.YtmcljepicadjfaaGreatDoorZH6
import Derived.Test.YtmcljepicadjfaaGreatDoorZRd
namespace Go.Proofs.YtmcljepicadjfaaGreatDoor
open Go.AI
set_option maxRecDepth 8000
set_option maxHeartbeats 1600000

theorem c_ixfP (f : FuncId) (caps : List A) (r : PassRule → Prop) (l : List (PassRule)) (hf : ∀ x ∈ l, Gives Tryz.prog f (.agg (encPassRule x) :: caps) (.raw (.bool (dec (r x))))) : Gives Tryz.prog 93 [.sl (l.map encPassRule), .fn f caps] (.int (fIdx r l)) := by
  refine fn_of_run tyOk ztOk mix Tryz.func93 rfl (by decide) Tryz.ntmps93 (fun w0 h => ?_)
  refine run_len (t := 0) rfl (fun hl => ?_)
  rw [List.length_map] at hl
  repeat' (first
      | (refine j_go ?_; first
        | refine j_op0 rfl rfl rfl rfl ?_ | (refine j_kLen rfl ?_; first | refine j_len rfl rfl rfl rfl rfl rfl ?_))
      | refine j_nil ?_
      | (refine r_go ?_; first | refine run_seq ?_ | refine run_region ?_ | refine run_block ?_)
      | refine seqQ_normal ?_)
  refine run_loop (fun k : Nat => [(0, .sl (l.map encPassRule)), (1, .fn f caps), (7, .int l.length), (8, .int (k : Int))]) (fun _ => _) (fun k => k ≤ l.length ∧ (∀ i (h : i < l.length), i < k → ¬ r l[i])) (fun k => l.length - k) 0 ⟨rfl, rfl, rfl, rfl, trivial⟩ rfl ⟨Nat.zero_le _, by first | (intros; omega) | (simp; done) | rfl | trivial | exact ⟨by simp [sumF], by intros; omega⟩ | exact ⟨by omega, by simp⟩⟩ (fun k ⟨kl, kp⟩ => ?_)
  repeat' (first
      | (refine j_go ?_; first
        | refine j_op0 rfl rfl rfl rfl ?_ | (refine j_kIdx rfl ?_; first | refine j_idx rfl rfl rfl rfl rfl (by omega) rfl rfl rfl ?_) | (refine j_kBin rfl ?_; first | refine j_in rfl rfl ⟨by omega, by omega⟩ rfl rfl ?_) | (refine j_kCall rfl rfl rfl rfl ?_; first | refine jc (hf _ (List.getElem_mem _)) (LeL.refl _) rfl rfl ?_))
      | refine j_nil ?_
      | (refine r_go ?_; first | refine run_seq ?_ | refine run_region ?_ | (refine (run_if rfl (fun hb => ?_) (fun hb => ?_)) <;> first | (exfalso; omega) | skip) | refine run_block ?_ | refine run_ret ?_ | refine run_exit ?_ | refine run_skip ?_)
      | refine seqQ_normal ?_ | refine seqQ_ret ?_ | refine seqQ_exit ?_ | refine blockQ_normal ?_ | refine blockQ_ret ?_ | refine blockQ_eq ?_ | refine loopQ_ret ?_ | refine loopQ_exit ?_)
  · exact end1 rfl (List.Sublist.refl _) (ai (fIdx_at (by omega) hb kp).symm) (.inl rfl)
  · exact loopQ_nextD (k + 1) ⟨by omega, all_step kp (fun _ => hb)⟩ (by omega) (by first | exact List.Sublist.refl _ | exact sub1 | exact sub2 | exact sub3) ⟨rfl, rfl, rfl, nx _, trivial⟩
  · exact end1 rfl (List.Sublist.refl _) (ai (fIdx_none (fun i h => kp i h (by omega))).symm) (.inl rfl)

theorem c_cfP (f : FuncId) (caps : List A) (r : PassRule → Prop) (l : List (PassRule)) (hf : ∀ x ∈ l, Gives Tryz.prog f (.agg (encPassRule x) :: caps) (.raw (.bool (dec (r x))))) : Gives Tryz.prog 45 [.sl (l.map encPassRule), .fn f caps] (.raw (.bool (dec (∃ x ∈ l, r x)))) := by
  refine fn_of_run tyOk ztOk mix Tryz.func45 rfl (by decide) Tryz.ntmps45 (fun w0 h => ?_)
  repeat' (first
      | (refine j_go ?_; first
        | refine j_op0 rfl rfl rfl rfl ?_ | (refine j_kCall rfl rfl rfl rfl ?_; first | refine jc (c_ixfP _ _ r _ hf) (LeL.refl _) rfl rfl ?_))
      | refine j_nil ?_
      | (refine r_go ?_; first | refine run_seq ?_ | refine run_region ?_ | refine run_ret ?_)
      | refine seqQ_normal ?_)
  exact end1 rfl (List.Sublist.refl _) (rbD (fIdx_ex r l)) (.inl rfl)

end Go.Proofs.YtmcljepicadjfaaGreatDoor

/-
  Passing systems and stocks: what ValidPassing and ValidStock of the reference and of the program compute. No condition.
-/
namespace Go.Proofs.YtmcljepicadjfaaGreatDoor
open Go.AI
set_option maxRecDepth 8000
set_option maxHeartbeats 1600000

def Passing.Bound (p : Passing) (b : List Int) : Prop := ∃ i, ∃ h : i < b.length, 0 < b[i] ∧ ¬ p.free[i]? = some true
def Passing.Frame (p : Passing) : Prop := (1 ≤ p.kinds ∧ p.kinds ≤ 8) ∧ (1 ≤ p.parents.length ∧ p.parents.length ≤ 4) ∧ p.parents[0]? = some (-1) ∧ (p.free.length : Int) = p.kinds ∧ p.rules.length ≤ 8 ∧ ∀ c (h : c < p.parents.length), 1 ≤ c → 0 ≤ p.parents[c] ∧ p.parents[c] ≤ (c : Int) - 1
def Passing.RuleOk (p : Passing) (r : PassRule) : Prop := (0 ≤ r.cell ∧ r.cell ≤ (p.parents.length : Int) - 1) ∧ BagK p.kinds r.out ∧ BagK p.kinds r.in_ ∧ ¬ tot r.out + tot r.in_ = 0 ∧ (0 < r.cell ∨ 0 < tot r.out ∨ p.Bound r.in_)
def Passing.Ok (p : Passing) : Prop := p.Frame ∧ ∀ r ∈ p.rules, p.RuleOk r
def Passing.StockOk (p : Passing) (s : Stock) : Prop := s.cells.length = p.parents.length ∧ BagK p.kinds s.around ∧ (∀ b ∈ s.cells, BagK p.kinds b) ∧ ∀ i (h : i < s.around.length), ¬ (0 < s.around[i] ∧ p.free[i]? = some true)

theorem bag_le {p : Passing} (hfr : (p.free.length : Int) = p.kinds) {b : List Int} (q : BagK p.kinds b) : b.length ≤ p.free.length := by have := q.2; omega

theorem c_l06Sum (b : List Int) (hB : Small b) : Gives Tryz.prog 105 [.sl (b.map Go.AI.encI)] (.int (tot b)) := by
  refine fn_of_run tyOk ztOk mix Tryz.func105 rfl (by decide) Tryz.ntmps105 (fun w0 h => ?_)
  have hB2 := hB.2
  repeat' (first
      | (refine j_go ?_; first
        | refine j_op0 rfl rfl rfl rfl ?_)
      | refine j_nil ?_
      | (refine r_go ?_; first | refine run_seq ?_ | refine run_region ?_ | refine run_block ?_)
      | refine seqQ_normal ?_)
  refine run_loop (fun k : Nat => [(0, .sl (b.map Go.AI.encI)), (3, .int (sumF (fun x => x) (b.take k))), (4, .int (k : Int))]) (fun _ => _) (fun k => k ≤ b.length ∧ (True)) (fun k => b.length - k) 0 ⟨rfl, (by first | rfl | exact si (by first | omega | (simp; done) | (simp [sumF]; done) | (simp; omega)) | exact raw_f (by simp) | exact raw_t (by simp) | exact sa (by first | (rw [catK_zero]; rfl) | (rw [catK_zero, List.append_nil]; rfl) | (rw [catK_zero, List.append_nil]) | (rw [joinK_zero, List.append_nil]; rfl) | (rw [joinK_zero, List.append_nil]) | (simp [catK]; done))), rfl, trivial⟩ rfl ⟨Nat.zero_le _, by first | (intros; omega) | (simp; done) | rfl | trivial | exact ⟨by simp [sumF], by intros; omega⟩ | exact ⟨by omega, by simp⟩⟩ (fun k ⟨kl, kp⟩ => ?_)
  have b1 := hB.take k kl
  by_cases hk : k < b.length
  · have b2 := hB.1 _ (List.getElem_mem hk)
    repeat' (first
      | (refine j_go ?_; first
        | refine j_op0 rfl rfl rfl rfl ?_ | (refine j_kIdx rfl ?_; first | refine j_idx rfl rfl rfl rfl rfl (by omega) rfl rfl rfl ?_) | (refine j_kBin rfl ?_; first | refine j_in rfl rfl ⟨by omega, by omega⟩ rfl rfl ?_) | (refine j_kLen rfl ?_; first | refine j_len rfl rfl rfl rfl rfl rfl ?_))
      | refine j_nil ?_
      | (refine r_go ?_; first | refine run_seq ?_ | refine run_region ?_ | (refine (run_if rfl (fun hb => ?_) (fun hb => ?_)) <;> first | (exfalso; omega) | skip) | refine run_block ?_ | refine run_skip ?_)
      | refine seqQ_normal ?_ | refine blockQ_normal ?_)
    exact loopQ_nextD (k + 1) ⟨by omega, trivial⟩ (by omega) (by first | exact List.Sublist.refl _ | exact sub1 | exact sub2 | exact sub3) ⟨rfl, (by first | rfl | (rw [sumF_succ (fun x => x) hk]; try rfl) | exact si (by omega)), nx _, trivial⟩
  · repeat' (first
      | (refine j_go ?_; first
        | refine j_op0 rfl rfl rfl rfl ?_ | (refine j_kLen rfl ?_; first | refine j_len rfl rfl rfl rfl rfl rfl ?_))
      | refine j_nil ?_
      | (refine r_go ?_; first | refine run_seq ?_ | refine run_region ?_ | (refine (run_if rfl (fun hb => ?_) (fun hb => ?_)) <;> first | (exfalso; omega) | skip) | refine run_ret ?_ | refine run_exit ?_)
      | refine seqQ_normal ?_ | refine seqQ_exit ?_ | refine blockQ_eq ?_ | refine loopQ_exit ?_)
    exact end1 rfl (List.Sublist.refl _) (ai (by rw [List.take_of_length_le (by omega)]; rfl)) (.inl rfl)

theorem c_l06Bag (m : Int) (b : List Int) (h1 : 1 ≤ m ∧ m ≤ 8) : Gives Tryz.prog 102 [.int m, .sl (b.map Go.AI.encI)] (.raw (.bool (dec (BagK m b)))) := by
  refine fn_of_run tyOk ztOk mix Tryz.func102 rfl (by decide) Tryz.ntmps102 (fun w0 h => ?_)
  refine run_len (t := 1) rfl (fun hl => ?_)
  rw [List.length_map] at hl
  repeat' (first
      | (refine j_go ?_; first
        | refine j_op0 rfl rfl rfl rfl ?_)
      | refine j_nil ?_
      | (refine r_go ?_; first | refine run_seq ?_ | refine run_region ?_ | refine run_block ?_)
      | refine seqQ_normal ?_)
  refine run_loop (fun k : Nat => [(0, .int m), (1, .sl (b.map Go.AI.encI)), (5, .int (k : Int))]) (fun _ => _) (fun k => k ≤ b.length ∧ (∀ i (h : i < b.length), i < k → 0 ≤ b[i] ∧ b[i] ≤ 1000)) (fun k => b.length - k) 0 ⟨rfl, rfl, rfl, trivial⟩ rfl ⟨Nat.zero_le _, by first | (intros; omega) | (simp; done) | rfl | trivial | exact ⟨by simp [sumF], by intros; omega⟩ | exact ⟨by omega, by simp⟩⟩ (fun k ⟨kl, kp⟩ => ?_)
  repeat' (first
      | (refine j_go ?_; first
        | refine j_op0 rfl rfl rfl rfl ?_ | (refine j_kIdx rfl ?_; first | refine j_idx rfl rfl rfl rfl rfl (by omega) rfl rfl rfl ?_) | (refine j_kBin rfl ?_; first | refine j_in rfl rfl ⟨by omega, by omega⟩ rfl rfl ?_) | (refine j_kLen rfl ?_; first | refine j_len rfl rfl rfl rfl rfl rfl ?_) | (refine j_kCall rfl rfl rfl rfl ?_; first | refine jc (c_l00In _ _ _) (LeL.refl _) rfl rfl ?_))
      | refine j_nil ?_
      | (refine r_go ?_; first | refine run_seq ?_ | refine run_region ?_ | (refine (run_if rfl (fun hb => ?_) (fun hb => ?_)) <;> first | (exfalso; omega) | skip) | (refine (run_ifn rfl (fun hb => ?_) (fun hb => ?_)) <;> first | (exfalso; omega) | skip) | refine run_block ?_ | refine run_ret ?_ | refine run_exit ?_ | refine run_skip ?_)
      | refine seqQ_normal ?_ | refine seqQ_ret ?_ | refine seqQ_exit ?_ | refine blockQ_normal ?_ | refine blockQ_ret ?_ | refine blockQ_eq ?_ | refine loopQ_ret ?_ | refine loopQ_exit ?_)
  · exact end1 rfl (by first | exact List.Sublist.refl _ | exact sub1 | exact sub2 | exact sub3) (rbF (fun q => hb (q.1.1 _ (List.getElem_mem _)))) (.inl rfl)
  · exact loopQ_nextD (k + 1) ⟨by omega, all_step kp (fun _ => hb)⟩ (by omega) (by first | exact List.Sublist.refl _ | exact sub1 | exact sub2 | exact sub3) ⟨rfl, rfl, nx _, trivial⟩
  · exact end1 rfl (List.Sublist.refl _) (rbD ⟨fun q => ⟨⟨fun x hx => by obtain ⟨i, hi, rfl⟩ := List.getElem_of_mem hx; exact kp i hi (by omega), by omega, by omega⟩, q⟩, fun q => q.2⟩) (.inl rfl)

theorem c_l06Rule (p : Passing) (r : PassRule) (hf : p.Frame) : Gives Tryz.prog 83 [.ip (encPassing p), .ip (encPassRule r)] (.raw (.bool (dec (p.RuleOk r)))) := by
  refine fn_of_run tyOk ztOk mix Tryz.func83 rfl (by decide) Tryz.ntmps83 (fun w0 h => ?_)
  have hk8 := hf.1
  have hp4 := hf.2.1
  have hfr := hf.2.2.2.1
  repeat' (first
      | (refine j_go ?_; first
        | refine j_op0 rfl rfl rfl rfl ?_ | refine j_off rfl rfl rfl ?_ | (refine j_kBin rfl ?_; first | refine j_in rfl rfl ⟨by omega, by omega⟩ rfl rfl ?_) | (refine j_kLen rfl ?_; first | refine j_len rfl rfl rfl rfl rfl rfl ?_) | (refine j_kCall rfl rfl rfl rfl ?_; first | refine jc (c_l00In _ _ _) (LeL.refl _) rfl rfl ?_ | refine jc (c_l06Bag _ _ hk8) (LeL.refl _) rfl rfl ?_ | refine jc (c_l06Sum _ (BagK.bag (k := p.kinds) (by assumption))) (LeL.refl _) rfl rfl ?_) | (refine j_kGuard rfl ?_; first | (refine (j_ifn rfl rfl rfl (fun hb => ?_) (fun hb => ?_)) <;> first | (exfalso; omega) | skip)))
      | refine j_nil ?_
      | (refine r_go ?_; first | refine run_seq ?_ | refine run_region ?_ | refine run_cond_t rfl ?_ | refine run_ret ?_ | refine run_regionD (by kernel_rfl) ?_)
      | refine seqQ_normal ?_ | refine seqQ_ret ?_)
  · exact end1 rfl (by first | exact List.Sublist.refl _ | exact sub1 | exact sub2 | exact sub3) (rbF (fun q => hb q.1)) (.inl rfl)
  · exact end1 rfl (by first | exact List.Sublist.refl _ | exact sub1 | exact sub2 | exact sub3) (rbF (fun q => hb q.2.1)) (.inl rfl)
  · exact end1 rfl (by first | exact List.Sublist.refl _ | exact sub1 | exact sub2 | exact sub3) (rbF (fun q => hb q.2.2.1)) (.inl rfl)
  have ho : BagK p.kinds r.out := by assumption
  have hi : BagK p.kinds r.in_ := by assumption
  have to := ho.bnd
  have ti := hi.bnd
  repeat' (first
      | (refine j_go ?_; first
        | refine j_op0 rfl rfl rfl rfl ?_ | refine j_off rfl rfl rfl ?_ | (refine j_kBin rfl ?_; first | refine j_in rfl rfl ⟨by omega, by omega⟩ rfl rfl ?_) | (refine j_kCall rfl rfl rfl rfl ?_; first | refine jc (c_l06Sum _ (BagK.bag (k := p.kinds) (by assumption))) (LeL.refl _) rfl rfl ?_) | (refine j_kGuard rfl ?_; first | (refine (j_if rfl rfl rfl (fun hb => ?_) (fun hb => ?_)) <;> first | (exfalso; omega) | skip)))
      | refine j_nil ?_
      | (refine r_go ?_; first | refine run_seq ?_ | refine run_region ?_ | refine run_cond_t rfl ?_ | (refine (run_if rfl (fun hb => ?_) (fun hb => ?_)) <;> first | (exfalso; omega) | skip) | refine run_block ?_ | refine run_ret ?_ | refine run_skip ?_)
      | refine seqQ_normal ?_ | refine seqQ_ret ?_)
  · exact end1 rfl (by first | exact List.Sublist.refl _ | exact sub1 | exact sub2 | exact sub3) (rbF (fun q => q.2.2.2.1 (by omega))) (.inl rfl)
  · exact end1 rfl (by first | exact List.Sublist.refl _ | exact sub1 | exact sub2 | exact sub3) (rbT (⟨by assumption, ho, hi, by omega, .inl (by omega)⟩)) (.inl rfl)
  · exact end1 rfl (by first | exact List.Sublist.refl _ | exact sub1 | exact sub2 | exact sub3) (rbT (⟨by assumption, ho, hi, by omega, .inr (.inl (by omega))⟩)) (.inl rfl)
  have hin : BagK p.kinds r.in_ := by assumption
  have hil := hin.2
  refine run_loop (fun k : Nat => [(0, .ip (encPassing p)), (1, .ip (encPassRule r)), (5, .int (k : Int))]) (fun _ => _) (fun k => k ≤ r.in_.length ∧ (∀ i (h : i < r.in_.length), i < k → ¬ (0 < r.in_[i] ∧ ¬ p.free[i]? = some true))) (fun k => r.in_.length - k) 0 ⟨rfl, rfl, rfl, trivial⟩ rfl ⟨Nat.zero_le _, by first | (intros; omega) | (simp; done) | rfl | trivial | exact ⟨by simp [sumF], by intros; omega⟩ | exact ⟨by omega, by simp⟩⟩ (fun k ⟨kl, kp⟩ => ?_)
  by_cases hk : k < r.in_.length
  · have hkf : k < p.free.length := by omega
    repeat' (first
      | (refine j_go ?_; first
        | refine j_op0 rfl rfl rfl rfl ?_ | refine j_off rfl rfl rfl ?_ | (refine j_kIdx rfl ?_; first | refine j_idx rfl rfl rfl rfl rfl (by omega) rfl rfl rfl ?_) | (refine j_kBin rfl ?_; first | refine j_in rfl rfl ⟨by omega, by omega⟩ rfl rfl ?_) | (refine j_kLen rfl ?_; first | refine j_len rfl rfl rfl rfl rfl rfl ?_) | (refine j_kGuard rfl ?_; first | (refine (j_if rfl rfl rfl (fun hb => ?_) (fun hb => ?_)) <;> first | (exfalso; omega) | skip)))
      | refine j_nil ?_
      | (refine r_go ?_; first | refine run_seq ?_ | refine run_region ?_ | refine run_cond_f rfl ?_ | (refine (run_if rfl (fun hb => ?_) (fun hb => ?_)) <;> first | (exfalso; omega) | skip) | refine run_block ?_ | refine run_ret ?_ | refine run_skip ?_ | refine run_condn rfl (fun hb => ?_) (fun hb => ?_))
      | refine seqQ_normal ?_ | refine seqQ_ret ?_ | refine blockQ_normal ?_ | refine blockQ_ret ?_ | refine loopQ_ret ?_)
    all_goals first
      | exact end1 rfl (by first | exact List.Sublist.refl _ | exact sub1 | exact sub2 | exact sub3) (rbT (⟨by assumption, by assumption, by assumption, by omega, .inr (.inr ⟨k, hk, by assumption, by first | exact al_f (by assumption) | exact al_f' (by assumption) | (rw [List.getElem?_eq_getElem hkf]; simp_all)⟩)⟩)) (.inl rfl)
      | exact loopQ_nextD (k + 1) ⟨by omega, all_step kp (fun _ q => by first | exact absurd q.1 (by assumption) | exact q.2 (al_t (by assumption)) | exact q.2 (al_t' (by assumption)) | (have := q.2; rw [List.getElem?_eq_getElem hkf] at this; simp_all))⟩ (by omega) (by first | exact List.Sublist.refl _ | exact sub1 | exact sub2 | exact sub3) ⟨rfl, rfl, nx _, trivial⟩
      | trace_state
  · repeat' (first
      | (refine j_go ?_; first
        | refine j_op0 rfl rfl rfl rfl ?_ | (refine j_kLen rfl ?_; first | refine j_len rfl rfl rfl rfl rfl rfl ?_))
      | refine j_nil ?_
      | (refine r_go ?_; first | refine run_seq ?_ | refine run_region ?_ | (refine (run_if rfl (fun hb => ?_) (fun hb => ?_)) <;> first | (exfalso; omega) | skip) | refine run_ret ?_ | refine run_exit ?_)
      | refine seqQ_normal ?_ | refine seqQ_exit ?_ | refine blockQ_eq ?_ | refine loopQ_exit ?_)
    exact end1 rfl (by first | exact List.Sublist.refl _ | exact sub1 | exact sub2 | exact sub3) (rbF (fun q => by
        obtain ⟨q1, q2, q3, q4, q5⟩ := q
        rcases q5 with q5 | q5 | ⟨i, hi, q6⟩
        · omega
        · omega
        · exact kp i hi (by omega) q6)) (.inl rfl)

theorem c_l06Ok (p : Passing) : Gives Tryz.prog 57 [.ip (encPassing p)] (.raw (.bool (dec p.Ok))) := by
  refine fn_of_run tyOk ztOk mix Tryz.func57 rfl (by decide) Tryz.ntmps57 (fun w0 h => ?_)
  repeat' (first
      | (refine j_go ?_; first
        | refine j_op0 rfl rfl rfl rfl ?_ | refine j_off rfl rfl rfl ?_ | (refine j_kIdx rfl ?_; first | refine j_idxz rfl rfl rfl rfl rfl ⟨by omega, by omega⟩ rfl rfl rfl ?_) | (refine j_kLen rfl ?_; first | refine j_len rfl rfl rfl rfl rfl rfl ?_) | (refine j_kCall rfl rfl rfl rfl ?_; first | refine jc (c_l00In _ _ _) (LeL.refl _) rfl rfl ?_) | (refine j_kGuard rfl ?_; first | (refine (j_if rfl rfl rfl (fun hb => ?_) (fun hb => ?_)) <;> first | (exfalso; omega) | skip) | (refine (j_ifn rfl rfl rfl (fun hb => ?_) (fun hb => ?_)) <;> first | (exfalso; omega) | skip)))
      | refine j_nil ?_
      | (refine r_go ?_; first | refine run_seq ?_ | refine run_region ?_ | refine run_cond_t rfl ?_ | (refine (run_ifn rfl (fun hb => ?_) (fun hb => ?_)) <;> first | (exfalso; omega) | skip) | refine run_block ?_ | refine run_ret ?_ | refine run_skip ?_ | refine run_regionD (by kernel_rfl) ?_)
      | refine seqQ_normal ?_ | refine seqQ_ret ?_)
  all_goals first
    | exact end1 rfl (by first | exact List.Sublist.refl _ | exact sub1 | exact sub2 | exact sub3) (rbF (fun q => by
        obtain ⟨⟨q1, q2, q3, q4, q5, q6⟩, q7⟩ := q
        first
          | exact absurd q1 (by assumption)
          | (exfalso; omega)
          | (have z : p.parents[0]'(by omega) = -1 := by
               rw [List.getElem?_eq_getElem (by omega)] at q3; simpa using q3
             exact absurd z (by assumption)))) (.inl rfl)
    | skip
  have h0 : (p.parents[0]'(by omega)) = -1 := by assumption
  have h1 : 1 ≤ p.kinds ∧ p.kinds ≤ 8 := by assumption
  refine run_loop (fun k : Nat => [(0, .ip (encPassing p)), (3, .int p.parents.length), (4, .int (k : Int))]) (fun _ => _) (fun k => 1 ≤ k ∧ k ≤ p.parents.length ∧ (∀ c (h : c < p.parents.length), c < k → 1 ≤ c → 0 ≤ p.parents[c] ∧ p.parents[c] ≤ (c : Int) - 1)) (fun k => p.parents.length - k) 1 ⟨rfl, rfl, rfl, trivial⟩ rfl ⟨Nat.le_refl _, by omega, by first | (intros; omega) | (simp; done) | rfl | trivial | exact ⟨by simp [sumF], by intros; omega⟩ | exact ⟨by omega, by simp⟩⟩ (fun k ⟨ks, kl, kp⟩ => ?_)
  repeat' (first
      | (refine j_go ?_; first
        | refine j_op0 rfl rfl rfl rfl ?_ | (refine j_kIdx rfl ?_; first | refine j_idx rfl rfl rfl rfl rfl (by omega) rfl rfl rfl ?_) | (refine j_kBin rfl ?_; first | refine j_in rfl rfl ⟨by omega, by omega⟩ rfl rfl ?_) | (refine j_kCall rfl rfl rfl rfl ?_; first | refine jc (c_l00In _ _ _) (LeL.refl _) rfl rfl ?_))
      | refine j_nil ?_
      | (refine r_go ?_; first | refine run_seq ?_ | refine run_region ?_ | (refine (run_if rfl (fun hb => ?_) (fun hb => ?_)) <;> first | (exfalso; omega) | skip) | (refine (run_ifn rfl (fun hb => ?_) (fun hb => ?_)) <;> first | (exfalso; omega) | skip) | refine run_block ?_ | refine run_ret ?_ | refine run_exit ?_ | refine run_skip ?_)
      | refine seqQ_normal ?_ | refine seqQ_ret ?_ | refine seqQ_exit ?_ | refine blockQ_normal ?_ | refine blockQ_ret ?_ | refine blockQ_eq ?_ | refine loopQ_ret ?_ | refine loopQ_exit ?_)
  · exact end1 rfl (by first | exact List.Sublist.refl _ | exact sub1 | exact sub2 | exact sub3) (rbF (fun q => hb (q.1.2.2.2.2.2 k (by omega) (by omega)))) (.inl rfl)
  · exact loopQ_nextD (k + 1) ⟨by omega, by omega, all_step kp (fun _ _ => hb)⟩ (by omega) (by first | exact List.Sublist.refl _ | exact sub1 | exact sub2 | exact sub3) ⟨rfl, rfl, nx _, trivial⟩
  · have hf : p.Frame := ⟨h1, by omega, by rw [List.getElem?_eq_getElem (by omega), h0], by omega, by omega, fun c h1 h2 => kp c h1 (by omega) h2⟩
    refine run_loop (fun j : Nat => [(0, .ip (encPassing p)), (5, .int (j : Int))]) (fun _ => _) (fun j => j ≤ p.rules.length ∧ (∀ i (h : i < p.rules.length), i < j → p.RuleOk p.rules[i])) (fun j => p.rules.length - j) 0 ⟨rfl, rfl, trivial⟩ rfl ⟨Nat.zero_le _, by first | (intros; omega) | (simp; done) | rfl | trivial | exact ⟨by simp [sumF], by intros; omega⟩ | exact ⟨by omega, by simp⟩⟩ (fun j ⟨jl, jp⟩ => ?_)
    repeat' (first
      | (refine j_go ?_; first
        | refine j_op0 rfl rfl rfl rfl ?_ | (refine j_kIdx rfl ?_; first | refine j_idx rfl rfl rfl rfl rfl (by omega) rfl rfl rfl ?_) | (refine j_kBin rfl ?_; first | refine j_in rfl rfl ⟨by omega, by omega⟩ rfl rfl ?_) | (refine j_kLen rfl ?_; first | refine j_len rfl rfl rfl rfl rfl rfl ?_) | (refine j_kCall rfl rfl rfl rfl ?_; first | refine jc (c_l06Rule _ _ hf) (LeL.refl _) rfl rfl ?_))
      | refine j_nil ?_
      | (refine r_go ?_; first | refine run_seq ?_ | refine run_region ?_ | (refine (run_if rfl (fun hb => ?_) (fun hb => ?_)) <;> first | (exfalso; omega) | skip) | (refine (run_ifn rfl (fun hb => ?_) (fun hb => ?_)) <;> first | (exfalso; omega) | skip) | refine run_block ?_ | refine run_ret ?_ | refine run_exit ?_ | refine run_skip ?_)
      | refine seqQ_normal ?_ | refine seqQ_ret ?_ | refine seqQ_exit ?_ | refine blockQ_normal ?_ | refine blockQ_ret ?_ | refine blockQ_eq ?_ | refine loopQ_ret ?_ | refine loopQ_exit ?_)
    · exact end1 rfl (by first | exact List.Sublist.refl _ | exact sub1 | exact sub2 | exact sub3) (rbF (fun q => hb (q.2 _ (List.getElem_mem _)))) (.inl rfl)
    · exact loopQ_nextD (j + 1) ⟨by omega, all_step jp (fun _ => hb)⟩ (by omega) (by first | exact List.Sublist.refl _ | exact sub1 | exact sub2 | exact sub3) ⟨rfl, nx _, trivial⟩
    · exact end1 rfl (by first | exact List.Sublist.refl _ | exact sub1 | exact sub2 | exact sub3) (rbT (⟨hf, fun r hr => by obtain ⟨i, hi, rfl⟩ := List.getElem_of_mem hr; exact jp i hi (by omega)⟩)) (.inl rfl)

theorem c_sizeB (l : List Bool) : Gives Tryz.prog 44 [.sl (l.map encB)] (.int l.length) := by
  refine fn_of_run tyOk ztOk mix Tryz.func44 rfl (by decide) Tryz.ntmps44 (fun w0 h => ?_)
  repeat' (first
      | (refine j_go ?_; first
        | refine j_op0 rfl rfl rfl rfl ?_ | (refine j_kLen rfl ?_; first | refine j_len rfl rfl rfl rfl rfl rfl ?_))
      | refine j_nil ?_
      | (refine r_go ?_; first | refine run_seq ?_ | refine run_region ?_ | refine run_ret ?_)
      | refine seqQ_normal ?_)
  exact end1 rfl (List.Sublist.refl _) (rfl) (.inl rfl)
theorem c_hasBound (p : Passing) (b : List Int) (hl : b.length ≤ p.free.length) : Gives Tryz.prog 49 [.agg (encPassing p), .sl (b.map Go.AI.encI)] (.raw (.bool (dec (p.Bound b)))) := by
  refine fn_of_run tyOk ztOk mix Tryz.func49 rfl (by decide) Tryz.ntmps49 (fun w0 h => ?_)
  refine run_len (t := 1) rfl (fun hl2 => ?_)
  rw [List.length_map] at hl2
  repeat' (first
      | (refine j_go ?_; first
        | refine j_op0 rfl rfl rfl rfl ?_ | (refine j_kLen rfl ?_; first | refine j_len rfl rfl rfl rfl rfl rfl ?_) | refine j_box rfl rfl rfl rfl rfl rfl ?_)
      | refine j_nil ?_
      | (refine r_go ?_; first | refine run_seq ?_ | refine run_region ?_ | refine run_block ?_)
      | refine seqQ_normal ?_)
  refine run_loop (fun k : Nat => [(2, .ip (encPassing p)), (7, .sl (b.map Go.AI.encI)), (8, .int b.length), (9, .int (k : Int))]) (fun _ => _) (fun k => k ≤ b.length ∧ (∀ i (h : i < b.length), i < k → ¬ (0 < b[i] ∧ ¬ p.free[i]? = some true))) (fun k => b.length - k) 0 ⟨rfl, rfl, rfl, rfl, trivial⟩ rfl ⟨Nat.zero_le _, by first | (intros; omega) | (simp; done) | rfl | trivial | exact ⟨by simp [sumF], by intros; omega⟩ | exact ⟨by omega, by simp⟩⟩ (fun k ⟨kl, kp⟩ => ?_)
  by_cases hk : k < b.length
  · have hkf : k < p.free.length := by omega
    repeat' (first
      | (refine j_go ?_; first
        | refine j_op0 rfl rfl rfl rfl ?_ | refine j_off rfl rfl rfl ?_ | (refine j_kIdx rfl ?_; first | refine j_idx rfl rfl rfl rfl rfl (by omega) rfl rfl rfl ?_) | (refine j_kBin rfl ?_; first | refine j_in rfl rfl ⟨by omega, by omega⟩ rfl rfl ?_) | (refine j_kGuard rfl ?_; first | (refine (j_if rfl rfl rfl (fun hb => ?_) (fun hb => ?_)) <;> first | (exfalso; omega) | skip)))
      | refine j_nil ?_
      | (refine r_go ?_; first | refine run_seq ?_ | refine run_region ?_ | refine run_cond_f rfl ?_ | (refine (run_if rfl (fun hb => ?_) (fun hb => ?_)) <;> first | (exfalso; omega) | skip) | refine run_block ?_ | refine run_ret ?_ | refine run_skip ?_ | refine run_condn rfl (fun hb => ?_) (fun hb => ?_))
      | refine seqQ_normal ?_ | refine seqQ_ret ?_ | refine blockQ_normal ?_ | refine blockQ_ret ?_ | refine loopQ_ret ?_)
    all_goals first
      | exact end1 rfl (by first | exact List.Sublist.refl _ | exact sub1 | exact sub2 | exact sub3) (rbT (⟨k, hk, by assumption, by first | exact al_f (by assumption) | exact al_f' (by assumption) | (rw [List.getElem?_eq_getElem hkf]; simp_all)⟩)) (.inl rfl)
      | exact loopQ_nextD (k + 1) ⟨by omega, all_step kp (fun _ q => by first | exact absurd q.1 (by assumption) | exact q.2 (al_t (by assumption)) | exact q.2 (al_t' (by assumption)) | (have := q.2; rw [List.getElem?_eq_getElem hkf] at this; simp_all))⟩ (by omega) (by first | exact List.Sublist.refl _ | exact sub1 | exact sub2 | exact sub3) ⟨rfl, rfl, rfl, nx _, trivial⟩
      | trace_state
  · repeat' (first
      | (refine j_go ?_; first
        | refine j_op0 rfl rfl rfl rfl ?_)
      | refine j_nil ?_
      | (refine r_go ?_; first | refine run_seq ?_ | refine run_region ?_ | (refine (run_if rfl (fun hb => ?_) (fun hb => ?_)) <;> first | (exfalso; omega) | skip) | refine run_ret ?_ | refine run_exit ?_)
      | refine seqQ_normal ?_ | refine seqQ_exit ?_ | refine blockQ_eq ?_ | refine loopQ_exit ?_)
    exact end1 rfl (by first | exact List.Sublist.refl _ | exact sub1 | exact sub2 | exact sub3) (rbF (fun ⟨i, hi, q⟩ => kp i hi (by omega) q)) (.inl rfl)
theorem c_iValidPassing1 (p : Passing) (r : PassRule) (hf : p.Frame) : Gives Tryz.prog 46 [.agg (encPassRule r), .ip (encPassing p)] (.raw (.bool (dec (¬ p.RuleOk r)))) := by
  refine fn_of_run tyOk ztOk mix Tryz.func46 rfl (by decide) Tryz.ntmps46 (fun w0 h => ?_)
  have hk8 := hf.1
  have hp4 := hf.2.1
  have hfr := hf.2.2.2.1
  repeat' (first
      | (refine j_go ?_; first
        | refine j_op0 rfl rfl rfl rfl ?_ | refine j_off rfl rfl rfl ?_ | (refine j_kBin rfl ?_; first | refine j_in rfl rfl ⟨by omega, by omega⟩ rfl rfl ?_) | (refine j_kCall rfl rfl rfl rfl ?_; first | refine jc (c_inRange _ _ _) (LeL.refl _) rfl rfl ?_ | refine jc (c_sizeI _) (LeL.refl _) rfl rfl ?_ | refine jc (c_ValidBag _ _) (LeL.refl _) rfl rfl ?_ | refine jc (c_bagSize _ (BagK.bag (k := p.kinds) (by assumption))) (LeL.refl _) rfl rfl ?_) | (refine j_kGuard rfl ?_; first | (refine (j_ifn rfl rfl rfl (fun hb => ?_) (fun hb => ?_)) <;> first | (exfalso; omega) | skip)) | refine j_box rfl rfl rfl rfl rfl rfl ?_)
      | refine j_nil ?_
      | (refine r_go ?_; first | refine run_seq ?_ | refine run_region ?_ | refine run_ret ?_ | refine run_regionD (by kernel_rfl) ?_)
      | refine seqQ_normal ?_)
  · exact end1 rfl (by first | exact List.Sublist.refl _ | exact sub1 | exact sub2 | exact sub3) (rbT (fun q => hb q.1)) (.inl rfl)
  · exact end1 rfl (by first | exact List.Sublist.refl _ | exact sub1 | exact sub2 | exact sub3) (rbT (fun q => hb q.2.1)) (.inl rfl)
  · exact end1 rfl (by first | exact List.Sublist.refl _ | exact sub1 | exact sub2 | exact sub3) (rbT (fun q => hb q.2.2.1)) (.inl rfl)
  have ho : BagK p.kinds r.out := by assumption
  have hi : BagK p.kinds r.in_ := by assumption
  have to := ho.bnd
  have ti := hi.bnd
  repeat' (first
      | (refine j_go ?_; first
        | refine j_op0 rfl rfl rfl rfl ?_ | refine j_off rfl rfl rfl ?_ | (refine j_kBin rfl ?_; first | refine j_in rfl rfl ⟨by omega, by omega⟩ rfl rfl ?_) | (refine j_kCall rfl rfl rfl rfl ?_; first | refine jc (c_bagSize _ (BagK.bag (k := p.kinds) (by assumption))) (LeL.refl _) rfl rfl ?_ | refine jc (c_hasBound _ _ (bag_le hfr hi)) (LeL.refl _) rfl rfl ?_) | (refine j_kGuard rfl ?_; first | (refine (j_if rfl rfl rfl (fun hb => ?_) (fun hb => ?_)) <;> first | (exfalso; omega) | skip)))
      | refine j_nil ?_
      | (refine r_go ?_; first | refine run_ret ?_)
      | refine seqQ_normal ?_)
  all_goals first
    | exact end1 rfl (by first | exact List.Sublist.refl _ | exact sub1 | exact sub2 | exact sub3) (rbT (fun q => q.2.2.2.1 (by omega))) (.inl rfl)
    | exact end1 rfl (List.Sublist.refl _) (rbN ⟨fun q r => by rcases r.2.2.2.2 with q5 | q5 | q5 <;> first | omega | exact q q5, fun q z => q ⟨by assumption, ho, hi, by omega, .inr (.inr z)⟩⟩) (.inl rfl)
    | exact end1 rfl (by first | exact List.Sublist.refl _ | exact sub1 | exact sub2 | exact sub3) (rbT (fun q => by rcases q.2.2.2.2 with q5 | q5 | q5 <;> first | omega | exact absurd q5 (by assumption))) (.inl rfl)
    | exact end1 rfl (by first | exact List.Sublist.refl _ | exact sub1 | exact sub2 | exact sub3) (rbF (fun q => q ⟨by assumption, ho, hi, by omega, by first | exact .inl (by omega) | exact .inr (.inl (by omega)) | exact .inr (.inr (by assumption))⟩)) (.inl rfl)
    | trace_state

theorem c_iValidPassing (p : Passing) : Gives Tryz.prog 14 [.agg (encPassing p)] (.raw (.bool (dec p.Ok))) := by
  refine fn_of_run tyOk ztOk mix Tryz.func14 rfl (by decide) Tryz.ntmps14 (fun w0 h => ?_)
  repeat' (first
      | (refine j_go ?_; first
        | refine j_op0 rfl rfl rfl rfl ?_ | refine j_off rfl rfl rfl ?_ | (refine j_kIdx rfl ?_; first | refine j_idxz rfl rfl rfl rfl rfl ⟨by omega, by omega⟩ rfl rfl rfl ?_) | (refine j_kLen rfl ?_; first | refine j_len rfl rfl rfl rfl rfl rfl ?_) | (refine j_kCall rfl rfl rfl rfl ?_; first | refine jc (c_inRange _ _ _) (LeL.refl _) rfl rfl ?_ | refine jc (c_sizeI _) (LeL.refl _) rfl rfl ?_ | refine jc (c_sizeB _) (LeL.refl _) rfl rfl ?_) | (refine j_kSlice rfl ?_; first | refine j_tail 1 rfl rfl rfl rfl rfl (by omega) (fun _ => rfl) rfl rfl ?_) | (refine j_kGuard rfl ?_; first | (refine (j_ifn rfl rfl rfl (fun hb => ?_) (fun hb => ?_)) <;> first | (exfalso; omega) | skip)) | refine j_box rfl rfl rfl rfl rfl rfl ?_)
      | refine j_nil ?_
      | (refine r_go ?_; first | refine run_seq ?_ | refine run_region ?_ | refine run_cond_t rfl ?_ | (refine (run_if rfl (fun hb => ?_) (fun hb => ?_)) <;> first | (exfalso; omega) | skip) | refine run_block ?_ | refine run_ret ?_ | refine run_skip ?_ | refine run_regionD (by kernel_rfl) ?_)
      | refine seqQ_normal ?_ | refine seqQ_ret ?_)
  all_goals first
    | exact end1 rfl (by first | exact List.Sublist.refl _ | exact sub1 | exact sub2 | exact sub3) (rbF (fun q => by
        obtain ⟨⟨q1, q2, q3, q4, q5, q6⟩, q7⟩ := q
        first
          | exact absurd q1 (by assumption)
          | (exfalso; omega)
          | (have z : p.parents[0]'(by omega) = -1 := by
               rw [List.getElem?_eq_getElem (by omega)] at q3; simpa using q3
             exact absurd z (by assumption)))) (.inl rfl)
    | skip
  have h0 : (p.parents[0]'(by omega)) = -1 := by assumption
  have h1 : 1 ≤ p.kinds ∧ p.kinds ≤ 8 := by assumption
  have hl : (p.parents.drop 1).length = p.parents.length - 1 := by simp
  refine run_loop (fun k : Nat => [(1, .ip (encPassing p)), (39, .sl ((p.parents.drop 1).map Go.AI.encI)), (40, .int (p.parents.drop 1).length), (41, .int (k : Int))]) (fun _ => _) (fun k => k ≤ (p.parents.drop 1).length ∧ (∀ c (h : c < p.parents.length), c < k + 1 → 1 ≤ c → 0 ≤ p.parents[c] ∧ p.parents[c] ≤ (c : Int) - 1)) (fun k => (p.parents.drop 1).length - k) 0 ⟨rfl, rfl, rfl, rfl, trivial⟩ rfl ⟨Nat.zero_le _, by first | (intros; omega) | (simp; done) | rfl | trivial | exact ⟨by simp [sumF], by intros; omega⟩ | exact ⟨by omega, by simp⟩⟩ (fun k ⟨kl, kp⟩ => ?_)
  repeat' (first
      | (refine j_go ?_; first
        | refine j_op0 rfl rfl rfl rfl ?_ | (refine j_kIdx rfl ?_; first | refine j_idx rfl rfl rfl rfl rfl (by omega) rfl rfl rfl ?_) | (refine j_kBin rfl ?_; first | refine j_in rfl rfl ⟨by omega, by omega⟩ rfl rfl ?_) | (refine j_kCall rfl rfl rfl rfl ?_; first | refine jc (c_inRange _ _ _) (LeL.refl _) rfl rfl ?_))
      | refine j_nil ?_
      | (refine r_go ?_; first | refine run_seq ?_ | refine run_region ?_ | (refine (run_if rfl (fun hb => ?_) (fun hb => ?_)) <;> first | (exfalso; omega) | skip) | (refine (run_ifn rfl (fun hb => ?_) (fun hb => ?_)) <;> first | (exfalso; omega) | skip) | refine run_block ?_ | refine run_ret ?_ | refine run_exit ?_ | refine run_skip ?_)
      | refine seqQ_normal ?_ | refine seqQ_ret ?_ | refine seqQ_exit ?_ | refine blockQ_normal ?_ | refine blockQ_ret ?_ | refine blockQ_eq ?_ | refine loopQ_ret ?_ | refine loopQ_exit ?_)
  · simp only [List.getElem_drop, Nat.add_comm 1 k] at hb
    exact end1 rfl (by first | exact List.Sublist.refl _ | exact sub1 | exact sub2 | exact sub3) (rbF (fun q => hb (by have := q.1.2.2.2.2.2 (k + 1) (by omega) (by omega); omega))) (.inl rfl)
  · simp only [List.getElem_drop, Nat.add_comm 1 k] at hb
    exact loopQ_nextD (k + 1) ⟨by omega, all_step kp (fun _ _ => by omega)⟩ (by omega) (by first | exact List.Sublist.refl _ | exact sub1 | exact sub2 | exact sub3) ⟨rfl, rfl, rfl, nx _, trivial⟩
  · have hf : p.Frame := ⟨h1, by omega, by rw [List.getElem?_eq_getElem (by omega), h0], by omega, by omega, fun c h1 h2 => kp c h1 (by omega) h2⟩
    repeat' (first
      | (refine j_go ?_; first
        | refine j_op0 rfl rfl rfl rfl ?_ | (refine j_kCall rfl rfl rfl rfl ?_; first | refine jc (c_cfP _ _ (fun r => ¬ p.RuleOk r) _ (fun r _ => c_iValidPassing1 p r hf)) (LeL.refl _) rfl rfl ?_))
      | refine j_nil ?_
      | (refine r_go ?_; first | refine run_ret ?_)
      | refine seqQ_normal ?_)
    exact end1 rfl (List.Sublist.refl _) (rbN ⟨fun q => ⟨hf, fun r hr => by
        by_cases z : p.RuleOk r
        · exact z
        · exact absurd ⟨r, hr, z⟩ q⟩, fun q ⟨r, hr, z⟩ => z (q.2 r hr)⟩) (.inl rfl)

end Go.Proofs.YtmcljepicadjfaaGreatDoor

/-
  The data of the laws' theme 7, as structures, and the helpers of the laws over them: sizes, copies, comparisons. No condition but that the sizes are at most 1048576.
-/
namespace Go.Proofs.YtmcljepicadjfaaGreatDoor
open Go.AI
set_option maxRecDepth 8000

structure Cnf where
  vars : Int
  clauses : List (List Int)
  deriving DecidableEq, Inhabited
/-- What its size tells of it. -/
structure OkCnf (x : Cnf) : Prop where
  clauses : x.clauses.length ≤ 1048576 ∧ ∀ r ∈ x.clauses, r.length ≤ 1048576
structure Group where
  charge : Int
  contents : List Int
  count : Int
  deriving DecidableEq, Inhabited
/-- What its size tells of it. -/
structure OkGroup (x : Group) : Prop where
  contents : x.contents.length ≤ 1048576
structure Colony where
  skin : List Int
  groups : List Group
  deriving DecidableEq, Inhabited
/-- What its size tells of it. -/
structure OkColony (x : Colony) : Prop where
  skin : x.skin.length ≤ 1048576
  groups : x.groups.length ≤ 1048576 ∧ ∀ r ∈ x.groups, OkGroup r
structure DivRule where
  kind : Int
  charge : Int
  object : Int
  to : Int
  first : List Int
  toB : Int
  second : List Int
  deriving DecidableEq, Inhabited
/-- What its size tells of it. -/
structure OkDivRule (x : DivRule) : Prop where
  first : x.first.length ≤ 1048576
  second : x.second.length ≤ 1048576
structure Division where
  objects : Int
  rules : List DivRule
  deriving DecidableEq, Inhabited
/-- What its size tells of it. -/
structure OkDivision (x : Division) : Prop where
  rules : x.rules.length ≤ 1048576 ∧ ∀ r ∈ x.rules, OkDivRule r
end Go.Proofs.YtmcljepicadjfaaGreatDoor

/-
  Formulas: what the reference's and the program's ValidCnf compute. No condition.
-/
namespace Go.Proofs.YtmcljepicadjfaaGreatDoor
open Go.AI
set_option maxRecDepth 8000
set_option maxHeartbeats 1600000

def Cnf.Valid (f : Cnf) : Prop := (1 ≤ f.vars ∧ f.vars ≤ 4) ∧ f.clauses.length ≤ 6 ∧ ∀ c ∈ f.clauses, Rises (0 - f.vars) f.vars c ∧ 0 ∉ c




end Go.Proofs.YtmcljepicadjfaaGreatDoor

/-
  Texts of formulas: plain facts. No condition.
-/
namespace Go.Proofs.YtmcljepicadjfaaGreatDoor
open Go.AI Go.RowKit
set_option maxRecDepth 8000
set_option maxHeartbeats 1600000
open Classical in
/-- A text where a condition holds, else the empty one. -/
noncomputable def txP (p : Prop) (l : List UInt8) : List UInt8 := if p then l else []
def vT (v : Int) : List UInt8 := [32] ++ dcm v
def clT (c : List Int) : List UInt8 := [99, 108, 97, 117, 115, 101] ++ catK vT c c.length ++ (if c = [] then [32, 46] else []) ++ [10]
def cnfT (f : Cnf) : List UInt8 := [99, 110, 102, 32] ++ dcm f.vars ++ [10] ++ catK clT f.clauses f.clauses.length
end Go.Proofs.YtmcljepicadjfaaGreatDoor

/-
  Texts of formulas, read back: plain facts. No condition.
-/
namespace Go.Proofs.YtmcljepicadjfaaGreatDoor
open Go.AI Go.RowKit
set_option maxRecDepth 8000
set_option maxHeartbeats 1600000
def lnW (t : List UInt8) : List (List UInt8) := (spl 10 t).dropLast
def lnE (t : List UInt8) : List UInt8 := (spl 10 t).getLast (spl_ne 10 t)
theorem ln_eq (t : List UInt8) : spl 10 t = lnW t ++ [lnE t] := (List.dropLast_concat_getLast (spl_ne 10 t)).symm
theorem lnW_len (t : List UInt8) : (lnW t).length ≤ t.length := by
  have := spl_len 10 t
  rw [ln_eq] at this
  simp at this; omega
theorem lnW_mem (t : List UInt8) : ∀ w ∈ lnW t, w.length ≤ t.length ∧ (10 : UInt8) ∉ w := fun w hw => spl_mem 10 t w (by rw [ln_eq]; simp [hw])
theorem ln_lines {ws : List (List UInt8)} (h : ∀ x ∈ ws, (10 : UInt8) ∉ x) {t : List UInt8} (ht : t = (ws.map fun w => w ++ [10]).flatten) : lnW t = ws ∧ lnE t = [] := by
  have q := ln_eq t
  rw [ht, spl_lines 10 ws h, ← ht] at q
  have q1 := congrArg List.dropLast q
  have q2 := congrArg List.getLast? q
  simp only [List.dropLast_concat, List.getLast?_concat, Option.some.injEq] at q1 q2
  exact ⟨q1.symm, q2.symm⟩
/-- A text behind another one, where that stands ahead. -/
def trimP (p s : List UInt8) : List UInt8 := if p.isPrefixOf s then s.drop p.length else s
theorem trimP_app (p s : List UInt8) : trimP p (p ++ s) = s := by
  unfold trimP
  rw [if_pos (by simp)]; simp
/-- A text cut at the first place where another one stands. -/
def cutF (p : List UInt8) : List UInt8 → Option (List UInt8 × List UInt8)
  | [] => if p.isPrefixOf [] then some ([], []) else none
  | x :: s => if p.isPrefixOf (x :: s) then some ([], (x :: s).drop p.length) else (cutF p s).map fun q => (x :: q.1, q.2)
/-- .. with a sign that it stands. -/
def cutR (p s : List UInt8) : List UInt8 × List UInt8 × Bool := match cutF p s with
  | some q => (q.1, q.2, true)
  | none => ([], [], false)
theorem cutF_at {p : List UInt8} : ∀ {s : List UInt8} {k : Nat}, k ≤ s.length → p.isPrefixOf (s.drop k) = true → (∀ i, i < k → ¬ p.isPrefixOf (s.drop i) = true) → cutF p s = some (s.take k, s.drop (k + p.length))
  | [], k, hk, h, _ => by
    have : k = 0 := by simpa using hk
    subst this
    rw [List.drop_zero] at h
    have hp : p = [] := by
      cases p with
      | nil => rfl
      | cons x p => simp at h
    subst hp
    rw [cutF, if_pos h]; simp
  | x :: s, 0, _, h, _ => by
    rw [List.drop_zero] at h
    rw [cutF, if_pos h]; simp
  | x :: s, k + 1, hk, h, hn => by
    have h0 := hn 0 (by omega)
    rw [List.drop_zero] at h0
    rw [cutF, if_neg h0, cutF_at (k := k) (by simpa using hk) (by simpa using h) (fun i hi => by simpa using hn (i + 1) (by omega))]
    simp [Nat.add_right_comm]
theorem cutF_no {p : List UInt8} : ∀ {s : List UInt8}, (∀ i, i ≤ s.length → ¬ p.isPrefixOf (s.drop i) = true) → cutF p s = none
  | [], h => by
    have := h 0 (by simp)
    rw [List.drop_zero] at this
    rw [cutF, if_neg this]
  | x :: s, h => by
    have := h 0 (by simp)
    rw [List.drop_zero] at this
    rw [cutF, if_neg this, cutF_no (fun i hi => by simpa using h (i + 1) (by simpa using hi))]; rfl
theorem cutR_at {p s : List UInt8} {k : Nat} (hk : k ≤ s.length) (h : p.isPrefixOf (s.drop k) = true) (hn : ∀ i, i < k → ¬ p.isPrefixOf (s.drop i) = true) : cutR p s = (s.take k, s.drop (k + p.length), true) := by unfold cutR; rw [cutF_at hk h hn]
theorem cutR_no {p s : List UInt8} (hn : ∀ i, i ≤ s.length → ¬ p.isPrefixOf (s.drop i) = true) : cutR p s = ([], [], false) := by unfold cutR; rw [cutF_no hn]
theorem cutF_len {p : List UInt8} : ∀ {s : List UInt8} {q : List UInt8 × List UInt8}, cutF p s = some q → q.1.length ≤ s.length ∧ q.2.length ≤ s.length
  | [], q, h => by
    rw [cutF] at h
    split at h
    · simp only [Option.some.injEq] at h; subst h; simp
    · cases h
  | x :: s, q, h => by
    rw [cutF] at h
    split at h
    · simp only [Option.some.injEq] at h; subst h; simp
    · cases hc : cutF p s with
      | none => rw [hc] at h; cases h
      | some r =>
        rw [hc] at h
        simp only [Option.map_some, Option.some.injEq] at h
        subst h
        have := cutF_len hc
        simp only [List.length_cons]; omega
theorem cutR_len (p s : List UInt8) : (cutR p s).1.length ≤ s.length ∧ (cutR p s).2.1.length ≤ s.length := by
  unfold cutR
  cases h : cutF p s with
  | none => simp
  | some q => exact cutF_len h
/-- A number of one to four digits. -/
def numA (acc : Int) : List UInt8 → Int
  | [] => acc
  | c :: r => if c < 48 ∨ 57 < c then -1 else numA (acc * 10 + ((c - 48).toNat : Int)) r
/-! ### Formulas -/
theorem catK_all {α : Type} (g : α → List UInt8) (l : List α) : catK g l l.length = (l.map g).flatten := by unfold catK; rw [List.take_length]
theorem no10 (n : Int) : (10 : UInt8) ∉ dcm n := dcm_no (by decide) (.inl (by decide))
theorem no32 (n : Int) : (32 : UInt8) ∉ dcm n := dcm_no (by decide) (.inl (by decide))
theorem spl_vT : ∀ (c : List Int) (w : List UInt8), (32 : UInt8) ∉ w → spl 32 (w ++ (c.map vT).flatten) = w :: c.map dcm
  | [], w, h => by simp only [List.map_nil, List.flatten_nil, List.append_nil]; exact spl_one 32 w h
  | v :: vs, w, h => by
    have e : w ++ ((v :: vs).map vT).flatten = w ++ 32 :: (dcm v ++ (vs.map vT).flatten) := by simp [vT]
    rw [e, spl_cut 32 _ _ h, spl_vT vs (dcm v) (no32 v)]; rfl
theorem map_id2 {α : Type} {g : α → α} : ∀ {l : List α}, (∀ x ∈ l, g x = x) → l.map g = l
  | [], _ => rfl
  | x :: l, h => by rw [List.map_cons, h x (by simp), map_id2 fun y hy => h y (by simp [hy])]
/-- A text is one of a formula. -/
def IsCnfT (t : List UInt8) : Prop := ∃ f : Cnf, f.Valid ∧ cnfT f = t
open Classical in
noncomputable def resReadCnf (t : List UInt8) : Cnf := if h : IsCnfT t then Classical.choose h else ⟨0, []⟩
open Classical in
noncomputable def codeReadCnf (t : List UInt8) : Int := if IsCnfT t then 0 else 5
end Go.Proofs.YtmcljepicadjfaaGreatDoor
