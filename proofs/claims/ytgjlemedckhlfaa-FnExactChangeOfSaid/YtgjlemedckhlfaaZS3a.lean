/-
  Steps: which rules are enabled, what the reference and the program compute. No condition.
-/
import Derived.Test.YtgjlemedckhlfaaZS2d
namespace Go.Proofs.Ytgjlemedckhlfaa
open Go.AI
set_option maxRecDepth 8000
set_option maxHeartbeats 1600000

def Within (a b : List Int) : Prop := ∀ i (ha : i < a.length) (hb : i < b.length), a[i] ≤ b[i]

theorem c_l01Within (a b : List Int) (hl : a.length ≤ b.length) (hn : a.length ≤ 1000000) : Gives Try.prog 152 [.sl (a.map encI), .sl (b.map encI)] (.raw (.bool (dec (Within a b)))) := by
  refine fn_of_run tyOk ztOk mix Try.func152 rfl (by decide) Try.ntmps152 (fun w0 h => ?_)
  repeat' (first
      | (refine j_go ?_; first
        | refine j_op0 rfl rfl rfl rfl ?_ | (refine j_kIdx rfl ?_; first | refine j_idx rfl rfl rfl rfl rfl (by omega) rfl rfl rfl ?_ | refine j_idxz rfl rfl rfl rfl rfl ⟨by omega, by omega⟩ rfl rfl rfl ?_) | (refine j_kBin rfl ?_; first | refine j_in rfl rfl ⟨by omega, by omega⟩ rfl rfl ?_) | (refine j_kLen rfl ?_; first | refine j_len rfl rfl rfl rfl rfl rfl ?_ | refine j_op rfl rfl rfl rfl ?_))
      | refine j_nil ?_
      | (refine r_go ?_; first | refine run_seq ?_ | refine run_region ?_ | refine run_cond_t rfl ?_ | refine run_cond_f rfl ?_ | (refine (run_if rfl (fun hb => ?_) (fun hb => ?_)) <;> first | (exfalso; omega) | skip) | (refine (run_ifn rfl (fun hb => ?_) (fun hb => ?_)) <;> first | (exfalso; omega) | skip) | refine run_block ?_ | refine run_ret ?_ | refine run_exit ?_ | refine run_skip ?_ | refine run_regionD (by kernel_rfl) ?_ | refine run_condn rfl (fun hb => ?_) (fun hb => ?_) | refine run_cond rfl (fun hb => ?_) (fun hb => ?_))
      | refine seqQ_normal ?_ | refine seqQ_ret ?_ | refine seqQ_exit ?_ | refine blockQ_normal ?_ | refine blockQ_ret ?_ | refine blockQ_eq ?_ | refine blockQ_ne rfl ?_ | refine loopQ_ret ?_ | refine loopQ_exit ?_)
  refine run_loop (fun k : Nat => [(0, .sl (a.map encI)), (1, .sl (b.map encI)), (5, .int (k : Int))]) (fun _ => _) (fun k => k ≤ a.length ∧ (∀ i (h : i < a.length), i < k → a[i] ≤ b[i]'(by omega))) (fun k => a.length - k) 0 ⟨rfl, rfl, rfl, trivial⟩ rfl ⟨Nat.zero_le _, by first | (intros; omega) | (simp; done) | rfl | trivial | exact ⟨by simp [sumF], by intros; omega⟩ | exact ⟨by omega, by simp⟩⟩ (fun k ⟨kl, kp⟩ => ?_)
  repeat' (first
      | (refine j_go ?_; first
        | refine j_op0 rfl rfl rfl rfl ?_ | (refine j_kIdx rfl ?_; first | refine j_idx rfl rfl rfl rfl rfl (by omega) rfl rfl rfl ?_ | refine j_idxz rfl rfl rfl rfl rfl ⟨by omega, by omega⟩ rfl rfl rfl ?_) | (refine j_kBin rfl ?_; first | refine j_in rfl rfl ⟨by omega, by omega⟩ rfl rfl ?_) | (refine j_kLen rfl ?_; first | refine j_len rfl rfl rfl rfl rfl rfl ?_ | refine j_op rfl rfl rfl rfl ?_))
      | refine j_nil ?_
      | (refine r_go ?_; first | refine run_seq ?_ | refine run_region ?_ | refine run_cond_t rfl ?_ | refine run_cond_f rfl ?_ | (refine (run_if rfl (fun hb => ?_) (fun hb => ?_)) <;> first | (exfalso; omega) | skip) | (refine (run_ifn rfl (fun hb => ?_) (fun hb => ?_)) <;> first | (exfalso; omega) | skip) | refine run_block ?_ | refine run_ret ?_ | refine run_exit ?_ | refine run_skip ?_ | refine run_regionD (by kernel_rfl) ?_ | refine run_condn rfl (fun hb => ?_) (fun hb => ?_) | refine run_cond rfl (fun hb => ?_) (fun hb => ?_))
      | refine seqQ_normal ?_ | refine seqQ_ret ?_ | refine seqQ_exit ?_ | refine blockQ_normal ?_ | refine blockQ_ret ?_ | refine blockQ_eq ?_ | refine blockQ_ne rfl ?_ | refine loopQ_ret ?_ | refine loopQ_exit ?_)
  · exact end1 rfl (by first | exact List.Sublist.refl _ | exact sub1 | exact sub2 | exact sub3) (rbF (fun q => by have := q k (by omega) (by omega); omega)) (.inl rfl)
  · exact loopQ_nextD (k + 1) ⟨by omega, all_step kp (fun _ => by omega)⟩ (by omega) (by first | exact List.Sublist.refl _ | exact sub1 | exact sub2 | exact sub3) ⟨rfl, rfl, nx _, trivial⟩
  · exact end1 rfl (by first | exact List.Sublist.refl _ | exact sub1 | exact sub2 | exact sub3) (rbT (fun i h1 _ => kp i h1 (by omega))) (.inl rfl)
theorem c_isWithin (a b : List Int) (hl : a.length ≤ b.length) (hn : a.length ≤ 1000000) : Gives Try.prog 158 [.sl (a.map encI), .sl (b.map encI)] (.raw (.bool (dec (Within a b)))) := by
  refine fn_of_run tyOk ztOk mix Try.func158 rfl (by decide) Try.ntmps158 (fun w0 h => ?_)
  repeat' (first
      | (refine j_go ?_; first
        | refine j_op0 rfl rfl rfl rfl ?_ | (refine j_kIdx rfl ?_; first | refine j_idx rfl rfl rfl rfl rfl (by omega) rfl rfl rfl ?_ | refine j_idxz rfl rfl rfl rfl rfl ⟨by omega, by omega⟩ rfl rfl rfl ?_) | (refine j_kBin rfl ?_; first | refine j_in rfl rfl ⟨by omega, by omega⟩ rfl rfl ?_) | (refine j_kLen rfl ?_; first | refine j_len rfl rfl rfl rfl rfl rfl ?_ | refine j_op rfl rfl rfl rfl ?_))
      | refine j_nil ?_
      | (refine r_go ?_; first | refine run_seq ?_ | refine run_region ?_ | refine run_cond_t rfl ?_ | refine run_cond_f rfl ?_ | (refine (run_if rfl (fun hb => ?_) (fun hb => ?_)) <;> first | (exfalso; omega) | skip) | (refine (run_ifn rfl (fun hb => ?_) (fun hb => ?_)) <;> first | (exfalso; omega) | skip) | refine run_block ?_ | refine run_ret ?_ | refine run_exit ?_ | refine run_skip ?_ | refine run_regionD (by kernel_rfl) ?_ | refine run_condn rfl (fun hb => ?_) (fun hb => ?_) | refine run_cond rfl (fun hb => ?_) (fun hb => ?_))
      | refine seqQ_normal ?_ | refine seqQ_ret ?_ | refine seqQ_exit ?_ | refine blockQ_normal ?_ | refine blockQ_ret ?_ | refine blockQ_eq ?_ | refine blockQ_ne rfl ?_ | refine loopQ_ret ?_ | refine loopQ_exit ?_)
  refine run_loop (fun k : Nat => [(1, .sl (b.map encI)), (7, .sl (a.map encI)), (8, .int a.length), (9, .int (k : Int))]) (fun _ => _) (fun k => k ≤ a.length ∧ (∀ i (h : i < a.length), i < k → a[i] ≤ b[i]'(by omega))) (fun k => a.length - k) 0 ⟨rfl, rfl, rfl, rfl, trivial⟩ rfl ⟨Nat.zero_le _, by first | (intros; omega) | (simp; done) | rfl | trivial | exact ⟨by simp [sumF], by intros; omega⟩ | exact ⟨by omega, by simp⟩⟩ (fun k ⟨kl, kp⟩ => ?_)
  repeat' (first
      | (refine j_go ?_; first
        | refine j_op0 rfl rfl rfl rfl ?_ | (refine j_kIdx rfl ?_; first | refine j_idx rfl rfl rfl rfl rfl (by omega) rfl rfl rfl ?_ | refine j_idxz rfl rfl rfl rfl rfl ⟨by omega, by omega⟩ rfl rfl rfl ?_) | (refine j_kBin rfl ?_; first | refine j_in rfl rfl ⟨by omega, by omega⟩ rfl rfl ?_) | (refine j_kLen rfl ?_; first | refine j_len rfl rfl rfl rfl rfl rfl ?_ | refine j_op rfl rfl rfl rfl ?_))
      | refine j_nil ?_
      | (refine r_go ?_; first | refine run_seq ?_ | refine run_region ?_ | refine run_cond_t rfl ?_ | refine run_cond_f rfl ?_ | (refine (run_if rfl (fun hb => ?_) (fun hb => ?_)) <;> first | (exfalso; omega) | skip) | (refine (run_ifn rfl (fun hb => ?_) (fun hb => ?_)) <;> first | (exfalso; omega) | skip) | refine run_block ?_ | refine run_ret ?_ | refine run_exit ?_ | refine run_skip ?_ | refine run_regionD (by kernel_rfl) ?_ | refine run_condn rfl (fun hb => ?_) (fun hb => ?_) | refine run_cond rfl (fun hb => ?_) (fun hb => ?_))
      | refine seqQ_normal ?_ | refine seqQ_ret ?_ | refine seqQ_exit ?_ | refine blockQ_normal ?_ | refine blockQ_ret ?_ | refine blockQ_eq ?_ | refine blockQ_ne rfl ?_ | refine loopQ_ret ?_ | refine loopQ_exit ?_)
  · exact end1 rfl (by first | exact List.Sublist.refl _ | exact sub1 | exact sub2 | exact sub3) (rbF (fun q => by have := q k (by omega) (by omega); omega)) (.inl rfl)
  · exact loopQ_nextD (k + 1) ⟨by omega, all_step kp (fun _ => by omega)⟩ (by omega) (by first | exact List.Sublist.refl _ | exact sub1 | exact sub2 | exact sub3) ⟨rfl, rfl, rfl, nx _, trivial⟩
  · exact end1 rfl (by first | exact List.Sublist.refl _ | exact sub1 | exact sub2 | exact sub3) (rbT (fun i h1 _ => kp i h1 (by omega))) (.inl rfl)

def bagOf (t : State) (c : Int) : List Int := t.bags.getD c.toNat []
def IntoNow (s : System) (t : State) (r : Rule) (x : Into) : Prop := t.Lives x.cell ∧ pnow s t x.cell = r.cell
/-- A rule is enabled. -/
def EnP (s : System) (t : State) (r : Rule) : Prop := t.Lives r.cell ∧ Within r.need (bagOf t r.cell) ∧ Within r.have_ (bagOf t r.cell) ∧ ¬ (0 < tot r.lack ∧ Within r.lack (bagOf t r.cell)) ∧ ∀ i (h : i < r.into.length), IntoNow s t r r.into[i]
theorem bagOf_eq {t : State} {c : Int} (h : c.toNat < t.bags.length) : bagOf t c = t.bags[c.toNat] := getD_get h
theorem enP_iff {s : System} {t : State} {r : Rule} {B : List Int} (e : bagOf t r.cell = B) : EnP s t r ↔ t.Lives r.cell ∧ Within r.need B ∧ Within r.have_ B ∧ ¬ (0 < tot r.lack ∧ Within r.lack B) ∧ ∀ i (h : i < r.into.length), IntoNow s t r r.into[i] := by unfold EnP; rw [e]

theorem c_l03Enabled (s : System) (t : State) (r : Rule) (hv : s.Ok) (ht : s.StateOk t) (hr : s.RuleOk r) : Gives Try.prog 78 [.ip (encSystem s), .ip (encState t), .ip (encRule r)] (.raw (.bool (dec (EnP s t r)))) := by
  refine fn_of_run tyOk ztOk mix Try.func78 rfl (by decide) Try.ntmps78 (fun w0 h => ?_)
  have hl := hv.1.2.1
  have k8 := hv.1.1
  have h1 := ht.1
  have h2 := ht.2.1
  obtain ⟨c1, c2, c3, c4, c5, c6, c7, c8, c9, c10, c11⟩ := hr
  have hcl : r.cell.toNat < t.bags.length := by omega
  have hB := (ht.2.2.2.2 _ hcl).1
  have l0 := hB.2
  have l1 := c5.2
  have l2 := c6.2
  have l3 := c7.2
  have en := enP_iff (s := s) (bagOf_eq hcl)
  repeat' (first
      | (refine j_go ?_; first
        | refine j_op0 rfl rfl rfl rfl ?_ | refine j_off rfl rfl rfl ?_ | (refine j_kIdx rfl ?_; first | refine j_idx rfl rfl rfl rfl rfl (by omega) rfl rfl rfl ?_ | refine j_idxz rfl rfl rfl rfl rfl ⟨by omega, by omega⟩ rfl rfl rfl ?_) | (refine j_kBin rfl ?_; first | refine j_in rfl rfl ⟨by omega, by omega⟩ rfl rfl ?_) | (refine j_kLen rfl ?_; first | refine j_len rfl rfl rfl rfl rfl rfl ?_ | refine j_op rfl rfl rfl rfl ?_) | (refine j_kCall rfl rfl rfl rfl ?_; first | refine jc (c_l01Within _ _ (by omega) (by omega)) (LeL.refl _) rfl rfl ?_ | refine jc (c_l01Size _ (BagK.bag (k := s.kinds) (by assumption))) (LeL.refl _) rfl rfl ?_ | refine jc (c_l01Within _ _ (by omega) (by omega)) (by repeat' (first | exact LeL.nil | refine LeL.cons ?_ ?_ | exact Le.refl _ | exact Le.nilm _ _ | exact Le.nil _ | refine Le.agg ?_)) rfl rfl ?_ | refine jc (c_l01Size _ (BagK.bag (k := s.kinds) (by assumption))) (by repeat' (first | exact LeL.nil | refine LeL.cons ?_ ?_ | exact Le.refl _ | exact Le.nilm _ _ | exact Le.nil _ | refine Le.agg ?_)) rfl rfl ?_) | (refine j_kGuard rfl ?_; first | (refine (j_if rfl rfl rfl (fun hb => ?_) (fun hb => ?_)) <;> first | (exfalso; omega) | skip) | (refine (j_ifn rfl rfl rfl (fun hb => ?_) (fun hb => ?_)) <;> first | (exfalso; omega) | skip) | (refine (j_branch rfl rfl rfl (fun hb => ?_) (fun hb => ?_)) <;> skip; (fail_if_success guard_hyp hb : true = true); (fail_if_success guard_hyp hb : true = false); (fail_if_success guard_hyp hb : false = true); (fail_if_success guard_hyp hb : false = false))))
      | refine j_nil ?_
      | (refine r_go ?_; first | refine run_seq ?_ | refine run_region ?_ | refine run_cond_t rfl ?_ | refine run_cond_f rfl ?_ | (refine (run_if rfl (fun hb => ?_) (fun hb => ?_)) <;> first | (exfalso; omega) | skip) | (refine (run_ifn rfl (fun hb => ?_) (fun hb => ?_)) <;> first | (exfalso; omega) | skip) | refine run_block ?_ | refine run_ret ?_ | refine run_exit ?_ | refine run_skip ?_ | refine run_regionD (by kernel_rfl) ?_ | refine run_condn rfl (fun hb => ?_) (fun hb => ?_) | refine run_cond rfl (fun hb => ?_) (fun hb => ?_))
      | refine seqQ_normal ?_ | refine seqQ_ret ?_ | refine seqQ_exit ?_ | refine blockQ_normal ?_ | refine blockQ_ret ?_ | refine blockQ_eq ?_ | refine blockQ_ne rfl ?_ | refine loopQ_ret ?_ | refine loopQ_exit ?_)
  all_goals first
    | (refine end1 rfl (by first | exact List.Sublist.refl _ | exact sub1 | exact sub2 | exact sub3) ?_ (.inl rfl); first | exact rbF (fun q => by
        obtain ⟨q1, q2, q3, q4, q5⟩ := en.1 q
        exact (by first | exact absurd q1 (al_f (by assumption)) | exact absurd q1 (al_f' (by assumption)) | exact absurd q2 (by assumption) | exact absurd q3 (by assumption) | exact q4 ⟨by assumption, by assumption⟩)))
    | skip
  all_goals
    have hlk : ¬ (0 < tot r.lack ∧ Within r.lack t.bags[r.cell.toNat]) := by first | (intro q; exact absurd q.1 (by assumption)) | (intro q; exact absurd q.2 (by assumption))
    refine run_loop (fun k : Nat => [(0, .ip (encSystem s)), (1, .ip (encState t)), (2, .ip (encRule r)), (8, .int (k : Int))]) (fun _ => _) (fun k => k ≤ r.into.length ∧ (∀ i (h : i < r.into.length), i < k → IntoNow s t r r.into[i])) (fun k => r.into.length - k) 0 ⟨rfl, rfl, rfl, rfl, trivial⟩ rfl ⟨Nat.zero_le _, by first | (intros; omega) | (simp; done) | rfl | trivial | exact ⟨by simp [sumF], by intros; omega⟩ | exact ⟨by omega, by simp⟩⟩ (fun k ⟨kl, kp⟩ => ?_)
    by_cases hk : k < r.into.length
    · have xc := (c11 k hk).1.1
      repeat' (first
      | (refine j_go ?_; first
        | refine j_op0 rfl rfl rfl rfl ?_ | refine j_off rfl rfl rfl ?_ | (refine j_kIdx rfl ?_; first | refine j_idx rfl rfl rfl rfl rfl (by omega) rfl rfl rfl ?_ | refine j_idxz rfl rfl rfl rfl rfl ⟨by omega, by omega⟩ rfl rfl rfl ?_) | (refine j_kBin rfl ?_; first | refine j_in rfl rfl ⟨by omega, by omega⟩ rfl rfl ?_) | (refine j_kLen rfl ?_; first | refine j_len rfl rfl rfl rfl rfl rfl ?_ | refine j_op rfl rfl rfl rfl ?_) | (refine j_kCall rfl rfl rfl rfl ?_; first | refine jc (c_l02Parent _ _ _ hv h1 (by omega)) (LeL.refl _) rfl rfl ?_ | refine jc (c_l02Parent _ _ _ hv h1 (by omega)) (by repeat' (first | exact LeL.nil | refine LeL.cons ?_ ?_ | exact Le.refl _ | exact Le.nilm _ _ | exact Le.nil _ | refine Le.agg ?_)) rfl rfl ?_) | (refine j_kGuard rfl ?_; first | (refine (j_if rfl rfl rfl (fun hb => ?_) (fun hb => ?_)) <;> first | (exfalso; omega) | skip) | (refine (j_ifn rfl rfl rfl (fun hb => ?_) (fun hb => ?_)) <;> first | (exfalso; omega) | skip) | (refine (j_branch rfl rfl rfl (fun hb => ?_) (fun hb => ?_)) <;> skip; (fail_if_success guard_hyp hb : true = true); (fail_if_success guard_hyp hb : true = false); (fail_if_success guard_hyp hb : false = true); (fail_if_success guard_hyp hb : false = false))))
      | refine j_nil ?_
      | (refine r_go ?_; first | refine run_seq ?_ | refine run_region ?_ | refine run_cond_t rfl ?_ | refine run_cond_f rfl ?_ | (refine (run_if rfl (fun hb => ?_) (fun hb => ?_)) <;> first | (exfalso; omega) | skip) | (refine (run_ifn rfl (fun hb => ?_) (fun hb => ?_)) <;> first | (exfalso; omega) | skip) | refine run_block ?_ | refine run_ret ?_ | refine run_exit ?_ | refine run_skip ?_ | refine run_regionD (by kernel_rfl) ?_ | refine run_condn rfl (fun hb => ?_) (fun hb => ?_) | refine run_cond rfl (fun hb => ?_) (fun hb => ?_))
      | refine seqQ_normal ?_ | refine seqQ_ret ?_ | refine seqQ_exit ?_ | refine blockQ_normal ?_ | refine blockQ_ret ?_ | refine blockQ_eq ?_ | refine blockQ_ne rfl ?_ | refine loopQ_ret ?_ | refine loopQ_exit ?_)
      all_goals first
        | exact loopQ_nextD (k + 1) ⟨by omega, all_step kp (fun _ => ⟨by first | exact al_t (by assumption) | exact al_t' (by assumption), by assumption⟩)⟩ (by omega) (by first | exact List.Sublist.refl _ | exact sub1 | exact sub2 | exact sub3) ⟨rfl, rfl, rfl, nx _, trivial⟩
        | (refine end1 rfl (by first | exact List.Sublist.refl _ | exact sub1 | exact sub2 | exact sub3) ?_ (.inl rfl); first | exact rbF (fun q => by
            obtain ⟨q1, q2⟩ := (en.1 q).2.2.2.2 k hk
            exact (by first | exact absurd q1 (al_f (by assumption)) | exact absurd q1 (al_f' (by assumption)) | exact absurd q2 (by assumption))))
        | trace_state
    · repeat' (first
      | (refine j_go ?_; first
        | refine j_op0 rfl rfl rfl rfl ?_ | refine j_off rfl rfl rfl ?_ | (refine j_kIdx rfl ?_; first | refine j_idx rfl rfl rfl rfl rfl (by omega) rfl rfl rfl ?_ | refine j_idxz rfl rfl rfl rfl rfl ⟨by omega, by omega⟩ rfl rfl rfl ?_) | (refine j_kBin rfl ?_; first | refine j_in rfl rfl ⟨by omega, by omega⟩ rfl rfl ?_) | (refine j_kLen rfl ?_; first | refine j_len rfl rfl rfl rfl rfl rfl ?_ | refine j_op rfl rfl rfl rfl ?_) | (refine j_kGuard rfl ?_; first | (refine (j_if rfl rfl rfl (fun hb => ?_) (fun hb => ?_)) <;> first | (exfalso; omega) | skip) | (refine (j_ifn rfl rfl rfl (fun hb => ?_) (fun hb => ?_)) <;> first | (exfalso; omega) | skip) | (refine (j_branch rfl rfl rfl (fun hb => ?_) (fun hb => ?_)) <;> skip; (fail_if_success guard_hyp hb : true = true); (fail_if_success guard_hyp hb : true = false); (fail_if_success guard_hyp hb : false = true); (fail_if_success guard_hyp hb : false = false))))
      | refine j_nil ?_
      | (refine r_go ?_; first | refine run_seq ?_ | refine run_region ?_ | refine run_cond_t rfl ?_ | refine run_cond_f rfl ?_ | (refine (run_if rfl (fun hb => ?_) (fun hb => ?_)) <;> first | (exfalso; omega) | skip) | (refine (run_ifn rfl (fun hb => ?_) (fun hb => ?_)) <;> first | (exfalso; omega) | skip) | refine run_block ?_ | refine run_ret ?_ | refine run_exit ?_ | refine run_skip ?_ | refine run_regionD (by kernel_rfl) ?_ | refine run_condn rfl (fun hb => ?_) (fun hb => ?_) | refine run_cond rfl (fun hb => ?_) (fun hb => ?_))
      | refine seqQ_normal ?_ | refine seqQ_ret ?_ | refine seqQ_exit ?_ | refine blockQ_normal ?_ | refine blockQ_ret ?_ | refine blockQ_eq ?_ | refine blockQ_ne rfl ?_ | refine loopQ_ret ?_ | refine loopQ_exit ?_)
      exact end1 rfl (by first | exact List.Sublist.refl _ | exact sub1 | exact sub2 | exact sub3) (rbT (en.2 ⟨by first | exact al_t (by assumption) | exact al_t' (by assumption), by assumption, by assumption, hlk, fun i h => kp i h (by omega)⟩)) (.inl rfl)

theorem c_isEnabled1 (s : System) (t : State) (r : Rule) (x : Into) (hv : s.Ok) (ht : s.StateOk t) (hx : 0 ≤ x.cell ∧ x.cell ≤ (s.parents.length : Int) - 1) : Gives Try.prog 161 [.agg (encInto x), .ip (encState t), .ip (encSystem s), .ip (encRule r)] (.raw (.bool (dec (¬ IntoNow s t r x)))) := by
  refine fn_of_run tyOk ztOk mix Try.func161 rfl (by decide) Try.ntmps161 (fun w0 h => ?_)
  have h1 := ht.1
  repeat' (first
      | (refine j_go ?_; first
        | refine j_op0 rfl rfl rfl rfl ?_ | refine j_off rfl rfl rfl ?_ | (refine j_kIdx rfl ?_; first | refine j_idx rfl rfl rfl rfl rfl (by omega) rfl rfl rfl ?_ | refine j_idxz rfl rfl rfl rfl rfl ⟨by omega, by omega⟩ rfl rfl rfl ?_) | (refine j_kBin rfl ?_; first | refine j_in rfl rfl ⟨by omega, by omega⟩ rfl rfl ?_) | (refine j_kCall rfl rfl rfl rfl ?_; first | refine jc (c_parentNow _ _ _ hv h1 (by omega)) (LeL.refl _) rfl rfl ?_ | refine jc (c_parentNow _ _ _ hv h1 (by omega)) (by repeat' (first | exact LeL.nil | refine LeL.cons ?_ ?_ | exact Le.refl _ | exact Le.nilm _ _ | exact Le.nil _ | refine Le.agg ?_)) rfl rfl ?_) | (refine j_kGuard rfl ?_; first | (refine (j_if rfl rfl rfl (fun hb => ?_) (fun hb => ?_)) <;> first | (exfalso; omega) | skip) | (refine (j_ifn rfl rfl rfl (fun hb => ?_) (fun hb => ?_)) <;> first | (exfalso; omega) | skip) | (refine (j_branch rfl rfl rfl (fun hb => ?_) (fun hb => ?_)) <;> skip; (fail_if_success guard_hyp hb : true = true); (fail_if_success guard_hyp hb : true = false); (fail_if_success guard_hyp hb : false = true); (fail_if_success guard_hyp hb : false = false))) | refine j_box rfl rfl rfl rfl rfl rfl ?_)
      | refine j_nil ?_
      | (refine r_go ?_; first | refine run_seq ?_ | refine run_region ?_ | refine run_cond_t rfl ?_ | refine run_cond_f rfl ?_ | (refine (run_if rfl (fun hb => ?_) (fun hb => ?_)) <;> first | (exfalso; omega) | skip) | (refine (run_ifn rfl (fun hb => ?_) (fun hb => ?_)) <;> first | (exfalso; omega) | skip) | refine run_block ?_ | refine run_ret ?_ | refine run_exit ?_ | refine run_skip ?_ | refine run_regionD (by kernel_rfl) ?_ | refine run_condn rfl (fun hb => ?_) (fun hb => ?_) | refine run_cond rfl (fun hb => ?_) (fun hb => ?_))
      | refine seqQ_normal ?_ | refine seqQ_ret ?_ | refine seqQ_exit ?_ | refine blockQ_normal ?_ | refine blockQ_ret ?_ | refine blockQ_eq ?_ | refine blockQ_ne rfl ?_ | refine loopQ_ret ?_ | refine loopQ_exit ?_)
  all_goals (refine end1 rfl (by first | exact List.Sublist.refl _ | exact sub1 | exact sub2 | exact sub3) ?_ (.inl rfl); first | exact rbT (fun q => by exact (by first | exact absurd q.1 (al_f (by assumption)) | exact absurd q.1 (al_f' (by assumption)))) | exact rbN ⟨fun p q => p q.2, fun p q => p ⟨by first | exact al_t (by assumption) | exact al_t' (by assumption), q⟩⟩)

theorem c_isEnabled (s : System) (t : State) (r : Rule) (hv : s.Ok) (ht : s.StateOk t) (hr : s.RuleOk r) : Gives Try.prog 84 [.agg (encSystem s), .agg (encState t), .agg (encRule r)] (.raw (.bool (dec (EnP s t r)))) := by
  refine fn_of_run tyOk ztOk mix Try.func84 rfl (by decide) Try.ntmps84 (fun w0 h => ?_)
  have hl := hv.1.2.1
  have k8 := hv.1.1
  have h1 := ht.1
  have h2 := ht.2.1
  obtain ⟨c1, c2, c3, c4, c5, c6, c7, c8, c9, c10, c11⟩ := hr
  have hcl : r.cell.toNat < t.bags.length := by omega
  have hB := (ht.2.2.2.2 _ hcl).1
  have l0 := hB.2
  have l1 := c5.2
  have l2 := c6.2
  have l3 := c7.2
  have en := enP_iff (s := s) (bagOf_eq hcl)
  have hin : ∀ x ∈ r.into, 0 ≤ x.cell ∧ x.cell ≤ (s.parents.length : Int) - 1 := fun x hx => by
    obtain ⟨i, hi, rfl⟩ := List.getElem_of_mem hx
    exact (c11 i hi).1.1
  repeat' (first
      | (refine j_go ?_; first
        | refine j_op0 rfl rfl rfl rfl ?_ | refine j_off rfl rfl rfl ?_ | (refine j_kIdx rfl ?_; first | refine j_idx rfl rfl rfl rfl rfl (by omega) rfl rfl rfl ?_ | refine j_idxz rfl rfl rfl rfl rfl ⟨by omega, by omega⟩ rfl rfl rfl ?_) | (refine j_kBin rfl ?_; first | refine j_in rfl rfl ⟨by omega, by omega⟩ rfl rfl ?_) | (refine j_kCall rfl rfl rfl rfl ?_; first | refine jc (c_isWithin _ _ (by omega) (by omega)) (LeL.refl _) rfl rfl ?_ | refine jc (c_bagSize _ (BagK.bag (k := s.kinds) (by assumption))) (LeL.refl _) rfl rfl ?_ | refine jc (c_cfN _ _ (fun x => ¬ IntoNow s t r x) _ (fun x hx => c_isEnabled1 s t r x hv ht (hin x hx))) (LeL.refl _) rfl rfl ?_ | refine jc (c_isWithin _ _ (by omega) (by omega)) (by repeat' (first | exact LeL.nil | refine LeL.cons ?_ ?_ | exact Le.refl _ | exact Le.nilm _ _ | exact Le.nil _ | refine Le.agg ?_)) rfl rfl ?_ | refine jc (c_bagSize _ (BagK.bag (k := s.kinds) (by assumption))) (by repeat' (first | exact LeL.nil | refine LeL.cons ?_ ?_ | exact Le.refl _ | exact Le.nilm _ _ | exact Le.nil _ | refine Le.agg ?_)) rfl rfl ?_ | refine jc (c_cfN _ _ (fun x => ¬ IntoNow s t r x) _ (fun x hx => c_isEnabled1 s t r x hv ht (hin x hx))) (by repeat' (first | exact LeL.nil | refine LeL.cons ?_ ?_ | exact Le.refl _ | exact Le.nilm _ _ | exact Le.nil _ | refine Le.agg ?_)) rfl rfl ?_) | (refine j_kGuard rfl ?_; first | (refine (j_if rfl rfl rfl (fun hb => ?_) (fun hb => ?_)) <;> first | (exfalso; omega) | skip) | (refine (j_ifn rfl rfl rfl (fun hb => ?_) (fun hb => ?_)) <;> first | (exfalso; omega) | skip) | (refine (j_branch rfl rfl rfl (fun hb => ?_) (fun hb => ?_)) <;> skip; (fail_if_success guard_hyp hb : true = true); (fail_if_success guard_hyp hb : true = false); (fail_if_success guard_hyp hb : false = true); (fail_if_success guard_hyp hb : false = false))) | refine j_box rfl rfl rfl rfl rfl rfl ?_)
      | refine j_nil ?_
      | (refine r_go ?_; first | refine run_seq ?_ | refine run_region ?_ | refine run_cond_t rfl ?_ | refine run_cond_f rfl ?_ | (refine (run_if rfl (fun hb => ?_) (fun hb => ?_)) <;> first | (exfalso; omega) | skip) | (refine (run_ifn rfl (fun hb => ?_) (fun hb => ?_)) <;> first | (exfalso; omega) | skip) | refine run_block ?_ | refine run_ret ?_ | refine run_exit ?_ | refine run_skip ?_ | refine run_regionD (by kernel_rfl) ?_ | refine run_condn rfl (fun hb => ?_) (fun hb => ?_) | refine run_cond rfl (fun hb => ?_) (fun hb => ?_))
      | refine seqQ_normal ?_ | refine seqQ_ret ?_ | refine seqQ_exit ?_ | refine blockQ_normal ?_ | refine blockQ_ret ?_ | refine blockQ_eq ?_ | refine blockQ_ne rfl ?_ | refine loopQ_ret ?_ | refine loopQ_exit ?_)
  all_goals (refine end1 rfl (by first | exact List.Sublist.refl _ | exact sub1 | exact sub2 | exact sub3) ?_ (.inl rfl); first | exact rbF (fun q => by
        obtain ⟨q1, q2, q3, q4, q5⟩ := en.1 q
        exact (by first | exact absurd q1 (al_f (by assumption)) | exact absurd q1 (al_f' (by assumption)) | exact absurd q2 (by assumption) | exact absurd q3 (by assumption) | exact q4 ⟨by assumption, by assumption⟩)) | exact rbN ⟨fun p => en.2 ⟨by first | exact al_t (by assumption) | exact al_t' (by assumption), by assumption, by assumption, by first | (intro q; exact absurd q.1 (by assumption)) | (intro q; exact absurd q.2 (by assumption)), fun i h => Classical.byContradiction fun q => p ⟨_, List.getElem_mem h, q⟩⟩, fun p ⟨x, hx, q⟩ => by
        obtain ⟨i, hi, rfl⟩ := List.getElem_of_mem hx
        exact q ((en.1 p).2.2.2.2 i hi)⟩)

end Go.Proofs.Ytgjlemedckhlfaa
