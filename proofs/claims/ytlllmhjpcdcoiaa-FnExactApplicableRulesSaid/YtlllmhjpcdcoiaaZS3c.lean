/-
  Steps: which rules are enabled, what the reference and the program compute. No condition.
-/
import Derived.Test.YtlllmhjpcdcoiaaZS2d
namespace Go.Proofs.Ytlllmhjpcdcoiaa
open Go.AI
set_option maxRecDepth 8000
set_option maxHeartbeats 1600000

def Within (a b : List Int) : Prop := ∀ i (ha : i < a.length) (hb : i < b.length), a[i] ≤ b[i]

theorem c_l01Within (a b : List Int) (hl : a.length ≤ b.length) (hn : a.length ≤ 1000000) : Gives Try.prog 52 [.sl (a.map Go.AI.encI), .sl (b.map Go.AI.encI)] (.raw (.bool (dec (Within a b)))) := by
  refine fn_of_run tyOk ztOk mix Try.func52 rfl (by decide) Try.ntmps52 (fun w0 h => ?_)
  repeat' (first
      | (refine j_go ?_; first
        | refine j_op0 rfl rfl rfl rfl ?_)
      | refine j_nil ?_
      | (refine r_go ?_; first | refine run_seq ?_ | refine run_region ?_ | refine run_block ?_)
      | refine seqQ_normal ?_)
  refine run_loop (fun k : Nat => [(0, .sl (a.map Go.AI.encI)), (1, .sl (b.map Go.AI.encI)), (5, .int (k : Int))]) (fun _ => _) (fun k => k ≤ a.length ∧ (∀ i (h : i < a.length), i < k → a[i] ≤ b[i]'(by omega))) (fun k => a.length - k) 0 ⟨rfl, rfl, rfl, trivial⟩ rfl ⟨Nat.zero_le _, by first | (intros; omega) | (simp; done) | rfl | trivial | exact ⟨by simp [sumF], by intros; omega⟩ | exact ⟨by omega, by simp⟩⟩ (fun k ⟨kl, kp⟩ => ?_)
  repeat' (first
      | (refine j_go ?_; first
        | refine j_op0 rfl rfl rfl rfl ?_ | (refine j_kIdx rfl ?_; first | refine j_idx rfl rfl rfl rfl rfl (by omega) rfl rfl rfl ?_) | (refine j_kBin rfl ?_; first | refine j_in rfl rfl ⟨by omega, by omega⟩ rfl rfl ?_) | (refine j_kLen rfl ?_; first | refine j_len rfl rfl rfl rfl rfl rfl ?_))
      | refine j_nil ?_
      | (refine r_go ?_; first | refine run_seq ?_ | refine run_region ?_ | (refine (run_if rfl (fun hb => ?_) (fun hb => ?_)) <;> first | (exfalso; omega) | skip) | refine run_block ?_ | refine run_ret ?_ | refine run_exit ?_ | refine run_skip ?_ | refine run_regionD (by kernel_rfl) ?_)
      | refine seqQ_normal ?_ | refine seqQ_ret ?_ | refine seqQ_exit ?_ | refine blockQ_normal ?_ | refine blockQ_ret ?_ | refine blockQ_eq ?_ | refine loopQ_ret ?_ | refine loopQ_exit ?_)
  · exact end1 rfl (by first | exact List.Sublist.refl _ | exact sub1 | exact sub2 | exact sub3) (rbF (fun q => by have := q k (by omega) (by omega); omega)) (.inl rfl)
  · exact loopQ_nextD (k + 1) ⟨by omega, all_step kp (fun _ => by omega)⟩ (by omega) (by first | exact List.Sublist.refl _ | exact sub1 | exact sub2 | exact sub3) ⟨rfl, rfl, nx _, trivial⟩
  · exact end1 rfl (by first | exact List.Sublist.refl _ | exact sub1 | exact sub2 | exact sub3) (rbT (fun i h1 _ => kp i h1 (by omega))) (.inl rfl)
theorem c_isWithin (a b : List Int) (hl : a.length ≤ b.length) (hn : a.length ≤ 1000000) : Gives Try.prog 61 [.sl (a.map Go.AI.encI), .sl (b.map Go.AI.encI)] (.raw (.bool (dec (Within a b)))) := by
  refine fn_of_run tyOk ztOk mix Try.func61 rfl (by decide) Try.ntmps61 (fun w0 h => ?_)
  repeat' (first
      | (refine j_go ?_; first
        | refine j_op0 rfl rfl rfl rfl ?_ | (refine j_kLen rfl ?_; first | refine j_len rfl rfl rfl rfl rfl rfl ?_))
      | refine j_nil ?_
      | (refine r_go ?_; first | refine run_seq ?_ | refine run_region ?_ | refine run_block ?_)
      | refine seqQ_normal ?_)
  refine run_loop (fun k : Nat => [(1, .sl (b.map Go.AI.encI)), (7, .sl (a.map Go.AI.encI)), (8, .int a.length), (9, .int (k : Int))]) (fun _ => _) (fun k => k ≤ a.length ∧ (∀ i (h : i < a.length), i < k → a[i] ≤ b[i]'(by omega))) (fun k => a.length - k) 0 ⟨rfl, rfl, rfl, rfl, trivial⟩ rfl ⟨Nat.zero_le _, by first | (intros; omega) | (simp; done) | rfl | trivial | exact ⟨by simp [sumF], by intros; omega⟩ | exact ⟨by omega, by simp⟩⟩ (fun k ⟨kl, kp⟩ => ?_)
  repeat' (first
      | (refine j_go ?_; first
        | refine j_op0 rfl rfl rfl rfl ?_ | (refine j_kIdx rfl ?_; first | refine j_idx rfl rfl rfl rfl rfl (by omega) rfl rfl rfl ?_) | (refine j_kBin rfl ?_; first | refine j_in rfl rfl ⟨by omega, by omega⟩ rfl rfl ?_))
      | refine j_nil ?_
      | (refine r_go ?_; first | refine run_seq ?_ | refine run_region ?_ | (refine (run_if rfl (fun hb => ?_) (fun hb => ?_)) <;> first | (exfalso; omega) | skip) | refine run_block ?_ | refine run_ret ?_ | refine run_exit ?_ | refine run_skip ?_)
      | refine seqQ_normal ?_ | refine seqQ_ret ?_ | refine seqQ_exit ?_ | refine blockQ_normal ?_ | refine blockQ_ret ?_ | refine blockQ_eq ?_ | refine loopQ_ret ?_ | refine loopQ_exit ?_)
  · exact end1 rfl (by first | exact List.Sublist.refl _ | exact sub1 | exact sub2 | exact sub3) (rbF (fun q => by have := q k (by omega) (by omega); omega)) (.inl rfl)
  · exact loopQ_nextD (k + 1) ⟨by omega, all_step kp (fun _ => by omega)⟩ (by omega) (by first | exact List.Sublist.refl _ | exact sub1 | exact sub2 | exact sub3) ⟨rfl, rfl, rfl, nx _, trivial⟩
  · exact end1 rfl (by first | exact List.Sublist.refl _ | exact sub1 | exact sub2 | exact sub3) (rbT (fun i h1 _ => kp i h1 (by omega))) (.inl rfl)

def bagOf (t : State) (c : Int) : List Int := t.bags.getD c.toNat []
def IntoNow (s : System) (t : State) (r : Rule) (x : Into) : Prop := t.Lives x.cell ∧ pnow s t x.cell = r.cell
/-- A rule is enabled. -/
def EnP (s : System) (t : State) (r : Rule) : Prop := t.Lives r.cell ∧ Within r.need (bagOf t r.cell) ∧ Within r.have_ (bagOf t r.cell) ∧ ¬ (0 < tot r.lack ∧ Within r.lack (bagOf t r.cell)) ∧ ∀ i (h : i < r.into.length), IntoNow s t r r.into[i]
theorem bagOf_eq {t : State} {c : Int} (h : c.toNat < t.bags.length) : bagOf t c = t.bags[c.toNat] := getD_get h
theorem enP_iff {s : System} {t : State} {r : Rule} {B : List Int} (e : bagOf t r.cell = B) : EnP s t r ↔ t.Lives r.cell ∧ Within r.need B ∧ Within r.have_ B ∧ ¬ (0 < tot r.lack ∧ Within r.lack B) ∧ ∀ i (h : i < r.into.length), IntoNow s t r r.into[i] := by unfold EnP; rw [e]

theorem c_l03Enabled (s : System) (t : State) (r : Rule) (hv : s.Ok) (ht : s.StateOk t) (hr : s.RuleOk r) : Gives Try.prog 38 [.ip (encSystem s), .ip (encState t), .ip (encRule r)] (.raw (.bool (dec (EnP s t r)))) := by
  refine fn_of_run tyOk ztOk mix Try.func38 rfl (by decide) Try.ntmps38 (fun w0 h => ?_)
  have hl := hv.1.2.1
  have k8 := hv.1.1
  have h1 := ht.1
  have h2 := ht.2.1
  obtain ⟨c1, c2, c3, c4, c5, c6, c7, c8, c9, c10, c11⟩ := hr
  have hcl : r.cell.toNat < t.bags.length := by omega
  have hB := (ht.2.2.2.2 _ hcl).1
  have l0 := hB.2
  have l1 := c5.2
  have l2 := c6.2
  have l3 := c7.2
  have en := enP_iff (s := s) (bagOf_eq hcl)
  repeat' (first
      | (refine j_go ?_; first
        | refine j_op0 rfl rfl rfl rfl ?_ | refine j_off rfl rfl rfl ?_ | (refine j_kIdx rfl ?_; first | refine j_idxz rfl rfl rfl rfl rfl ⟨by omega, by omega⟩ rfl rfl rfl ?_) | (refine j_kCall rfl rfl rfl rfl ?_; first | refine jc (c_l01Within _ _ (by omega) (by omega)) (LeL.refl _) rfl rfl ?_ | refine jc (c_l01Size _ (BagK.bag (k := s.kinds) (by assumption))) (LeL.refl _) rfl rfl ?_) | (refine j_kGuard rfl ?_; first | (refine (j_if rfl rfl rfl (fun hb => ?_) (fun hb => ?_)) <;> first | (exfalso; omega) | skip) | (refine (j_ifn rfl rfl rfl (fun hb => ?_) (fun hb => ?_)) <;> first | (exfalso; omega) | skip)))
      | refine j_nil ?_
      | (refine r_go ?_; first | refine run_seq ?_ | refine run_region ?_ | refine run_cond_t rfl ?_ | refine run_cond_f rfl ?_ | (refine (run_if rfl (fun hb => ?_) (fun hb => ?_)) <;> first | (exfalso; omega) | skip) | refine run_block ?_ | refine run_ret ?_ | refine run_skip ?_ | refine run_regionD (by kernel_rfl) ?_ | refine run_condn rfl (fun hb => ?_) (fun hb => ?_))
      | refine seqQ_normal ?_ | refine seqQ_ret ?_)
  all_goals first
    | (refine end1 rfl (by first | exact List.Sublist.refl _ | exact sub1 | exact sub2 | exact sub3) ?_ (.inl rfl); first | exact rbF (fun q => by
        obtain ⟨q1, q2, q3, q4, q5⟩ := en.1 q
        exact (by first | exact absurd q1 (al_f (by assumption)) | exact absurd q1 (al_f' (by assumption)) | exact absurd q2 (by assumption) | exact absurd q3 (by assumption) | exact q4 ⟨by assumption, by assumption⟩)))
    | skip
  all_goals
    have hlk : ¬ (0 < tot r.lack ∧ Within r.lack t.bags[r.cell.toNat]) := by first | (intro q; exact absurd q.1 (by assumption)) | (intro q; exact absurd q.2 (by assumption))
    refine run_loop (fun k : Nat => [(0, .ip (encSystem s)), (1, .ip (encState t)), (2, .ip (encRule r)), (8, .int (k : Int))]) (fun _ => _) (fun k => k ≤ r.into.length ∧ (∀ i (h : i < r.into.length), i < k → IntoNow s t r r.into[i])) (fun k => r.into.length - k) 0 ⟨rfl, rfl, rfl, rfl, trivial⟩ rfl ⟨Nat.zero_le _, by first | (intros; omega) | (simp; done) | rfl | trivial | exact ⟨by simp [sumF], by intros; omega⟩ | exact ⟨by omega, by simp⟩⟩ (fun k ⟨kl, kp⟩ => ?_)
    by_cases hk : k < r.into.length
    · have xc := (c11 k hk).1.1
      repeat' (first
      | (refine j_go ?_; first
        | refine j_op0 rfl rfl rfl rfl ?_ | refine j_off rfl rfl rfl ?_ | (refine j_kIdx rfl ?_; first | refine j_idx rfl rfl rfl rfl rfl (by omega) rfl rfl rfl ?_ | refine j_idxz rfl rfl rfl rfl rfl ⟨by omega, by omega⟩ rfl rfl rfl ?_) | (refine j_kBin rfl ?_; first | refine j_in rfl rfl ⟨by omega, by omega⟩ rfl rfl ?_) | (refine j_kLen rfl ?_; first | refine j_len rfl rfl rfl rfl rfl rfl ?_) | (refine j_kCall rfl rfl rfl rfl ?_; first | refine jc (c_l02Parent _ _ _ hv h1 (by omega)) (LeL.refl _) rfl rfl ?_) | (refine j_kGuard rfl ?_; first | (refine (j_branch rfl rfl rfl (fun hb => ?_) (fun hb => ?_)) <;> skip; (fail_if_success guard_hyp hb : true = true); (fail_if_success guard_hyp hb : true = false); (fail_if_success guard_hyp hb : false = true); (fail_if_success guard_hyp hb : false = false))))
      | refine j_nil ?_
      | (refine r_go ?_; first | refine run_seq ?_ | refine run_region ?_ | refine run_cond_t rfl ?_ | (refine (run_if rfl (fun hb => ?_) (fun hb => ?_)) <;> first | (exfalso; omega) | skip) | (refine (run_ifn rfl (fun hb => ?_) (fun hb => ?_)) <;> first | (exfalso; omega) | skip) | refine run_block ?_ | refine run_ret ?_ | refine run_skip ?_ | refine run_regionD (by kernel_rfl) ?_)
      | refine seqQ_normal ?_ | refine seqQ_ret ?_ | refine blockQ_normal ?_ | refine blockQ_ret ?_ | refine loopQ_ret ?_)
      all_goals first
        | exact loopQ_nextD (k + 1) ⟨by omega, all_step kp (fun _ => ⟨by first | exact al_t (by assumption) | exact al_t' (by assumption), by assumption⟩)⟩ (by omega) (by first | exact List.Sublist.refl _ | exact sub1 | exact sub2 | exact sub3) ⟨rfl, rfl, rfl, nx _, trivial⟩
        | (refine end1 rfl (by first | exact List.Sublist.refl _ | exact sub1 | exact sub2 | exact sub3) ?_ (.inl rfl); first | exact rbF (fun q => by
            obtain ⟨q1, q2⟩ := (en.1 q).2.2.2.2 k hk
            exact (by first | exact absurd q1 (al_f (by assumption)) | exact absurd q1 (al_f' (by assumption)) | exact absurd q2 (by assumption))))
        | trace_state
    · repeat' (first
      | (refine j_go ?_; first
        | refine j_op0 rfl rfl rfl rfl ?_ | (refine j_kLen rfl ?_; first | refine j_len rfl rfl rfl rfl rfl rfl ?_))
      | refine j_nil ?_
      | (refine r_go ?_; first | refine run_seq ?_ | refine run_region ?_ | (refine (run_if rfl (fun hb => ?_) (fun hb => ?_)) <;> first | (exfalso; omega) | skip) | refine run_ret ?_ | refine run_exit ?_)
      | refine seqQ_normal ?_ | refine seqQ_exit ?_ | refine blockQ_eq ?_ | refine loopQ_exit ?_)
      exact end1 rfl (by first | exact List.Sublist.refl _ | exact sub1 | exact sub2 | exact sub3) (rbT (en.2 ⟨by first | exact al_t (by assumption) | exact al_t' (by assumption), by assumption, by assumption, hlk, fun i h => kp i h (by omega)⟩)) (.inl rfl)

theorem c_isEnabled1 (s : System) (t : State) (r : Rule) (x : Into) (hv : s.Ok) (ht : s.StateOk t) (hx : 0 ≤ x.cell ∧ x.cell ≤ (s.parents.length : Int) - 1) : Gives Try.prog 63 [.agg (encInto x), .ip (encState t), .ip (encSystem s), .ip (encRule r)] (.raw (.bool (dec (¬ IntoNow s t r x)))) := by
  refine fn_of_run tyOk ztOk mix Try.func63 rfl (by decide) Try.ntmps63 (fun w0 h => ?_)
  have h1 := ht.1
  repeat' (first
      | (refine j_go ?_; first
        | refine j_op0 rfl rfl rfl rfl ?_ | refine j_off rfl rfl rfl ?_ | (refine j_kIdx rfl ?_; first | refine j_idxz rfl rfl rfl rfl rfl ⟨by omega, by omega⟩ rfl rfl rfl ?_) | (refine j_kCall rfl rfl rfl rfl ?_; first | refine jc (c_parentNow _ _ _ hv h1 (by omega)) (LeL.refl _) rfl rfl ?_) | (refine j_kGuard rfl ?_; first | (refine (j_branch rfl rfl rfl (fun hb => ?_) (fun hb => ?_)) <;> skip; (fail_if_success guard_hyp hb : true = true); (fail_if_success guard_hyp hb : true = false); (fail_if_success guard_hyp hb : false = true); (fail_if_success guard_hyp hb : false = false))) | refine j_box rfl rfl rfl rfl rfl rfl ?_)
      | refine j_nil ?_
      | (refine r_go ?_; first | refine run_seq ?_ | refine run_region ?_ | refine run_ret ?_ | refine run_regionD (by kernel_rfl) ?_)
      | refine seqQ_normal ?_)
  all_goals (refine end1 rfl (by first | exact List.Sublist.refl _ | exact sub1 | exact sub2 | exact sub3) ?_ (.inl rfl); first | exact rbT (fun q => by exact (by first | exact absurd q.1 (al_f (by assumption)) | exact absurd q.1 (al_f' (by assumption)))) | exact rbN ⟨fun p q => p q.2, fun p q => p ⟨by first | exact al_t (by assumption) | exact al_t' (by assumption), q⟩⟩)

theorem c_isEnabled (s : System) (t : State) (r : Rule) (hv : s.Ok) (ht : s.StateOk t) (hr : s.RuleOk r) : Gives Try.prog 44 [.agg (encSystem s), .agg (encState t), .agg (encRule r)] (.raw (.bool (dec (EnP s t r)))) := by
  refine fn_of_run tyOk ztOk mix Try.func44 rfl (by decide) Try.ntmps44 (fun w0 h => ?_)
  have hl := hv.1.2.1
  have k8 := hv.1.1
  have h1 := ht.1
  have h2 := ht.2.1
  obtain ⟨c1, c2, c3, c4, c5, c6, c7, c8, c9, c10, c11⟩ := hr
  have hcl : r.cell.toNat < t.bags.length := by omega
  have hB := (ht.2.2.2.2 _ hcl).1
  have l0 := hB.2
  have l1 := c5.2
  have l2 := c6.2
  have l3 := c7.2
  have en := enP_iff (s := s) (bagOf_eq hcl)
  have hin : ∀ x ∈ r.into, 0 ≤ x.cell ∧ x.cell ≤ (s.parents.length : Int) - 1 := fun x hx => by
    obtain ⟨i, hi, rfl⟩ := List.getElem_of_mem hx
    exact (c11 i hi).1.1
  repeat' (first
      | (refine j_go ?_; first
        | refine j_op0 rfl rfl rfl rfl ?_ | refine j_off rfl rfl rfl ?_ | (refine j_kIdx rfl ?_; first | refine j_idxz rfl rfl rfl rfl rfl ⟨by omega, by omega⟩ rfl rfl rfl ?_) | (refine j_kCall rfl rfl rfl rfl ?_; first | refine jc (c_isWithin _ _ (by omega) (by omega)) (LeL.refl _) rfl rfl ?_ | refine jc (c_bagSize _ (BagK.bag (k := s.kinds) (by assumption))) (LeL.refl _) rfl rfl ?_ | refine jc (c_cfN _ _ (fun x => ¬ IntoNow s t r x) _ (fun x hx => c_isEnabled1 s t r x hv ht (hin x hx))) (LeL.refl _) rfl rfl ?_) | (refine j_kGuard rfl ?_; first | (refine (j_if rfl rfl rfl (fun hb => ?_) (fun hb => ?_)) <;> first | (exfalso; omega) | skip) | (refine (j_ifn rfl rfl rfl (fun hb => ?_) (fun hb => ?_)) <;> first | (exfalso; omega) | skip)) | refine j_box rfl rfl rfl rfl rfl rfl ?_)
      | refine j_nil ?_
      | (refine r_go ?_; first | refine run_seq ?_ | refine run_region ?_ | refine run_cond_t rfl ?_ | refine run_cond_f rfl ?_ | (refine (run_if rfl (fun hb => ?_) (fun hb => ?_)) <;> first | (exfalso; omega) | skip) | refine run_ret ?_ | refine run_skip ?_ | refine run_condn rfl (fun hb => ?_) (fun hb => ?_))
      | refine seqQ_normal ?_ | refine seqQ_ret ?_)
  all_goals (refine end1 rfl (by first | exact List.Sublist.refl _ | exact sub1 | exact sub2 | exact sub3) ?_ (.inl rfl); first | exact rbF (fun q => by
        obtain ⟨q1, q2, q3, q4, q5⟩ := en.1 q
        exact (by first | exact absurd q1 (al_f (by assumption)) | exact absurd q1 (al_f' (by assumption)) | exact absurd q2 (by assumption) | exact absurd q3 (by assumption) | exact q4 ⟨by assumption, by assumption⟩)) | exact rbN ⟨fun p => en.2 ⟨by first | exact al_t (by assumption) | exact al_t' (by assumption), by assumption, by assumption, by first | (intro q; exact absurd q.1 (by assumption)) | (intro q; exact absurd q.2 (by assumption)), fun i h => Classical.byContradiction fun q => p ⟨_, List.getElem_mem h, q⟩⟩, fun p ⟨x, hx, q⟩ => by
        obtain ⟨i, hi, rfl⟩ := List.getElem_of_mem hx
        exact q ((en.1 p).2.2.2.2 i hi)⟩)

end Go.Proofs.Ytlllmhjpcdcoiaa

/-
  Steps: which rules are applicable, what the reference and the program compute; IsHalted. No condition.
-/
namespace Go.Proofs.Ytlllmhjpcdcoiaa
open Go.AI
set_option maxRecDepth 8000
set_option maxHeartbeats 1600000

open Classical in
/-- The greatest rank among those of some rules that are so and that have a cell. -/
noncomputable def bst (init : Int) (en : Rule → Prop) (c : Int) : List Rule → Int
  | [] => init
  | r :: rs => bst (if en r ∧ r.cell = c then max init r.rank else init) en c rs
theorem bst_app {init : Int} {en : Rule → Prop} {c : Int} : ∀ (rs : List Rule) (init : Int) (r : Rule), bst init en c (rs ++ [r]) = (open Classical in if en r ∧ r.cell = c then max (bst init en c rs) r.rank else bst init en c rs)
  | [], _, _ => rfl
  | x :: rs, _, r => by simp only [List.cons_append, bst]; rw [bst_app (init := init) rs]
theorem bst_yes {init : Int} {en : Rule → Prop} {c : Int} {rs : List Rule} {k : Nat} (hk : k < rs.length) (he : en rs[k]) (hc : rs[k].cell = c) : bst init en c (rs.take (k + 1)) = max (bst init en c (rs.take k)) rs[k].rank := by
  rw [List.take_succ_eq_append_getElem hk, bst_app (init := init), if_pos ⟨he, hc⟩]
theorem bst_no {init : Int} {en : Rule → Prop} {c : Int} {rs : List Rule} {k : Nat} (hk : k < rs.length) (he : ¬ (en rs[k] ∧ rs[k].cell = c)) : bst init en c (rs.take (k + 1)) = bst init en c (rs.take k) := by
  rw [List.take_succ_eq_append_getElem hk, bst_app (init := init), if_neg he]
theorem bst_init {en : Rule → Prop} {c : Int} : ∀ (rs : List Rule) (init : Int), init ≤ bst init en c rs
  | [], _ => Int.le_refl _
  | x :: rs, init => by
    have := bst_init (en := en) (c := c) rs
    simp only [bst]
    split
    · have := this (max init x.rank); omega
    · exact this _
theorem bst_mem {en : Rule → Prop} {c : Int} : ∀ (rs : List Rule) (init : Int) (r : Rule), r ∈ rs → en r → r.cell = c → r.rank ≤ bst init en c rs
  | x :: rs, init, r, hr, he, hc => by
    simp only [bst]
    rcases List.mem_cons.1 hr with rfl | hr
    · rw [if_pos ⟨he, hc⟩]
      have := bst_init (en := en) (c := c) rs (max init r.rank); omega
    · exact bst_mem rs _ r hr he hc
theorem bst_or {en : Rule → Prop} {c : Int} : ∀ (rs : List Rule) (init : Int), bst init en c rs = init ∨ ∃ r ∈ rs, en r ∧ r.cell = c ∧ bst init en c rs = r.rank
  | [], _ => .inl rfl
  | x :: rs, init => by
    simp only [bst]
    split
    · rename_i h
      rcases bst_or (en := en) (c := c) rs (max init x.rank) with q | ⟨r, hr, h1, h2, h3⟩
      · by_cases hm : init ≤ x.rank
        · exact .inr ⟨x, by simp, h.1, h.2, by rw [q]; omega⟩
        · exact .inl (by rw [q]; omega)
      · exact .inr ⟨r, by simp [hr], h1, h2, h3⟩
    · rcases bst_or (en := en) (c := c) rs init with q | ⟨r, hr, h1, h2, h3⟩
      · exact .inl q
      · exact .inr ⟨r, by simp [hr], h1, h2, h3⟩
theorem bst_bnd {en : Rule → Prop} {c : Int} (rs : List Rule) (init : Int) (h : ∀ r ∈ rs, 0 ≤ r.rank ∧ r.rank ≤ 9) (hi : -1 ≤ init ∧ init ≤ 0) : -1 ≤ bst init en c rs ∧ bst init en c rs ≤ 9 := by
  refine ⟨by have := bst_init (en := en) (c := c) rs init; omega, ?_⟩
  rcases bst_or (en := en) (c := c) rs init with q | ⟨r, hr, _, _, q⟩
  · omega
  · have := h r hr; omega

/-- A rule is applicable. -/
def App (s : System) (t : State) (r : Rule) : Prop := EnP s t r ∧ ∀ x ∈ s.rules, EnP s t x → x.cell = r.cell → x.rank ≤ r.rank
theorem app_iff {s : System} {t : State} {init : Int} (hi : init ≤ 0) (hr : ∀ r ∈ s.rules, 0 ≤ r.rank ∧ r.rank ≤ 9) {r : Rule} (hm : r ∈ s.rules) (he : EnP s t r) : r.rank = bst init (EnP s t) r.cell s.rules ↔ App s t r := by
  constructor
  · intro e
    exact ⟨he, fun x hx h1 h2 => by rw [e]; exact bst_mem _ _ x hx h1 h2⟩
  · rintro ⟨_, h⟩
    have h1 := bst_mem s.rules init r hm he rfl
    rcases bst_or (en := EnP s t) (c := r.cell) s.rules init with q | ⟨x, hx, e1, e2, e3⟩
    · have := hr r hm; omega
    · have := h x hx e1 e2; omega

noncomputable def bstL (n : Nat) (init : Int) (en : Rule → Prop) (rs : List Rule) : List Int := (List.range n).map (fun c : Nat => bst init en (c : Int) rs)
theorem bstL_len (n : Nat) (init : Int) (en : Rule → Prop) (rs : List Rule) : (bstL n init en rs).length = n := by simp [bstL]
theorem bstL_get {n : Nat} {init : Int} {en : Rule → Prop} {rs : List Rule} {c : Nat} (h : c < (bstL n init en rs).length) : (bstL n init en rs)[c] = bst init en (c : Int) rs := by simp [bstL]
theorem bstL_nil (n : Nat) (init : Int) (en : Rule → Prop) : bstL n init en [] = List.replicate n init := by
  apply List.ext_getElem
  · simp [bstL]
  · intro i h1 h2; simp [bstL, bst]
theorem bstL_set {n : Nat} {init : Int} {en : Rule → Prop} {rs : List Rule} {k m : Nat} (hk : k < rs.length) (hm : rs[k].cell = (m : Int)) (hn : m < n) (he : en rs[k]) {v : Int} (hv : v = max (bst init en (m : Int) (rs.take k)) rs[k].rank) : (bstL n init en (rs.take k)).set m v = bstL n init en (rs.take (k + 1)) := by
  apply List.ext_getElem
  · simp [bstL]
  · intro i h1 h2
    rw [List.getElem_set, bstL_get, bstL_get]
    split
    · rename_i e; subst e; rw [hv, bst_yes hk he hm]
    · rename_i e; rw [bst_no hk (fun q => e (by have := q.2; omega))]
theorem bstL_skip {n : Nat} {init : Int} {en : Rule → Prop} {rs : List Rule} {k : Nat} (hk : k < rs.length) (he : ¬ en rs[k]) : bstL n init en (rs.take (k + 1)) = bstL n init en (rs.take k) := by
  apply List.ext_getElem
  · simp [bstL]
  · intro i h1 h2
    rw [bstL_get, bstL_get, bst_no hk (fun q => he q.1)]

theorem c_l00Max (x y : Int) : Gives Try.prog 39 [.int x, .int y] (.int (max x y)) := by
  refine fn_of_run tyOk ztOk mix Try.func39 rfl (by decide) Try.ntmps39 (fun w0 h => ?_)
  repeat' (first
      | (refine j_go ?_; first
        | refine j_op0 rfl rfl rfl rfl ?_)
      | refine j_nil ?_
      | (refine r_go ?_; first | refine run_seq ?_ | refine run_region ?_ | (refine (run_if rfl (fun hb => ?_) (fun hb => ?_)) <;> first | (exfalso; omega) | skip) | refine run_ret ?_ | refine run_skip ?_)
      | refine seqQ_normal ?_ | refine seqQ_ret ?_)
  all_goals exact end1 rfl (List.Sublist.refl _) (ai (by omega)) (.inl rfl)

theorem System.Ok.ranks {s : System} (h : s.Ok) : ∀ r ∈ s.rules, 0 ≤ r.rank ∧ r.rank ≤ 9 := fun r hr => by
  obtain ⟨i, hi, rfl⟩ := List.getElem_of_mem hr
  exact (h.2.2 i hi).1.2.1

noncomputable def enL (s : System) (t : State) (k : Nat) : List Bool := (s.rules.take k).map (fun r => dec (EnP s t r))
noncomputable def mixL (s : System) (t : State) (k : Nat) : List Bool := (s.rules.take k).map (fun r => dec (App s t r)) ++ (s.rules.drop k).map (fun r => dec (EnP s t r))
noncomputable def appL (s : System) (t : State) : List Bool := s.rules.map (fun r => dec (App s t r))
theorem enL_succ {s : System} {t : State} {k : Nat} (hk : k < s.rules.length) : enL s t k ++ [dec (EnP s t s.rules[k])] = enL s t (k + 1) := by
  unfold enL; rw [List.take_succ_eq_append_getElem hk, List.map_append]; rfl
theorem enL_len {s : System} {t : State} {k : Nat} (hk : k ≤ s.rules.length) : (enL s t k).length = k := by simp [enL]; omega
theorem mixL_len {s : System} {t : State} {k : Nat} (hk : k ≤ s.rules.length) : (mixL s t k).length = s.rules.length := by simp [mixL]; omega
theorem mixL_zero (s : System) (t : State) : mixL s t 0 = enL s t s.rules.length := by simp [mixL, enL]
theorem mixL_end (s : System) (t : State) : mixL s t s.rules.length = appL s t := by simp [mixL, appL]
theorem mixL_get {s : System} {t : State} {k : Nat} (hk : k < s.rules.length) : (mixL s t k)[k]'(by rw [mixL_len (by omega)]; exact hk) = dec (EnP s t s.rules[k]) := by
  unfold mixL
  rw [List.getElem_append_right (by simp; omega)]
  simp [Nat.min_eq_left (Nat.le_of_lt hk)]
theorem mixL_set {s : System} {t : State} {k : Nat} (hk : k < s.rules.length) {b : Bool} (hb : b = dec (App s t s.rules[k])) : (mixL s t k).set k b = mixL s t (k + 1) := by
  unfold mixL
  have e : ((s.rules.take k).map (fun r => dec (App s t r))).length = k := by simp; omega
  rw [List.set_append_right _ _ (by omega), e, Nat.sub_self, List.drop_eq_getElem_cons hk, List.map_cons, List.set_cons_zero, List.take_succ_eq_append_getElem hk, List.map_append, List.append_assoc, hb]
  rfl

theorem c_l03Applicable (s : System) (t : State) (hv : s.Ok) (ht : s.StateOk t) : Gives Try.prog 22 [.ip (encSystem s), .ip (encState t)] (.sl ((appL s t).map encB)) := by
  refine fn_of_run tyOk ztOk mix Try.func22 rfl (by decide) Try.ntmps22 (fun w0 h => ?_)
  have hl := hv.1.2.1
  have h16 := hv.2.1
  repeat' (first
      | (refine j_go ?_; first
        | refine j_op0 rfl rfl rfl rfl ?_ | (refine j_kLen rfl ?_; first | refine j_len rfl rfl rfl rfl rfl rfl ?_))
      | refine j_nil ?_
      | (refine r_go ?_; first | refine run_seq ?_ | refine run_region ?_)
      | refine seqQ_normal ?_)
  refine j_makeI (g := Go.AI.encI) 0 rfl rfl rfl rfl rfl rfl rfl rfl rfl (by omega) rfl rfl (fun b => ?_)
  repeat' (first
      | (refine j_go ?_; first
        | refine j_op0 rfl rfl rfl rfl ?_ | (refine j_kBsl rfl ?_; first | refine j_bs0 rfl rfl rfl rfl rfl rfl ?_))
      | refine j_nil ?_
      | (refine r_go ?_; first | refine run_seq ?_ | refine run_region ?_ | refine run_block ?_)
      | refine seqQ_normal ?_)
  refine run_view (view_none 4 0 rfl) ?_
  refine run_loop (fun x : Nat × Option Nat × Nat => [(0, .ip (encSystem s)), (1, .ip (encState t)), (5, .os (some b) s.parents.length s.parents.length), (6, .os x.2.1 (enL s t x.1).length x.2.2), (7, .int (x.1 : Int))]) (fun x => ⟨x.2.1, 4, x.2.2 * 1, ((enL s t x.1).map encB).flatten⟩ :: ⟨some b, 2, s.parents.length * 1, ((bstL s.parents.length 0 (EnP s t) (s.rules.take x.1)).map Go.AI.encI).flatten⟩ :: h)
      (fun x => x.1 ≤ s.rules.length) (fun x => s.rules.length - x.1) (0, none, 0) ⟨rfl, rfl, rfl, rfl, rfl, trivial⟩ (by rw [List.take_zero, bstL_nil]; rfl) (Nat.zero_le _) (fun ⟨k, ob, cp⟩ kl => ?_)
  dsimp only at kl ⊢
  have el := enL_len (t := t) kl
  by_cases hk : k < s.rules.length
  · have hr := (hv.2.2 k hk).1
    have hc := hr.1
    have hcm : s.rules[k].cell = ((s.rules[k].cell.toNat : Nat) : Int) := by omega
    have hg : (bstL s.parents.length 0 (EnP s t) (s.rules.take k))[s.rules[k].cell.toNat]'(by rw [bstL_len]; omega) = bst 0 (EnP s t) ((s.rules[k].cell.toNat : Nat) : Int) (s.rules.take k) := bstL_get _
    repeat' (first
      | (refine j_go ?_; first
        | refine j_op0 rfl rfl rfl rfl ?_ | (refine j_kIdx rfl ?_; first | refine j_idx rfl rfl rfl rfl rfl (by omega) rfl rfl rfl ?_) | (refine j_kLen rfl ?_; first | refine j_len rfl rfl rfl rfl rfl rfl ?_) | (refine j_kCall rfl rfl rfl rfl ?_; first | refine jc (c_l03Enabled _ _ _ hv ht hr) (LeL.refl _) rfl rfl ?_) | (refine j_kBsl rfl ?_; first | refine j_bsl rfl rfl rfl rfl rfl rfl rfl rfl rfl rfl rfl ?_))
      | refine j_nil ?_
      | (refine r_go ?_; first | refine run_seq ?_ | refine run_region ?_ | (refine (run_if rfl (fun hb => ?_) (fun hb => ?_)) <;> first | (exfalso; omega) | skip) | refine run_block ?_ | refine run_skip ?_)
      | refine seqQ_normal ?_)
    refine j_append 0 (g := encB) [dec (EnP s t s.rules[k])] rfl rfl rfl rfl rfl rfl rfl rfl rfl rfl rfl rfl (fun _ => rfl) (fun _ _ => rfl) ⟨by rw [el]; simp only [List.length_cons, List.length_nil]; omega, by rw [el]; simp only [List.length_cons, List.length_nil]; omega⟩ rfl rfl (fun b' cap' => ?_)
    rw [enL_succ hk]
    repeat' (first
      | (refine j_go ?_; first
        | refine j_op0 rfl rfl rfl rfl ?_ | (refine j_kBin rfl ?_; first | refine j_in rfl rfl ⟨by omega, by omega⟩ rfl rfl ?_))
      | refine j_nil ?_
      | (refine j_goO ?_; first
        | refine j_op0O rfl rfl rfl rfl ?_ | (refine j_kIdxO rfl ?_; first | refine j_midxzO rfl rfl rfl rfl rfl (by first | omega | (simp only [List.length_append, List.length_cons, List.length_nil]; omega)) rfl rfl ?_))
      | (refine r_go ?_; first | refine run_seq ?_ | refine run_region ?_ | (refine (run_if rfl (fun hb => ?_) (fun hb => ?_)) <;> first | (exfalso; omega) | skip) | refine run_skip ?_ | refine run_opn 10 [⟨0, true, false, 0⟩, ⟨1, true, false, 0⟩, ⟨2, true, false, 0⟩, ⟨3, true, false, 0⟩, ⟨4, true, false, 0⟩, ⟨5, true, false, 0⟩, ⟨6, true, false, 0⟩, ⟨7, true, false, 0⟩, ⟨8, true, false, 0⟩, ⟨9, true, false, 0⟩, ⟨10, true, false, 0⟩, ⟨11, true, false, 0⟩, ⟨12, true, false, 0⟩, ⟨13, true, false, 0⟩, ⟨14, true, false, 0⟩, ⟨15, true, false, 0⟩, ⟨16, true, false, 0⟩, ⟨17, true, false, 0⟩, ⟨18, false, true, 0⟩] rfl rfl (by kernel_rfl) ?_)
      | refine seqQ_normal ?_ | refine blockQ_normal ?_)
    · refine j_mloadEO 1 s.rules[k].cell.toNat (g := Go.AI.encI) (L := bstL s.parents.length 0 (EnP s t) (s.rules.take k)) (z := 1) rfl rfl rfl rfl rfl (fun _ => rfl) rfl (by rw [bstL_len]; omega) (fun _ => rfl) rfl rfl ?_
      rw [hg]
      repeat' (first
      | (refine j_goO ?_; first
        | refine j_op0O rfl rfl rfl rfl ?_ | (refine j_kIdxO rfl ?_; first | refine j_midxzO rfl rfl rfl rfl rfl (by first | omega | (simp only [List.length_append, List.length_cons, List.length_nil]; omega)) rfl rfl ?_) | (refine j_kCallO rfl rfl rfl rfl ?_; first | refine jcO (c_l00Max _ _) (LeL.refl _) rfl rfl ?_)))
      refine j_storeEO 1 s.rules[k].cell.toNat (g := Go.AI.encI) (max (bst 0 (EnP s t) ((s.rules[k].cell.toNat : Nat) : Int) (s.rules.take k)) s.rules[k].rank) rfl rfl rfl rfl rfl rfl rfl rfl rfl rfl (fun _ => rfl) rfl (by rw [bstL_len]; omega) (fun _ hk => nomatch hk) ?_
      rw [bstL_set hk hcm (by omega) (by assumption) rfl]
      repeat' (first
      | (refine j_go ?_; first
        | refine j_op0 rfl rfl rfl rfl ?_ | (refine j_kBin rfl ?_; first | refine j_in rfl rfl ⟨by omega, by omega⟩ rfl rfl ?_))
      | refine j_nil ?_
      | refine j_nilO ?_
      | (refine r_go ?_; first | refine run_region ?_)
      | refine seqQ_normal ?_ | refine blockQ_normal ?_)
      exact loopQ_next (k + 1, b', cap') (by dsimp only; omega) (by dsimp only; omega) rfl ⟨rfl, rfl, rfl, rfl, nx _, trivial⟩
    · exact loopQ_next (k + 1, b', cap') (by dsimp only; omega) (by dsimp only; omega) (by dsimp only; rw [bstL_skip hk (by assumption)]; rfl) ⟨rfl, rfl, rfl, rfl, nx _, trivial⟩
  · have hke : k = s.rules.length := by omega
    subst hke
    repeat' (first
      | (refine j_go ?_; first
        | refine j_op0 rfl rfl rfl rfl ?_ | (refine j_kLen rfl ?_; first | refine j_len rfl rfl rfl rfl rfl rfl ?_))
      | refine j_nil ?_
      | (refine r_go ?_; first | refine run_seq ?_ | refine run_region ?_ | (refine (run_if rfl (fun hb => ?_) (fun hb => ?_)) <;> first | (exfalso; omega) | skip) | refine run_block ?_ | refine run_exit ?_)
      | refine seqQ_normal ?_ | refine seqQ_exit ?_ | refine blockQ_eq ?_ | refine loopQ_exit ?_)
    refine run_loop (fun j : Nat => [(0, .ip (encSystem s)), (5, .os (some b) s.parents.length s.parents.length), (6, .os ob (mixL s t j).length cp), (10, .int (j : Int))]) (fun j => ⟨ob, 4, cp * 1, ((mixL s t j).map encB).flatten⟩ :: ⟨some b, 2, s.parents.length * 1, ((bstL s.parents.length 0 (EnP s t) (s.rules.take s.rules.length)).map Go.AI.encI).flatten⟩ :: h)
      (fun j => j ≤ s.rules.length) (fun j => s.rules.length - j) 0 ⟨rfl, rfl, (by rw [mixL_zero]; rfl), rfl, trivial⟩ (by rw [mixL_zero]) (Nat.zero_le _) (fun j jl => ?_)
    have ml := mixL_len (t := t) jl
    by_cases hj : j < s.rules.length
    · have hr := (hv.2.2 j hj).1
      have hc := hr.1
      have hcm : s.rules[j].cell = ((s.rules[j].cell.toNat : Nat) : Int) := by omega
      have hg : (bstL s.parents.length 0 (EnP s t) (s.rules.take s.rules.length))[s.rules[j].cell.toNat]'(by rw [bstL_len]; omega) = bst 0 (EnP s t) s.rules[j].cell s.rules := by rw [bstL_get, ← hcm, List.take_length]
      have bb := bst_bnd (en := EnP s t) (c := s.rules[j].cell) s.rules 0 hv.ranks ⟨by omega, by omega⟩
      have hne : ((mixL s t j).map encB).flatten ≠ [] := fun q => by
        have h3 : (((mixL s t j).map encB).flatten).length = 0 := by rw [q]; rfl
        rw [flat_len (f := encB) (z := 1) (fun _ => rfl), ml] at h3
        omega
      refine run_some 0 rfl hne (fun b2 hb2 => ?_)
      subst hb2
      repeat' (first
      | (refine j_go ?_; first
        | refine j_op0 rfl rfl rfl rfl ?_ | (refine j_kLen rfl ?_; first | refine j_len rfl rfl rfl rfl rfl rfl ?_))
      | refine j_nil ?_
      | (refine j_goO ?_; first
        | refine j_op0O rfl rfl rfl rfl ?_ | (refine j_kIdxO rfl ?_; first | refine j_midxO rfl rfl rfl rfl rfl (by first | omega | (simp only [List.length_append, List.length_cons, List.length_nil]; omega)) rfl rfl ?_))
      | (refine r_go ?_; first | refine run_seq ?_ | refine run_region ?_ | (refine (run_if rfl (fun hb => ?_) (fun hb => ?_)) <;> first | (exfalso; omega) | skip) | refine run_block ?_ | refine run_skip ?_ | refine run_opn 14 [⟨0, true, false, 0⟩, ⟨1, true, false, 0⟩, ⟨2, true, false, 0⟩, ⟨3, true, false, 0⟩, ⟨4, true, false, 0⟩, ⟨5, true, false, 0⟩, ⟨6, true, false, 0⟩, ⟨7, true, false, 0⟩, ⟨8, true, false, 0⟩, ⟨9, true, false, 0⟩, ⟨10, true, false, 0⟩, ⟨11, true, false, 0⟩, ⟨12, true, false, 0⟩, ⟨13, true, false, 0⟩, ⟨14, true, false, 0⟩, ⟨15, true, false, 0⟩, ⟨16, true, false, 0⟩, ⟨17, true, false, 0⟩, ⟨18, true, false, 0⟩, ⟨19, true, false, 0⟩, ⟨20, true, false, 0⟩, ⟨21, true, false, 0⟩, ⟨22, true, false, 0⟩, ⟨23, true, false, 0⟩, ⟨24, true, false, 0⟩, ⟨25, true, false, 0⟩, ⟨26, true, false, 0⟩, ⟨27, true, false, 0⟩, ⟨28, true, false, 0⟩, ⟨29, false, true, 0⟩] rfl rfl (by kernel_rfl) ?_)
      | refine seqQ_normal ?_)
      refine j_mloadEO 0 j (g := encB) (L := mixL s t j) (z := 1) rfl rfl rfl rfl rfl (fun _ => rfl) rfl (by omega) (fun _ => rfl) rfl rfl ?_
      rw [mixL_get hj]
      repeat' (first
      | (refine j_goO ?_; first
        | refine j_op0O rfl rfl rfl rfl ?_ | refine j_offO rfl rfl rfl ?_ | (refine j_kIdxO rfl ?_; first | refine j_idxO rfl rfl rfl rfl rfl (by omega) rfl rfl rfl ?_ | refine j_midxO rfl rfl rfl rfl rfl (by first | omega | (simp only [List.length_append, List.length_cons, List.length_nil]; omega)) rfl rfl ?_ | refine j_midxzO rfl rfl rfl rfl rfl (by first | omega | (simp only [List.length_append, List.length_cons, List.length_nil]; omega)) rfl rfl ?_) | (refine j_kGuardO rfl ?_; first | (refine (j_ifO rfl rfl rfl (fun hb => ?_) (fun hb => ?_)) <;> first | (exfalso; omega) | skip))))
      · have he : EnP s t s.rules[j] := by assumption
        refine j_mloadEO 1 s.rules[j].cell.toNat (g := Go.AI.encI) (L := bstL s.parents.length 0 (EnP s t) (s.rules.take s.rules.length)) (z := 1) rfl rfl rfl rfl rfl (fun _ => rfl) rfl (by rw [bstL_len]; omega) (fun _ => rfl) rfl rfl ?_
        rw [hg]
        repeat' (first
      | (refine j_goO ?_; first
        | refine j_op0O rfl rfl rfl rfl ?_ | (refine j_kIdxO rfl ?_; first | refine j_midxO rfl rfl rfl rfl rfl (by first | omega | (simp only [List.length_append, List.length_cons, List.length_nil]; omega)) rfl rfl ?_)))
        refine j_storeEO 0 j (g := encB) (dec (s.rules[j].rank = bst 0 (EnP s t) s.rules[j].cell s.rules)) rfl rfl rfl rfl rfl rfl rfl rfl rfl rfl (fun _ => rfl) rfl (by omega) (fun _ hk => nomatch hk) ?_
        rw [mixL_set hj (dec_congr (app_iff (by omega) hv.ranks (List.getElem_mem hj) he))]
        repeat' (first
      | (refine j_go ?_; first
        | refine j_op0 rfl rfl rfl rfl ?_ | (refine j_kBin rfl ?_; first | refine j_in rfl rfl ⟨by omega, by omega⟩ rfl rfl ?_))
      | refine j_nil ?_
      | refine j_nilO ?_
      | (refine r_go ?_; first | refine run_region ?_)
      | refine seqQ_normal ?_ | refine blockQ_normal ?_)
        exact loopQ_next (j + 1) (by omega) (by omega) rfl ⟨rfl, rfl, (by rw [ml, ← mixL_len (t := t) (show j + 1 ≤ s.rules.length by omega)]; rfl), nx _, trivial⟩
      · refine j_storeEO 0 j (g := encB) false rfl rfl rfl rfl rfl rfl rfl rfl rfl rfl (fun _ => rfl) rfl (by omega) (fun _ hk => nomatch hk) ?_
        rw [mixL_set hj (dec_f (fun q => absurd q.1 (by assumption))).symm]
        repeat' (first
      | (refine j_go ?_; first
        | refine j_op0 rfl rfl rfl rfl ?_ | (refine j_kBin rfl ?_; first | refine j_in rfl rfl ⟨by omega, by omega⟩ rfl rfl ?_))
      | refine j_nil ?_
      | refine j_nilO ?_
      | (refine r_go ?_; first | refine run_region ?_)
      | refine seqQ_normal ?_ | refine blockQ_normal ?_)
        exact loopQ_next (j + 1) (by omega) (by omega) rfl ⟨rfl, rfl, (by rw [ml, ← mixL_len (t := t) (show j + 1 ≤ s.rules.length by omega)]; rfl), nx _, trivial⟩
    · have hje : j = s.rules.length := by omega
      subst hje
      repeat' (first
      | (refine j_go ?_; first
        | refine j_op0 rfl rfl rfl rfl ?_ | (refine j_kLen rfl ?_; first | refine j_len rfl rfl rfl rfl rfl rfl ?_))
      | refine j_nil ?_
      | (refine r_go ?_; first | refine run_seq ?_ | refine run_region ?_ | (refine (run_if rfl (fun hb => ?_) (fun hb => ?_)) <;> first | (exfalso; omega) | skip) | refine run_ret ?_ | refine run_exit ?_)
      | refine seqQ_normal ?_ | refine seqQ_exit ?_ | refine blockQ_eq ?_ | refine loopQ_exit ?_)
      refine end_view (view_freeze (g := encB) (z := 1) (ys := mixL s t s.rules.length) 0 4 rfl rfl rfl (fun _ => rfl) rfl rfl) ?_
      exact end1 rfl sub1 (by rw [mixL_end]) (.inl rfl)

end Go.Proofs.Ytlllmhjpcdcoiaa

/-
  Steps: the program's list of applicable rules; IsHalted. No condition.
-/
namespace Go.Proofs.Ytlllmhjpcdcoiaa
open Go.AI
set_option maxRecDepth 8000
set_option maxHeartbeats 1600000

theorem rep_set {α : Type} {a z : α} {m k : Nat} (hk : k < m) : (List.replicate k a ++ List.replicate (m - k) z).set k a = List.replicate (k + 1) a ++ List.replicate (m - (k + 1)) z := by
  have e : m - k = (m - (k + 1)) + 1 := by omega
  rw [e, List.replicate_succ, List.set_append_right _ _ (by simp), List.length_replicate, Nat.sub_self, List.set_cons_zero, List.replicate_succ' (n := k), List.append_assoc]
  rfl

noncomputable def idxL (s : System) (t : State) (k : Nat) : List Int := ((List.range k).filter (fun i => dec (∃ h : i < s.rules.length, App s t s.rules[i]))).map (fun i : Nat => (i : Int))
theorem idxL_yes {s : System} {t : State} {k : Nat} (hk : k < s.rules.length) (ha : App s t s.rules[k]) : idxL s t k ++ [(k : Int)] = idxL s t (k + 1) := by
  unfold idxL
  rw [List.range_succ, List.filter_append, List.map_append, List.filter_cons_of_pos (by exact dec_t ⟨hk, ha⟩)]
  rfl
theorem idxL_no {s : System} {t : State} {k : Nat} (hk : k < s.rules.length) (ha : ¬ App s t s.rules[k]) : idxL s t k = idxL s t (k + 1) := by
  unfold idxL
  rw [List.range_succ, List.filter_append, List.map_append, List.filter_cons_of_neg (by rw [dec_f (fun ⟨_, q⟩ => ha q)]; simp)]
  simp
theorem idxL_len (s : System) (t : State) (k : Nat) : (idxL s t k).length ≤ k := by
  unfold idxL
  rw [List.length_map]
  exact Nat.le_trans (List.length_filter_le _ _) (by simp)
theorem appL_get {s : System} {t : State} {k : Nat} (hk : k < (appL s t).length) : (appL s t)[k] = dec (App s t (s.rules[k]'(by simpa [appL] using hk))) := by simp [appL]
theorem appL_len (s : System) (t : State) : (appL s t).length = s.rules.length := by simp [appL]

theorem c_l03Both (s : System) (t : State) : Gives Try.prog 21 [.ip (encSystem s), .ip (encState t)] (.raw (.bool (dec (s.Ok ∧ s.StateOk t)))) := by
  refine fn_of_run tyOk ztOk mix Try.func21 rfl (by decide) Try.ntmps21 (fun w0 h => ?_)
  repeat' (first
      | (refine j_go ?_; first
        | refine j_op0 rfl rfl rfl rfl ?_ | refine j_off rfl rfl rfl ?_ | (refine j_kCall rfl rfl rfl rfl ?_; first | refine jc (c_l02Ok _) (LeL.refl _) rfl rfl ?_) | (refine j_kGuard rfl ?_; first | (refine (j_if rfl rfl rfl (fun hb => ?_) (fun hb => ?_)) <;> first | (exfalso; omega) | skip)))
      | refine j_nil ?_
      | (refine r_go ?_; first | refine run_seq ?_ | refine run_region ?_ | refine run_ret ?_)
      | refine seqQ_normal ?_)
  · have hv : s.Ok := by assumption
    repeat' (first
      | (refine j_go ?_; first
        | refine j_op0 rfl rfl rfl rfl ?_ | (refine j_kCall rfl rfl rfl rfl ?_; first | refine jc (c_l02State _ _ hv.1.2.1) (LeL.refl _) rfl rfl ?_))
      | refine j_nil ?_
      | (refine r_go ?_; first | refine run_ret ?_)
      | refine seqQ_normal ?_)
    exact end1 rfl (List.Sublist.refl _) (rbD ⟨fun q => ⟨hv, q⟩, fun q => q.2⟩) (.inl rfl)
  · exact end1 rfl (by first | exact List.Sublist.refl _ | exact sub1 | exact sub2 | exact sub3) (rbF (fun q => hb q.1)) (.inl rfl)

end Go.Proofs.Ytlllmhjpcdcoiaa
