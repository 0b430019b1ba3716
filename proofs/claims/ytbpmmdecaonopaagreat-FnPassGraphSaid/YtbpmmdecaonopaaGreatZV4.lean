/-
  The graph of stocks, by the reference. No condition.
-/
import Derived.Test.YtbpmmdecaonopaaGreatZV2
import Derived.Test.YtbpmmdecaonopaaGreatZJN
import Derived.Test.YtbpmmdecaonopaaGreatZP
namespace Go.Proofs.YtbpmmdecaonopaaGreat
open Go.AI Go.RowKit
set_option maxRecDepth 8000
set_option maxHeartbeats 3200000

section
variable {C : Cx} {n : Nat} {Q : Exit → Env → Heap → Prop} {e : Env} {h : Heap} {l os : List Oper} {o : Oper} {f : Fl} {fs : List Fl} {B : List (Nat × Blk)}
end
/-- How far a number has been put to its place. -/
def PutAt (l : List Int) (n : Int) (k : Nat) (out : List Int) (done : Bool) : Prop := (done = false → out = l.take k ∧ ∀ x ∈ l.take k, x < n) ∧ (done = true → out = putK (l.take k) n ∧ ∃ x ∈ l.take k, n ≤ x)
theorem PutAt.len {l : List Int} {n : Int} {k : Nat} {out : List Int} {done : Bool} (h : PutAt l n k out done) : out.length ≤ k + 1 := by
  cases done with
  | false => rw [(h.1 rfl).1, List.length_take]; omega
  | true => rw [(h.2 rfl).1]; have := putK_len (l.take k) n; rw [List.length_take] at this; omega
theorem PutAt.lt {l : List Int} {n : Int} {k : Nat} {out : List Int} (h : PutAt l n k out false) (hk : k < l.length) (hl : l[k] < n) : PutAt l n (k + 1) (out ++ [l[k]]) false :=
  ⟨fun _ => ⟨by rw [(h.1 rfl).1, List.take_succ_eq_append_getElem hk], fun x hx => by
    rw [List.take_succ_eq_append_getElem hk] at hx
    rcases List.mem_append.1 hx with q | q
    · exact (h.1 rfl).2 x q
    · rw [List.mem_singleton] at q; omega⟩, fun q => absurd q (by decide)⟩
theorem PutAt.eq {l : List Int} {n : Int} {k : Nat} {out : List Int} (h : PutAt l n k out false) (hk : k < l.length) (hl : l[k] = n) : PutAt l n (k + 1) (out ++ [l[k]]) true :=
  ⟨fun q => absurd q (by decide), fun _ => ⟨by rw [(h.1 rfl).1, List.take_succ_eq_append_getElem hk, hl, putK_eq (h.1 rfl).2], l[k], by rw [List.take_succ_eq_append_getElem hk]; exact List.mem_append_right _ (List.mem_singleton.2 rfl), by omega⟩⟩
theorem PutAt.gt {l : List Int} {n : Int} {k : Nat} {out : List Int} (h : PutAt l n k out false) (hk : k < l.length) (hl : n < l[k]) : PutAt l n (k + 1) ((out ++ [n]) ++ [l[k]]) true :=
  ⟨fun q => absurd q (by decide), fun _ => ⟨by rw [(h.1 rfl).1, List.take_succ_eq_append_getElem hk, putK_app hl, putK_lt (h.1 rfl).2], l[k], by rw [List.take_succ_eq_append_getElem hk]; exact List.mem_append_right _ (List.mem_singleton.2 rfl), by omega⟩⟩
theorem PutAt.more {l : List Int} {n : Int} {k : Nat} {out : List Int} (h : PutAt l n k out true) (ha : Asc l) (hk : k < l.length) : PutAt l n (k + 1) (out ++ [l[k]]) true := by
  obtain ⟨h1, x, hx, hn⟩ := h.2 rfl
  obtain ⟨j, hj, rfl⟩ := List.getElem_of_mem hx
  rw [List.length_take] at hj
  rw [List.getElem_take] at hn hx
  have := (List.pairwise_iff_getElem.1 ha) j k (by omega) hk (by omega)
  refine ⟨fun q => absurd q (by decide), fun _ => ⟨by rw [h1, List.take_succ_eq_append_getElem hk, putK_app (by omega)], l[j], ?_, hn⟩⟩
  rw [List.take_succ_eq_append_getElem hk]
  exact List.mem_append_left _ hx
theorem c_l00PutG (l : List Int) (n : Int) (ha : Asc l) (hn : l.length ≤ 1000000) : Gives Tryz.prog 39 [.sl (l.map Go.AI.encI), .int n] (.sl ((putK l n).map Go.AI.encI)) := by
  refine fn_of_run tyOk ztOk mix Tryz.func39 rfl (by decide) Tryz.ntmps39 (fun w0 h => ?_)
  repeat' (first
      | (refine j_go ?_; first
        | refine j_op0 rfl rfl rfl rfl ?_ | (refine j_kBsl rfl ?_; first | refine j_bs0 rfl rfl rfl rfl rfl rfl ?_))
      | refine j_nil ?_
      | (refine r_go ?_; first | refine run_seq ?_ | refine run_region ?_ | refine run_block ?_)
      | refine seqQ_normal ?_)
  refine run_view (view_none 2 0 rfl) ?_
  refine run_loop (fun x : (Nat × List Int × Bool) × Option Nat × Nat => [(0, .sl (l.map Go.AI.encI)), (1, .int n), (5, .os x.2.1 x.1.2.1.length x.2.2), (6, .raw (.bool x.1.2.2)), (7, .int (x.1.1 : Int))])
    (fun x => ⟨x.2.1, 2, x.2.2 * 1, (x.1.2.1.map Go.AI.encI).flatten⟩ :: h) (fun x => x.1.1 ≤ l.length ∧ PutAt l n x.1.1 x.1.2.1 x.1.2.2) (fun x => l.length - x.1.1) ((0, [], false), none, 0) ⟨rfl, rfl, rfl, rfl, rfl, trivial⟩ rfl ⟨Nat.zero_le _, fun _ => ⟨rfl, fun x q => absurd q List.not_mem_nil⟩, fun q => nomatch q⟩ (fun ⟨⟨k, out, done⟩, ob, cp⟩ ⟨kl, R⟩ => ?_)
  dsimp only at kl R ⊢
  have ol := R.len
  by_cases hk : k < l.length
  case pos =>
    cases done
    case true =>
      repeat' (first
      | (refine j_go ?_; first
        | refine j_op0 rfl rfl rfl rfl ?_ | refine j_off rfl rfl rfl ?_ | (refine j_kIdx rfl ?_; first | refine j_idx rfl rfl rfl rfl rfl (by omega) rfl rfl rfl ?_) | (refine j_kLen rfl ?_; first | refine j_len rfl rfl rfl rfl rfl rfl ?_) | (refine j_kBsl rfl ?_; first | refine j_bsl rfl rfl rfl rfl rfl rfl rfl rfl rfl rfl rfl ?_))
      | refine j_nil ?_
      | (refine r_go ?_; first | refine run_seq ?_ | refine run_region ?_ | refine run_cond_f rfl ?_ | (refine (run_if rfl (fun hb => ?_) (fun hb => ?_)) <;> first | (exfalso; omega) | skip) | refine run_block ?_ | refine run_skip ?_)
      | refine seqQ_normal ?_)
      refine j_append 0 (g := Go.AI.encI) [l[k]] rfl rfl rfl rfl rfl rfl rfl rfl rfl rfl rfl rfl (fun _ => rfl) (fun _ _ => rfl) ⟨by simp only [List.length_cons, List.length_nil]; omega, by simp only [List.length_cons, List.length_nil]; omega⟩ rfl rfl (fun b' cap' => ?_)
      repeat' (first
      | (refine j_go ?_; first
        | refine j_op0 rfl rfl rfl rfl ?_ | (refine j_kBin rfl ?_; first | refine j_in rfl rfl ⟨by omega, by omega⟩ rfl rfl ?_))
      | refine j_nil ?_
      | (refine r_go ?_; first | refine run_region ?_)
      | refine seqQ_normal ?_ | refine blockQ_normal ?_)
      exact loopQ_next ((k + 1, out ++ [l[k]], true), b', cap') ⟨by dsimp only; omega, R.more ha hk⟩ (by dsimp only; omega) rfl ⟨rfl, rfl, rfl, rfl, nx _, trivial⟩
    case false =>
      by_cases h1 : l[k] < n
      case pos =>
        repeat' (first
      | (refine j_go ?_; first
        | refine j_op0 rfl rfl rfl rfl ?_ | (refine j_kIdx rfl ?_; first | refine j_idx rfl rfl rfl rfl rfl (by omega) rfl rfl rfl ?_) | (refine j_kLen rfl ?_; first | refine j_len rfl rfl rfl rfl rfl rfl ?_) | (refine j_kBsl rfl ?_; first | refine j_bsl rfl rfl rfl rfl rfl rfl rfl rfl rfl rfl rfl ?_))
      | refine j_nil ?_
      | (refine r_go ?_; first | refine run_seq ?_ | refine run_region ?_ | (refine (run_if rfl (fun hb => ?_) (fun hb => ?_)) <;> first | (exfalso; omega) | skip) | refine run_block ?_ | refine run_skip ?_)
      | refine seqQ_normal ?_)
        all_goals try (exfalso; omega)
        refine j_append 0 (g := Go.AI.encI) [l[k]] rfl rfl rfl rfl rfl rfl rfl rfl rfl rfl rfl rfl (fun _ => rfl) (fun _ _ => rfl) ⟨by simp only [List.length_cons, List.length_nil]; omega, by simp only [List.length_cons, List.length_nil]; omega⟩ rfl rfl (fun b' cap' => ?_)
        repeat' (first
      | (refine j_go ?_; first
        | refine j_op0 rfl rfl rfl rfl ?_ | (refine j_kBin rfl ?_; first | refine j_in rfl rfl ⟨by omega, by omega⟩ rfl rfl ?_))
      | refine j_nil ?_
      | (refine r_go ?_; first | refine run_region ?_)
      | refine seqQ_normal ?_ | refine blockQ_normal ?_)
        exact loopQ_next ((k + 1, out ++ [l[k]], false), b', cap') ⟨by dsimp only; omega, R.lt hk h1⟩ (by dsimp only; omega) rfl ⟨rfl, rfl, rfl, rfl, nx _, trivial⟩
      case neg =>
        by_cases h2 : l[k] = n
        case pos =>
          repeat' (first
      | (refine j_go ?_; first
        | refine j_op0 rfl rfl rfl rfl ?_ | (refine j_kIdx rfl ?_; first | refine j_idx rfl rfl rfl rfl rfl (by omega) rfl rfl rfl ?_) | (refine j_kLen rfl ?_; first | refine j_len rfl rfl rfl rfl rfl rfl ?_) | (refine j_kBsl rfl ?_; first | refine j_bsl rfl rfl rfl rfl rfl rfl rfl rfl rfl rfl rfl ?_))
      | refine j_nil ?_
      | (refine r_go ?_; first | refine run_seq ?_ | refine run_region ?_ | (refine (run_if rfl (fun hb => ?_) (fun hb => ?_)) <;> first | (exfalso; omega) | skip) | refine run_block ?_ | refine run_skip ?_)
      | refine seqQ_normal ?_)
          all_goals try (exfalso; omega)
          refine j_append 0 (g := Go.AI.encI) [l[k]] rfl rfl rfl rfl rfl rfl rfl rfl rfl rfl rfl rfl (fun _ => rfl) (fun _ _ => rfl) ⟨by simp only [List.length_cons, List.length_nil]; omega, by simp only [List.length_cons, List.length_nil]; omega⟩ rfl rfl (fun b' cap' => ?_)
          repeat' (first
      | (refine j_go ?_; first
        | refine j_op0 rfl rfl rfl rfl ?_ | (refine j_kBin rfl ?_; first | refine j_in rfl rfl ⟨by omega, by omega⟩ rfl rfl ?_))
      | refine j_nil ?_
      | (refine r_go ?_; first | refine run_region ?_)
      | refine seqQ_normal ?_ | refine blockQ_normal ?_)
          exact loopQ_next ((k + 1, out ++ [l[k]], true), b', cap') ⟨by dsimp only; omega, R.eq hk h2⟩ (by dsimp only; omega) rfl ⟨rfl, rfl, rfl, rfl, nx _, trivial⟩
        case neg =>
          repeat' (first
      | (refine j_go ?_; first
        | refine j_op0 rfl rfl rfl rfl ?_ | (refine j_kIdx rfl ?_; first | refine j_idx rfl rfl rfl rfl rfl (by omega) rfl rfl rfl ?_) | (refine j_kLen rfl ?_; first | refine j_len rfl rfl rfl rfl rfl rfl ?_) | (refine j_kBsl rfl ?_; first | refine j_bsl rfl rfl rfl rfl rfl rfl rfl rfl rfl rfl rfl ?_))
      | refine j_nil ?_
      | (refine r_go ?_; first | refine run_seq ?_ | refine run_region ?_ | (refine (run_if rfl (fun hb => ?_) (fun hb => ?_)) <;> first | (exfalso; omega) | skip) | refine run_block ?_ | refine run_skip ?_)
      | refine seqQ_normal ?_)
          all_goals try (exfalso; omega)
          refine j_append 0 (g := Go.AI.encI) [n] rfl rfl rfl rfl rfl rfl rfl rfl rfl rfl rfl rfl (fun _ => rfl) (fun _ _ => rfl) ⟨by simp only [List.length_cons, List.length_nil]; omega, by simp only [List.length_cons, List.length_nil]; omega⟩ rfl rfl (fun b' cap' => ?_)
          repeat' (first
      | (refine j_go ?_; first
        | refine j_op0 rfl rfl rfl rfl ?_ | (refine j_kIdx rfl ?_; first | refine j_idx rfl rfl rfl rfl rfl (by omega) rfl rfl rfl ?_) | (refine j_kBsl rfl ?_; first | refine j_bsl rfl rfl rfl rfl rfl rfl rfl rfl rfl rfl rfl ?_))
      | refine j_nil ?_
      | (refine r_go ?_; first | refine run_region ?_)
      | refine seqQ_normal ?_)
          refine j_append 0 (g := Go.AI.encI) [l[k]] rfl rfl rfl rfl rfl rfl rfl rfl rfl rfl rfl rfl (fun _ => rfl) (fun _ _ => rfl) ⟨by simp only [List.length_append, List.length_cons, List.length_nil]; omega, by simp only [List.length_append, List.length_cons, List.length_nil]; omega⟩ rfl rfl (fun b' cap' => ?_)
          repeat' (first
      | (refine j_go ?_; first
        | refine j_op0 rfl rfl rfl rfl ?_ | (refine j_kBin rfl ?_; first | refine j_in rfl rfl ⟨by omega, by omega⟩ rfl rfl ?_))
      | refine j_nil ?_
      | (refine r_go ?_; first | refine run_region ?_)
      | refine seqQ_normal ?_ | refine blockQ_normal ?_)
          exact loopQ_next ((k + 1, (out ++ [n]) ++ [l[k]], true), b', cap') ⟨by dsimp only; omega, R.gt hk (by omega)⟩ (by dsimp only; omega) rfl ⟨rfl, rfl, rfl, rfl, nx _, trivial⟩
  case neg =>
    have hke : k = l.length := by omega
    subst hke
    cases done
    case true =>
      have e := (R.2 rfl).1
      rw [List.take_length] at e
      repeat' (first
      | (refine j_go ?_; first
        | refine j_op0 rfl rfl rfl rfl ?_ | (refine j_kLen rfl ?_; first | refine j_len rfl rfl rfl rfl rfl rfl ?_))
      | refine j_nil ?_
      | (refine r_go ?_; first | refine run_seq ?_ | refine run_region ?_ | refine run_cond_f rfl ?_ | (refine (run_if rfl (fun hb => ?_) (fun hb => ?_)) <;> first | (exfalso; omega) | skip) | refine run_ret ?_ | refine run_exit ?_ | refine run_skip ?_)
      | refine seqQ_normal ?_ | refine seqQ_exit ?_ | refine blockQ_eq ?_ | refine loopQ_exit ?_)
      refine end_view (view_freeze (g := Go.AI.encI) (z := 1) (ys := out) 0 4 rfl rfl rfl (fun _ => rfl) rfl rfl) ?_
      exact end1 rfl (List.Sublist.refl _) (by rw [e]) (.inl rfl)
    case false =>
      obtain ⟨e, hlt⟩ := R.1 rfl
      rw [List.take_length] at e hlt
      repeat' (first
      | (refine j_go ?_; first
        | refine j_op0 rfl rfl rfl rfl ?_ | (refine j_kLen rfl ?_; first | refine j_len rfl rfl rfl rfl rfl rfl ?_) | (refine j_kBsl rfl ?_; first | refine j_bsl rfl rfl rfl rfl rfl rfl rfl rfl rfl rfl rfl ?_))
      | refine j_nil ?_
      | (refine r_go ?_; first | refine run_seq ?_ | refine run_region ?_ | refine run_cond_t rfl ?_ | (refine (run_if rfl (fun hb => ?_) (fun hb => ?_)) <;> first | (exfalso; omega) | skip) | refine run_exit ?_)
      | refine seqQ_normal ?_ | refine seqQ_exit ?_ | refine blockQ_eq ?_ | refine loopQ_exit ?_)
      refine j_append 0 (g := Go.AI.encI) [n] rfl rfl rfl rfl rfl rfl rfl rfl rfl rfl rfl rfl (fun _ => rfl) (fun _ _ => rfl) ⟨by simp only [List.length_cons, List.length_nil]; omega, by simp only [List.length_cons, List.length_nil]; omega⟩ rfl rfl (fun b' cap' => ?_)
      repeat' (first
      | (refine j_go ?_; first
        | refine j_op0 rfl rfl rfl rfl ?_)
      | refine j_nil ?_
      | (refine r_go ?_; first | refine run_seq ?_ | refine run_region ?_ | refine run_ret ?_)
      | refine seqQ_normal ?_)
      refine end_view (view_freeze (g := Go.AI.encI) (z := 1) (ys := out ++ [n]) 0 4 rfl rfl rfl (fun _ => rfl) rfl rfl) ?_
      exact end1 rfl (List.Sublist.refl _) (by rw [e, putK_lt hlt]) (.inl rfl)
theorem c_l06Asked (p : Passing) (s : Stock) (m : Int) (hv : p.Ok) (hs : p.StockOk s) (hm : 1 ≤ m ∧ m ≤ 3) : Gives Tryz.prog 29 [.ip (encPassing p), .ip (encStock s), .int m] (.int 0) := by
  refine fn_of_run tyOk ztOk mix Tryz.func29 rfl (by decide) Tryz.ntmps29 (fun w0 h => ?_)
  have cC := c_l06Code p s
  rw [cd2_o hv hs] at cC
  repeat' (first
      | (refine j_go ?_; first
        | refine j_op0 rfl rfl rfl rfl ?_ | (refine j_kCall rfl rfl rfl rfl ?_; first | refine jc (cC) (LeL.refl _) rfl rfl ?_ | refine jc (c_l06Mode m) (LeL.refl _) rfl rfl ?_))
      | refine j_nil ?_
      | (refine r_go ?_; first | refine run_seq ?_ | refine run_region ?_ | (refine (run_ifn rfl (fun hb => ?_) (fun hb => ?_)) <;> first | (exfalso; omega) | skip) | refine run_ret ?_ | refine run_skip ?_)
      | refine seqQ_normal ?_)
  all_goals first | exact absurd rfl hb | (exfalso; omega) | exact end1 rfl (List.Sublist.refl _) (rfl) (.inl rfl)
theorem c_l06Find (L : List Stock) (t : Stock) (hL : L.length ≤ 1000) : Gives Tryz.prog 62 [.sl (L.map encStock), .ip (encStock t)] (.int (fIdx (fun u => u = t) L)) := by
  refine fn_of_run tyOk ztOk mix Tryz.func62 rfl (by decide) Tryz.ntmps62 (fun w0 h => ?_)
  repeat' (first
      | (refine j_go ?_; first
        | refine j_op0 rfl rfl rfl rfl ?_)
      | refine j_nil ?_
      | (refine r_go ?_; first | refine run_seq ?_ | refine run_region ?_ | refine run_block ?_)
      | refine seqQ_normal ?_)
  refine run_loop (fun k : Nat => [(0, .sl (L.map encStock)), (1, .ip (encStock t)), (5, .int (k : Int))]) (fun _ => _) (fun k => k ≤ L.length ∧ (∀ i (h : i < L.length), i < k → ¬ L[i] = t)) (fun k => L.length - k) 0 ⟨rfl, rfl, rfl, trivial⟩ rfl ⟨Nat.zero_le _, by first | (intros; omega) | (simp; done) | rfl | trivial | exact ⟨by simp [sumF], by intros; omega⟩ | exact ⟨by omega, by simp⟩⟩ (fun k ⟨kl, kp⟩ => ?_)
  repeat' (first
      | (refine j_go ?_; first
        | refine j_op0 rfl rfl rfl rfl ?_ | (refine j_kIdx rfl ?_; first | refine j_idx rfl rfl rfl rfl rfl (by omega) rfl rfl rfl ?_) | (refine j_kBin rfl ?_; first | refine j_in rfl rfl ⟨by omega, by omega⟩ rfl rfl ?_) | (refine j_kLen rfl ?_; first | refine j_len rfl rfl rfl rfl rfl rfl ?_) | (refine j_kCall rfl rfl rfl rfl ?_; first | refine jc (c_l06Same _ _) (LeL.refl _) rfl rfl ?_))
      | refine j_nil ?_
      | (refine r_go ?_; first | refine run_seq ?_ | refine run_region ?_ | (refine (run_if rfl (fun hb => ?_) (fun hb => ?_)) <;> first | (exfalso; omega) | skip) | refine run_block ?_ | refine run_ret ?_ | refine run_exit ?_ | refine run_skip ?_)
      | refine seqQ_normal ?_ | refine seqQ_ret ?_ | refine seqQ_exit ?_ | refine blockQ_normal ?_ | refine blockQ_ret ?_ | refine blockQ_eq ?_ | refine loopQ_ret ?_ | refine loopQ_exit ?_)
  · exact end1 rfl (List.Sublist.refl _) (ai (fIdx_at (by omega) hb kp).symm) (.inl rfl)
  · exact loopQ_nextD (k + 1) ⟨by omega, all_step kp (fun _ => hb)⟩ (by omega) (by first | exact List.Sublist.refl _ | exact sub1 | exact sub2 | exact sub3) ⟨rfl, rfl, nx _, trivial⟩
  · exact end1 rfl (List.Sublist.refl _) (ai (fIdx_none (fun i h => kp i h (by omega))).symm) (.inl rfl)
theorem c_l06OwnStock (s : Stock) (h1 : s.cells.length ≤ 100) (h2 : s.around.length ≤ 100) (h3 : ∀ c ∈ s.cells, c.length ≤ 100) : Gives Tryz.prog 59 [.ip (encStock s)] (.agg (encStock s)) := by
  refine fn_of_run tyOk ztOk mix Tryz.func59 rfl (by decide) Tryz.ntmps59 (fun w0 h => ?_)
  repeat' (first
      | (refine j_go ?_; first
        | refine j_op0 rfl rfl rfl rfl ?_ | (refine j_kCall rfl rfl rfl rfl ?_; first | refine jc (c_l00Own _ (by omega)) (LeL.refl _) rfl rfl ?_) | (refine j_kStore rfl ?_; first | refine j_storeN 0 rfl rfl rfl rfl rfl rfl rfl rfl rfl rfl rfl ?_) | refine j_build rfl rfl rfl rfl rfl rfl rfl ?_ | refine j_alloc rfl rfl rfl rfl rfl (fun _ => ?_))
      | refine j_nil ?_
      | (refine r_go ?_; first | refine run_seq ?_ | refine run_region ?_ | refine run_block ?_)
      | refine seqQ_normal ?_)
  rename_i b2 b3
  refine run_view (view_none 24 0 rfl) ?_
  refine run_loop (fun x : Nat × Option Nat × Nat => [(0, .ip (encStock s)), (2, .op (some b2) 0), (3, .op (some b3) 0), (4, .int (x.1 : Int))])
    (fun x => ⟨x.2.1, 24, x.2.2 * 1, ((s.cells.take x.1).map (encS Go.AI.encI)).flatten⟩ :: ⟨some b3, 31, 2, [.os x.2.1 (s.cells.take x.1).length x.2.2, .sl (s.around.map Go.AI.encI)]⟩ :: ⟨some b2, 31, 2, [.os none 0 0, .os none 0 0]⟩ :: h)
    (fun x => x.1 ≤ s.cells.length) (fun x => s.cells.length - x.1) (0, none, 0) ⟨rfl, rfl, rfl, rfl, trivial⟩ rfl (Nat.zero_le _) (fun ⟨k, ob, cp⟩ kl => ?_)
  dsimp only at kl ⊢
  have tl : (s.cells.take k).length = k := by rw [List.length_take]; omega
  by_cases hk : k < s.cells.length
  · have hc := h3 _ (List.getElem_mem hk)
    repeat' (first
      | (refine j_go ?_; first
        | refine j_op0 rfl rfl rfl rfl ?_ | (refine j_kLen rfl ?_; first | refine j_len rfl rfl rfl rfl rfl rfl ?_))
      | refine j_nil ?_
      | (refine j_goO ?_; first
        | refine j_op0O rfl rfl rfl rfl ?_ | (refine j_kIdxO rfl ?_; first | refine j_idxO rfl rfl rfl rfl rfl (by omega) rfl rfl rfl ?_) | (refine j_kCallO rfl rfl rfl rfl ?_; first | refine jcO (c_l00Own s.cells[k] (by omega)) (LeL.refl _) rfl rfl ?_) | (refine j_kLoadO rfl ?_; first | refine j_mloadO 1 rfl rfl rfl rfl rfl rfl rfl rfl ?_) | (refine j_kBslO rfl ?_; first | refine j_bslO rfl rfl rfl rfl rfl rfl rfl rfl rfl rfl rfl ?_))
      | (refine r_go ?_; first | refine run_seq ?_ | refine run_region ?_ | (refine (run_if rfl (fun hb => ?_) (fun hb => ?_)) <;> first | (exfalso; omega) | skip) | refine run_block ?_ | refine run_skip ?_ | refine run_opn 5 [⟨0, true, false, 0⟩, ⟨1, true, false, 0⟩, ⟨2, true, false, 0⟩, ⟨3, true, false, 0⟩, ⟨4, true, false, 0⟩, ⟨5, true, false, 0⟩, ⟨6, true, false, 0⟩, ⟨7, true, false, 0⟩, ⟨8, true, false, 0⟩, ⟨9, true, false, 0⟩, ⟨10, true, false, 0⟩, ⟨11, false, true, 0⟩, ⟨12, true, false, 0⟩, ⟨13, false, true, 0⟩] rfl rfl (by kernel_rfl) ?_)
      | refine seqQ_normal ?_)
    refine j_appendO 0 (g := encS Go.AI.encI) (ys := s.cells.take k) [s.cells[k]] rfl (fun _ hk => nomatch hk) rfl rfl rfl rfl rfl rfl rfl rfl rfl rfl rfl rfl (fun _ => rfl) (fun _ hy => by simp only [List.mem_singleton] at hy; subst hy; rfl) ⟨by simp only [List.length_cons, List.length_nil]; omega, by simp only [List.length_cons, List.length_nil]; omega⟩ rfl rfl (fun ob' cp' => ?_)
    rw [← List.take_succ_eq_append_getElem hk]
    repeat' (first
      | (refine j_go ?_; first
        | refine j_op0 rfl rfl rfl rfl ?_ | (refine j_kBin rfl ?_; first | refine j_in rfl rfl ⟨by omega, by omega⟩ rfl rfl ?_))
      | refine j_nil ?_
      | (refine j_goO ?_; first
        | refine j_op0O rfl rfl rfl rfl ?_ | (refine j_kStoreO rfl ?_; first | refine j_storeO 1 rfl rfl rfl rfl rfl rfl rfl rfl rfl rfl rfl rfl (by first | (intro _ hk; exact absurd hk List.not_mem_nil) | (intro k hk; simp at hk ⊢; try simp [hk])) ?_))
      | refine j_nilO ?_
      | (refine r_go ?_; first | refine run_region ?_)
      | refine seqQ_normal ?_ | refine blockQ_normal ?_)
    exact loopQ_next (k + 1, ob', cp') (by dsimp only; omega) (by dsimp only; omega) rfl ⟨rfl, rfl, rfl, nx _, trivial⟩
  · have hke : k = s.cells.length := by omega
    subst hke
    rw [List.take_length]
    refine run_view (view_cellF (k := 0) (b := some b3) (T := 31) (room := 2) (cs := [.os ob s.cells.length cp, .sl (s.around.map Go.AI.encI)]) (h1 := [⟨ob, 24, cp * 1, (s.cells.map (encS Go.AI.encI)).flatten⟩]) (F := _ :: h) (List.Perm.swap _ _ _) rfl (FrzF.flat (g := encS Go.AI.encI) (ys := s.cells) (z := 1) rfl rfl (fun _ => rfl) rfl rfl)) ?_
    repeat' (first
      | (refine j_go ?_; first
        | refine j_op0 rfl rfl rfl rfl ?_ | (refine j_kLen rfl ?_; first | refine j_len rfl rfl rfl rfl rfl rfl ?_) | (refine j_kLoad rfl ?_; first | refine j_mload 0 rfl rfl rfl rfl rfl rfl rfl ?_) | (refine j_kStore rfl ?_; first | refine j_storeN 1 rfl rfl rfl rfl rfl rfl rfl rfl rfl rfl rfl ?_))
      | refine j_nil ?_
      | (refine r_go ?_; first | refine run_seq ?_ | refine run_region ?_ | (refine (run_if rfl (fun hb => ?_) (fun hb => ?_)) <;> first | (exfalso; omega) | skip) | refine run_ret ?_ | refine run_exit ?_)
      | refine seqQ_normal ?_ | refine seqQ_exit ?_ | refine blockQ_eq ?_ | refine loopQ_exit ?_)
    exact end_view (view_freezeP 1 2 rfl rfl) (end_le (List.sublist_cons_self _ _) (vs := [_]) (.cons (.cellI rfl rfl) .nil) (Le.refl _) (.inl rfl))
end Go.Proofs.YtbpmmdecaonopaaGreat

/-
  The reference's choices and steps of a stock that stands in memory of the call's own. No condition.
-/
namespace Go.Proofs.YtbpmmdecaonopaaGreat
open Go.AI
set_option maxRecDepth 8000
set_option maxHeartbeats 3200000
theorem o_l06StepK (p : Passing) (s : Stock) (cs : List Int) (kb : Blk) (sx : A) (hz : Frz [kb] sx (.ip (encStock s))) (hv : p.Ok) (hs : p.StockOk s) (hc : p.Cnts cs) : Does Tryz.prog 61 [.ip (encPassing p), sx, .sl (cs.map Go.AI.encI)] [kb] (fun v h' => ∃ h1, STs (resPassStep p s cs) (codePassStep p s cs) v h1 ∧ h' = h1 ++ [kb]) := by
  refine fn_of_runD tyOk ztOk mix Tryz.func61 rfl (by decide) Tryz.ntmps61 (fun w0 F => ?_)
  change Run _ _ _ _ _ (kb :: F)
  have k8 := hv.1.1
  have p4 := hv.1.2.1
  have h8 := hv.1.2.2.2.2.1
  have hcn := hc.2
  repeat' (first
      | (refine j_go ?_; first
        | refine j_op0 rfl rfl rfl rfl ?_ | refine j_alloc rfl rfl rfl rfl rfl (fun _ => ?_))
      | refine j_nil ?_
      | (refine r_go ?_; first | refine run_seq ?_ | refine run_region ?_)
      | refine seqQ_normal ?_)
  rename_i r6
  refine j_kCall rfl rfl rfl rfl ?_
  refine jct [kb] (o_l06Left p s cs hv hs hc) (fun k hk => by rw [List.mem_singleton] at hk; subst hk; simp) (FrzL.cons (Frz.same _ _) (FrzL.cons hz (FrzL.cons (Frz.same _ _) (FrzL.nil _)))) (fun v h1 hR => by
    obtain ⟨ob, cp, j, _, _, rfl, rfl⟩ := hR
    exact ⟨Clo.tup (CloL.cons (Clo.os _ _ _) (CloL.cons (Clo.raw _) CloL.nil)), CloH.cons (CloL.mapInt _ _) CloH.nil⟩) rfl rfl (fun v h1 hR => ?_)
  obtain ⟨ob, cp, j, hj1, hj2, rfl, rfl⟩ := hR
  by_cases hN : Nn (p.left s cs)
  · have hj := hj2 hN
    subst hj
    rw [dec_t hN]
    repeat' (first
      | (refine j_go ?_; first
        | refine j_op0 rfl rfl rfl rfl ?_)
      | refine j_nil ?_
      | (refine r_go ?_; first | refine run_seq ?_ | refine run_region ?_ | refine run_cond_f rfl ?_ | refine run_block ?_ | refine run_skip ?_)
      | refine seqQ_normal ?_)
    refine run_loop (fun k : Nat => [(0, .ip (encPassing p)), (2, .sl (cs.map Go.AI.encI)), (6, .op (some r6) 0), (8, .os ob (p.gvs cs (p.left s cs) k).flatten.length cp), (10, .int (k : Int))])
      (fun k => ⟨ob, 2, cp * 1, ((p.gvs cs (p.left s cs) k).flatten.map Go.AI.encI).flatten⟩ :: ⟨some r6, 31, 2, [.os none 0 0, .os none 0 0]⟩ :: kb :: F) (fun k => k ≤ cs.length) (fun k => cs.length - k) 0 ⟨rfl, rfl, rfl, rfl, rfl, trivial⟩ rfl (Nat.zero_le _) (fun k kl => ?_)
    have sh := gvs_sh' hv hc hs (k := k) (by omega)
    by_cases hk : k < cs.length
    · have hkr : k < p.rules.length := by omega
      have hck := hc.1 _ (List.getElem_mem hk)
      have sh2 := gvs_sh' hv hc hs (k := k + 1) (by omega)
      have e := gvs_succ (p := p) (cs := cs) (L := p.left s cs) hkr hk
      repeat' (first
      | (refine j_go ?_; first
        | refine j_op0 rfl rfl rfl rfl ?_ | (refine j_kLen rfl ?_; first | refine j_len rfl rfl rfl rfl rfl rfl ?_))
      | refine j_nil ?_
      | (refine j_goO ?_; first
        | refine j_op0O rfl rfl rfl rfl ?_ | (refine j_kIdxO rfl ?_; first | refine j_idxO rfl rfl rfl rfl rfl (by omega) rfl rfl rfl ?_))
      | (refine r_go ?_; first | refine run_seq ?_ | refine run_region ?_ | (refine (run_if rfl (fun hb => ?_) (fun hb => ?_)) <;> first | (exfalso; omega) | skip) | refine run_block ?_ | refine run_skip ?_ | refine run_opn 7 [⟨0, true, false, 0⟩, ⟨1, true, false, 0⟩, ⟨2, true, false, 0⟩, ⟨3, true, false, 0⟩, ⟨4, true, false, 0⟩, ⟨5, true, false, 0⟩, ⟨6, true, false, 0⟩, ⟨7, true, false, 0⟩, ⟨8, true, false, 0⟩, ⟨9, true, false, 0⟩, ⟨10, true, false, 0⟩, ⟨11, true, false, 0⟩, ⟨12, false, true, 0⟩] rfl rfl (by kernel_rfl) ?_)
      | refine seqQ_normal ?_)
      refine j_kCallO rfl rfl rfl rfl ?_
      refine jcpO (⟨some r6, 31, 2, [.os none 0 0, .os none 0 0]⟩ :: kb :: F) (o_l06Give p hv p.rules[k] (List.getElem_mem hkr) _ sh cs[k] hck ob cp) rfl (List.Perm.refl _) (LeL.refl _) rfl rfl (fun v h1 hR => ?_)
      subst hR
      rw [← e]
      repeat' (first
      | (refine j_go ?_; first
        | refine j_op0 rfl rfl rfl rfl ?_ | (refine j_kBin rfl ?_; first | refine j_in rfl rfl ⟨by omega, by omega⟩ rfl rfl ?_))
      | refine j_nil ?_
      | refine j_nilO ?_
      | (refine r_go ?_; first | refine run_region ?_)
      | refine seqQ_normal ?_ | refine blockQ_normal ?_)
      exact loopQ_next (k + 1) (by omega) (by omega) rfl ⟨rfl, rfl, rfl, (by rw [flat_length sh2, ← flat_length sh]; rfl), nx _, trivial⟩
    have hke : k = p.rules.length := by omega
    subst hke
    have eG : p.gvs cs (p.left s cs) p.rules.length = p.chs cs (plc s) p.rules.length := (chs_eq p cs (plc s) _).symm
    have eA : p.after s cs = stockOf p.parents.length (p.gvs cs (p.left s cs) p.rules.length) := by rw [eG]; rfl
    generalize p.gvs cs (p.left s cs) p.rules.length = G at sh eA
    have gl := sh.n
    have fl := flat_length sh
    rw [stockOf_eq (by omega)] at eA
    obtain ⟨K, hK⟩ : ∃ K : Nat, p.kinds.toNat = K := ⟨_, rfl⟩
    have hK2 : p.kinds = (K : Int) := by omega
    rw [hK] at sh fl
    have g40 : G.flatten.length ≤ 40 := by rw [fl]; exact Nat.le_trans (Nat.mul_le_mul (show p.parents.length + 1 ≤ 5 by omega) (show K ≤ 8 by omega)) (by decide)
    repeat' (first
      | (refine j_go ?_; first
        | refine j_op0 rfl rfl rfl rfl ?_ | (refine j_kLen rfl ?_; first | refine j_len rfl rfl rfl rfl rfl rfl ?_) | (refine j_kStore rfl ?_; first | refine j_storeN 0 rfl rfl rfl rfl rfl rfl rfl rfl rfl rfl rfl ?_) | refine j_build rfl rfl rfl rfl rfl rfl rfl ?_ | refine j_alloc rfl rfl rfl rfl rfl (fun _ => ?_))
      | refine j_nil ?_
      | (refine r_go ?_; first | refine run_seq ?_ | refine run_region ?_ | (refine (run_if rfl (fun hb => ?_) (fun hb => ?_)) <;> first | (exfalso; omega) | skip) | refine run_block ?_ | refine run_exit ?_)
      | refine seqQ_normal ?_ | refine seqQ_exit ?_ | refine blockQ_eq ?_ | refine loopQ_exit ?_)
    rename_i st
    refine run_view (view_freeze (g := Go.AI.encI) (z := 1) (ys := G.flatten) 1 8 rfl rfl rfl (fun _ => rfl) rfl rfl) ?_
    refine run_view (view_none 24 0 rfl) ?_
    refine run_loop (fun x : Nat × Option Nat × Nat => [(0, .ip (encPassing p)), (6, .op (some r6) 0), (8, .sl (G.flatten.map Go.AI.encI)), (11, .op (some st) 0), (12, .int (x.1 : Int))])
      (fun x => ⟨x.2.1, 24, x.2.2 * 1, ((G.take x.1).map (encS Go.AI.encI)).flatten⟩ :: ⟨some st, 31, 2, [.os x.2.1 (G.take x.1).length x.2.2, .os none 0 0]⟩ :: ⟨some r6, 31, 2, [.os none 0 0, .os none 0 0]⟩ :: kb :: F) (fun x => x.1 ≤ p.parents.length) (fun x => p.parents.length - x.1) (0, none, 0) ⟨rfl, rfl, rfl, rfl, rfl, trivial⟩ rfl (Nat.zero_le _) (fun ⟨k, oc, cc⟩ kl => ?_)
    dsimp only at kl ⊢
    have tl : (G.take k).length = k := by rw [List.length_take]; omega
    obtain ⟨a, ha⟩ : ∃ a, k * K = a := ⟨_, rfl⟩
    have m1 : (k : Int) * p.kinds = (a : Int) := by rw [hK2, ← ha]; push_cast; rfl
    have m2 : ((k : Int) + 1) * p.kinds = (a : Int) + (K : Int) := by rw [Int.add_mul, m1, Int.one_mul, hK2]
    have hkg : k < G.length := by omega
    have hal : a + K ≤ G.flatten.length := by
      rw [fl, ← ha]
      have : (k + 1) * K ≤ (p.parents.length + 1) * K := Nat.mul_le_mul_right K (by omega)
      rw [Nat.add_mul, Nat.one_mul] at this; exact this
    have rl : G[k].length = K := (sh.b _ (List.getElem_mem hkg)).1
    by_cases hk : k < p.parents.length
    · repeat' (first
      | (refine j_go ?_; first
        | refine j_op0 rfl rfl rfl rfl ?_ | (refine j_kLen rfl ?_; first | refine j_len rfl rfl rfl rfl rfl rfl ?_))
      | refine j_nil ?_
      | (refine j_goO ?_; first
        | refine j_op0O rfl rfl rfl rfl ?_ | (refine j_kBinO rfl ?_; first | refine j_inO rfl rfl ⟨by omega, by omega⟩ rfl rfl ?_) | (refine j_kCallO rfl rfl rfl rfl ?_; first | refine jcO (c_l00OwnE _ G[k] (by rw [m1, m2]; exact row_eq sh hkg ha) (by omega)) (LeL.refl _) rfl rfl ?_) | (refine j_kLoadO rfl ?_; first | refine j_mloadO 1 rfl rfl rfl rfl rfl rfl rfl rfl ?_) | (refine j_kBslO rfl ?_; first | refine j_bslO rfl rfl rfl rfl rfl rfl rfl rfl rfl rfl rfl ?_) | (refine j_kSliceO rfl ?_; first | refine j_sliceO rfl rfl rfl rfl rfl rfl (by omega) (fun _ => rfl) rfl rfl ?_))
      | (refine r_go ?_; first | refine run_seq ?_ | refine run_region ?_ | (refine (run_if rfl (fun hb => ?_) (fun hb => ?_)) <;> first | (exfalso; omega) | skip) | refine run_block ?_ | refine run_skip ?_ | refine run_opn 12 [⟨0, true, false, 0⟩, ⟨1, true, false, 0⟩, ⟨2, true, false, 0⟩, ⟨3, true, false, 0⟩, ⟨4, true, false, 0⟩, ⟨5, true, false, 0⟩, ⟨6, true, false, 0⟩, ⟨7, true, false, 0⟩, ⟨8, true, false, 0⟩, ⟨9, true, false, 0⟩, ⟨10, true, false, 0⟩, ⟨11, true, false, 0⟩, ⟨12, true, false, 0⟩, ⟨13, true, false, 0⟩, ⟨14, true, false, 0⟩, ⟨15, true, false, 0⟩, ⟨16, true, false, 0⟩, ⟨17, true, false, 0⟩, ⟨18, true, false, 0⟩, ⟨19, false, true, 0⟩, ⟨20, true, false, 0⟩, ⟨21, false, true, 0⟩] rfl rfl (by kernel_rfl) ?_)
      | refine seqQ_normal ?_)
      refine j_appendO 0 (g := encS Go.AI.encI) (ys := G.take k) [G[k]] rfl (fun _ hk => nomatch hk) rfl rfl rfl rfl rfl rfl rfl rfl rfl rfl rfl rfl (fun _ => rfl) (fun _ hy => by simp only [List.mem_singleton] at hy; subst hy; rfl) ⟨by rw [tl]; simp only [List.length_cons, List.length_nil]; omega, by rw [tl]; simp only [List.length_cons, List.length_nil]; omega⟩ rfl rfl (fun oc' cc' => ?_)
      rw [← List.take_succ_eq_append_getElem hkg]
      repeat' (first
      | (refine j_go ?_; first
        | refine j_op0 rfl rfl rfl rfl ?_ | (refine j_kBin rfl ?_; first | refine j_in rfl rfl ⟨by omega, by omega⟩ rfl rfl ?_))
      | refine j_nil ?_
      | (refine j_goO ?_; first
        | refine j_op0O rfl rfl rfl rfl ?_ | (refine j_kStoreO rfl ?_; first | refine j_storeO 1 rfl rfl rfl rfl rfl rfl rfl rfl rfl rfl rfl rfl (by first | (intro _ hk; exact absurd hk List.not_mem_nil) | (intro k hk; simp at hk ⊢; try simp [hk])) ?_))
      | refine j_nilO ?_
      | (refine r_go ?_; first | refine run_region ?_)
      | refine seqQ_normal ?_ | refine blockQ_normal ?_)
      exact loopQ_next (k + 1, oc', cc') (by dsimp only; omega) (by dsimp only; omega) rfl ⟨rfl, rfl, rfl, rfl, nx _, trivial⟩
    · have hke : k = p.parents.length := by omega
      subst hke
      have hm : (((G.flatten.map Go.AI.encI).length : Nat) : Int).toNat = a + K := by
        rw [List.length_map, Int.toNat_natCast, fl, Nat.add_mul, Nat.one_mul, ha]
      repeat' (first
      | (refine j_go ?_; first
        | refine j_op0 rfl rfl rfl rfl ?_ | (refine j_kLen rfl ?_; first | refine j_len rfl rfl rfl rfl rfl rfl ?_))
      | refine j_nil ?_
      | (refine j_goO ?_; first
        | refine j_op0O rfl rfl rfl rfl ?_ | (refine j_kBinO rfl ?_; first | refine j_inO rfl rfl ⟨by omega, by omega⟩ rfl rfl ?_) | (refine j_kLenO rfl ?_; first | refine j_lenO rfl rfl rfl rfl rfl rfl ?_) | (refine j_kCallO rfl rfl rfl rfl ?_; first | refine jcO (c_l00OwnE _ G[p.parents.length] (by rw [m1]; exact row_eq2 sh hkg ha hm) (by omega)) (LeL.refl _) rfl rfl ?_) | (refine j_kStoreO rfl ?_; first | refine j_storeO 1 rfl rfl rfl rfl rfl rfl rfl rfl rfl rfl rfl rfl (by first | (intro _ hk; exact absurd hk List.not_mem_nil) | (intro k hk; simp at hk ⊢; try simp [hk])) ?_) | (refine j_kSliceO rfl ?_; first | refine j_sliceO rfl rfl rfl rfl rfl rfl (by omega) (fun _ => rfl) rfl rfl ?_))
      | refine j_nilO ?_
      | (refine r_go ?_; first | refine run_seq ?_ | refine run_region ?_ | (refine (run_if rfl (fun hb => ?_) (fun hb => ?_)) <;> first | (exfalso; omega) | skip) | refine run_exit ?_ | refine run_opn 13 [⟨0, true, false, 0⟩, ⟨1, true, false, 0⟩, ⟨2, true, false, 0⟩, ⟨3, true, false, 0⟩, ⟨4, true, false, 0⟩, ⟨5, true, false, 0⟩, ⟨6, true, false, 0⟩, ⟨7, true, false, 0⟩, ⟨8, true, false, 0⟩, ⟨9, true, false, 0⟩, ⟨10, true, false, 0⟩, ⟨11, true, false, 0⟩, ⟨12, true, false, 0⟩, ⟨13, true, false, 0⟩, ⟨14, false, true, 0⟩] rfl rfl (by kernel_rfl) ?_)
      | refine seqQ_normal ?_ | refine seqQ_exit ?_ | refine blockQ_eq ?_ | refine loopQ_exit ?_)
      refine j_kCall rfl rfl rfl rfl ?_
      refine jctq [⟨oc, 24, cc * 1, ((G.take p.parents.length).map (encS Go.AI.encI)).flatten⟩, ⟨some st, 31, 2, [.os oc (G.take p.parents.length).length cc, .sl (G[p.parents.length].map Go.AI.encI)]⟩] (c_l06Stock p ⟨G.take p.parents.length, G[p.parents.length]⟩ hv) (Clo.raw _) (fun k hk => by simp only [List.mem_cons, List.not_mem_nil, or_false] at hk; rcases hk with rfl | rfl <;> simp)
        (FrzL.cons (Frz.same _ _) (FrzL.cons (Frz.ptr (b := st) (T := 31) (room := 2) (List.mem_cons_of_mem _ (List.mem_cons_self ..)) (FrzL.cons (Frz.mono (fun _ hk => by simp only [List.mem_singleton] at hk; subst hk; exact List.mem_cons_self ..) (Frz.flat (g := encS Go.AI.encI) (ys := G.take p.parents.length) (z := 1) rfl rfl (fun _ => rfl) rfl rfl)) (FrzL.cons (Frz.same _ _) (FrzL.nil _)))) (FrzL.nil _))) rfl rfl ?_
      repeat' (first
      | (refine j_go ?_; first
        | refine j_op0 rfl rfl rfl rfl ?_ | (refine j_kLoad rfl ?_; first | refine j_mload 1 rfl rfl rfl rfl rfl rfl rfl ?_) | (refine j_kStore rfl ?_; first | refine j_storeN 2 rfl rfl rfl rfl rfl rfl rfl rfl rfl rfl rfl ?_) | refine j_build rfl rfl rfl rfl rfl rfl rfl ?_)
      | refine j_nil ?_
      | (refine r_go ?_; first | refine run_seq ?_ | refine run_region ?_ | (refine (run_ifn rfl (fun hb => ?_) (fun hb => ?_)) <;> first | (exfalso; omega) | skip) | refine run_ret ?_ | refine run_skip ?_)
      | refine seqQ_normal ?_ | refine seqQ_ret ?_)
      · have hn : ¬ p.StockOk (p.after s cs) := by rw [eA]; exact hb
        rw [(ps_f3 hv hs hc hN hn).1, (ps_f3 hv hs hc hN hn).2]
        refine endD_view (view_freezeP 2 6 rfl rfl) ?_
        refine endD_view (view_erase 1) ?_
        refine endD_view (view_erase 0) ?_
        refine endD_view (view_none 24 0 rfl) ?_
        exact endD_ret (h1 := [_, kb]) rfl (.cons (.cellI rfl rfl) (.cons (.tmp rfl) .nil)) (Le.tup2 (Le.agg (LeL.cons (Le.refl _) (LeL.cons (Le.nil 0) LeL.nil)))) ⟨[_], ⟨none, 0, rfl, rfl⟩, rfl⟩ (.inl rfl)
      · have hn : p.StockOk (p.after s cs) := by rw [eA]; assumption
        rw [(ps_t hv hs hc hN hn).1, (ps_t hv hs hc hN hn).2, eA]
        refine endD_view (view_freezeP 2 6 rfl rfl) ?_
        refine endD_view (view_erase 1) ?_
        exact endD_ret (h1 := [_, kb]) rfl (.cons (.cellI rfl rfl) (.cons (.tmp rfl) .nil)) (Le.refl _) ⟨[_], ⟨oc, cc, rfl, rfl⟩, rfl⟩ (.inl rfl)
  · rw [dec_f hN]
    rw [(ps_f4 hv hs hc hN).1, (ps_f4 hv hs hc hN).2]
    repeat' (first
      | (refine j_go ?_; first
        | refine j_op0 rfl rfl rfl rfl ?_ | (refine j_kStore rfl ?_; first | refine j_storeN 1 rfl rfl rfl rfl rfl rfl rfl rfl rfl rfl rfl ?_) | refine j_build rfl rfl rfl rfl rfl rfl rfl ?_)
      | refine j_nil ?_
      | (refine r_go ?_; first | refine run_seq ?_ | refine run_region ?_ | refine run_cond_t rfl ?_ | refine run_ret ?_)
      | refine seqQ_normal ?_ | refine seqQ_ret ?_)
    refine endD_view (view_freezeP 1 6 rfl rfl) ?_
    refine endD_view (view_erase 0) ?_
    refine endD_view (view_none 24 0 rfl) ?_
    exact endD_ret (h1 := [_, kb]) rfl (.cons (.cellI rfl rfl) (.cons (.tmp rfl) .nil)) (Le.tup2 (Le.agg (LeL.cons (Le.refl _) (LeL.cons (Le.nil 0) LeL.nil)))) ⟨[_], ⟨none, 0, rfl, rfl⟩, rfl⟩ (.inl rfl)
theorem o_l06ChoicesK (p : Passing) (s : Stock) (m : Int) (kb : Blk) (sx : A) (hz : Frz [kb] sx (.ip (encStock s))) (hv : p.Ok) (hs : p.StockOk s) : Does Tryz.prog 60 [.ip (encPassing p), sx, .int m] [kb]
    (fun v h' => v = .tup [.sl ((wkO p s m 1500 0 [] (p.allC s)).map (encS Go.AI.encI)), .raw (.bool (dec (((wkF 0 (p.allC s) : Nat) : Int) ≤ 1500)))] ∧ h' = [kb]) := by
  refine fn_of_runD tyOk ztOk mix Tryz.func60 rfl (by decide) Tryz.ntmps60 (fun w0 F => ?_)
  change Run _ _ _ _ _ (kb :: F)
  have e0 : p.lft s [] = plc s := rfl
  repeat' (first
      | (refine j_go ?_; first
        | refine j_op0 rfl rfl rfl rfl ?_ | refine j_build rfl rfl rfl rfl rfl rfl rfl ?_)
      | refine j_nil ?_
      | (refine r_go ?_; first | refine run_seq ?_ | refine run_region ?_)
      | refine seqQ_normal ?_)
  refine j_boxM rfl rfl rfl rfl rfl rfl (fun bx => ?_)
  repeat' (first
      | (refine j_go ?_; first
        | refine j_op0 rfl rfl rfl rfl ?_)
      | refine j_nil ?_
      | (refine r_go ?_; first | refine run_seq ?_ | refine run_region ?_)
      | refine seqQ_normal ?_)
  refine j_kCall rfl rfl rfl rfl ?_
  refine jct [kb] (o_l06Flat p s hv hs) (fun k hk => by rw [List.mem_singleton] at hk; subst hk; simp) (FrzL.cons (Frz.same _ _) (FrzL.cons hz (FrzL.nil _))) (fun v h1 hR => hR.clo) rfl rfl (fun v h1 hR => ?_)
  obtain ⟨ob, cp, rfl, rfl⟩ := hR
  repeat' (first
      | (refine j_go ?_; first
        | (refine j_kBsl rfl ?_; first | refine j_bs0 rfl rfl rfl rfl rfl rfl ?_)))
  refine j_view (view_none 24 (0 * 1) rfl) ?_
  refine j_kCall rfl rfl rfl rfl ?_
  refine jcp (kb :: F) (o_l06Walk p s m hv hs bx p.rules.length [] 0 [] none 0 ob cp (Passing.Pfx.nil p) (fun _ q => absurd q List.not_mem_nil) (fit_nil hs) (by simp) (by omega) (by simp)) pm3z (LeL.cons (Le.refl _) (LeL.cons (Le.refl _) (LeL.cons (Le.nil _) LeL.nil))) rfl rfl (fun v h1 hR => ?_)
  obtain ⟨ob2, cp2, rfl⟩ := hR
  repeat' (first
      | (refine j_go ?_; first
        | refine j_op0 rfl rfl rfl rfl ?_ | (refine j_kLoad rfl ?_; first | refine j_mload 0 rfl rfl rfl rfl rfl rfl rfl ?_))
      | refine j_nil ?_
      | (refine r_go ?_; first | refine run_seq ?_ | refine run_ret ?_ | refine run_regionD (by kernel_rfl) ?_)
      | refine seqQ_normal ?_)
  refine endD_view (view_freeze (g := encS Go.AI.encI) (z := 1) (ys := wkO p s m 1500 0 [] (p.allC s)) 1 6 rfl rfl rfl (fun _ => rfl) rfl rfl) ?_
  exact endD_view (view_sub sub2) (endD_ret (h1 := [kb]) rfl (vs := [_, _]) (.cons (.tmp rfl) (.cons (.tmp rfl) .nil)) (Le.refl _) ⟨rfl, rfl⟩ (.inl rfl))
section
variable {C : Cx} {n : Nat} {Q : Exit → Env → Heap → Prop} {e : Env} {h : Heap} {l os : List Oper} {o : Oper} {f : Fl} {fs : List Fl} {B : List (Nat × Blk)}
/-- A call to which a block of the call's own is handed, and which hands it back as it was, and data. -/
theorem callK_quiet {k : Blk} (hk : k ∈ h) {g : FuncId} {x : Operand} {args : Array Operand} {ts : Array TypeId} {caps xs all : List A} {v : A} (ho : o.op = .call ⟨.value x, args, ts⟩) (hx : evO e x = some (.fn g caps)) (ha : mapEv e args.toList = some xs)
    (hf : Does C.P g all [k] (fun u h' => u = v ∧ h' = [k])) (hle : LeL (xs ++ caps) all) : Quiet C.P o e h v := by
  obtain ⟨i, hi, rfl⟩ := List.getElem_of_mem hk
  have e1 : (h.drop i).take 1 = [h[i]] := by rw [List.drop_eq_getElem_cons hi]; rfl
  refine (call_part i 1 ho hx ha hf e1 hle).quiet fun u h1 ⟨h2, ⟨q1, q2⟩, q3⟩ => ⟨q1, ?_⟩
  rw [q3, q2, ← e1]
  have h1 : h = h.take i ++ ((h.drop i).take 1 ++ (h.drop i).drop 1) := by rw [List.take_append_drop, List.take_append_drop]
  rw [List.drop_drop] at h1
  exact h1.symm
theorem jcqK (k : Blk) (hk : k ∈ h) {d : Bool} {g : FuncId} {xs all : List A} {v : A} {dd : Nat} (hf : Does C.P g all [k] (fun u h' => u = v ∧ h' = [k])) (hle : LeL xs all) (hd : o.dst = some dd) (hn : Nat.blt dd n = true)
    (hj : J d C n l os Q ((dd, v) :: e) h) : JC g xs d C n l o os Q e h := by
  unfold JC CallAt
  rintro ⟨x, args, ts, caps, as0, hw, ho, hx, ha, rfl⟩
  exact j_at hw (callK_quiet hk ho hx ha hf hle) hd hn hj
theorem jcqKO (k : Blk) (hk : k ∈ h) {g : FuncId} {xs all : List A} {v : A} {dd : Nat} (hf : Does C.P g all [k] (fun u h' => u = v ∧ h' = [k])) (hle : LeL xs all) (hd : o.dst = some dd) (hn : Nat.blt dd n = true)
    (hj : JO fs ((f.i, k) :: B) C n l os Q ((dd, v) :: e) h) : JCO g xs f fs B C n l o os Q e h := by
  unfold JCO CallAt
  rintro ⟨x, args, ts, caps, as0, hw, ho, hx, ha, rfl⟩
  exact j_stO k hk hw (fun h' hm => callK_quiet hm ho hx ha hf hle) hd hn hj
end
/-- What lies in memory of the call's own beside a block that is handed back, frozen. -/
theorem Does.frozenK {P : Program} {g : FuncId} {xs : List A} {k : Blk} {R : A → Heap → Prop} {v' : A} (hd : Does P g xs [k] (fun v h' => ∃ h1, R v h1 ∧ h' = h1 ++ [k])) (hR : ∀ v h1, R v h1 → FrzF h1 v v') : Does P g xs [k] (fun u h' => u = v' ∧ h' = [k]) :=
  ⟨hd.1, fun h w vs hr hh => (hd.2 h w vs hr hh).mono fun e w' ⟨u, v, h1, e1, e2, e3, e4⟩ => by
    obtain ⟨h2, q1, rfl⟩ := e2
    refine ⟨u, v', [k], e1, ⟨rfl, rfl⟩, e3.drop (by rw [List.append_assoc]) (List.sublist_append_right h2 _), ?_⟩
    have hh' := e3.heap
    rw [List.append_assoc] at hh' e4
    exact hR v h2 q1 _ w' u hh' e4⟩
theorem c_l06StepK (p : Passing) (s : Stock) (cs : List Int) (kb : Blk) (sx : A) (hz : Frz [kb] sx (.ip (encStock s))) (hv : p.Ok) (hs : p.StockOk s) (hc : p.Cnts cs) : Does Tryz.prog 61 [.ip (encPassing p), sx, .sl (cs.map Go.AI.encI)] [kb]
    (fun u h' => u = .tup [.agg (encStock (resPassStep p s cs)), .int (codePassStep p s cs)] ∧ h' = [kb]) := Does.frozenK (o_l06StepK p s cs kb sx hz hv hs hc) fun _ _ q => q.frz
end Go.Proofs.YtbpmmdecaonopaaGreat
