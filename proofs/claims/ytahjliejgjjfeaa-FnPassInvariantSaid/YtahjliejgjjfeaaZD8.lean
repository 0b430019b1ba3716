/-
  Weights of a passing system: valid ones, sums and invariants. No condition.
-/
import Derived.Test.YtahjliejgjjfeaaZS3f
import Derived.Test.YtahjliejgjjfeaaZS6f
import Derived.Test.YtahjliejgjjfeaaZS5f
import Derived.Test.YtahjliejgjjfeaaZS6e
namespace Go.Proofs.Ytahjliejgjjfeaa
open Go.AI
set_option maxRecDepth 8000
set_option maxHeartbeats 1600000

/-- Weights, of any size. -/
def Passing.WOk (p : Passing) (W : List (List Int)) : Prop := W.length = p.parents.length + 1 ∧ ∀ l ∈ W, (l.length : Int) = p.kinds ∧ Wt l
theorem Passing.WOk.at {p : Passing} {W : List (List Int)} (h : p.WOk W) {i : Nat} (hi : i < W.length) : (W[i].length : Int) = p.kinds ∧ Wt W[i] := h.2 _ (List.getElem_mem hi)
theorem mul_bndZ {x y : Int} (hx : -1000 ≤ x ∧ x ≤ 1000) (hy : -1000 ≤ y ∧ y ≤ 1000) : -1000000 ≤ x * y ∧ x * y ≤ 1000000 := by
  by_cases h : 0 ≤ x
  · exact mul_bnd ⟨h, hx.2⟩ hy
  · have := mul_bnd (x := -x) (y := y) (by omega) hy
    rw [Int.neg_mul] at this; omega
theorem zip_smallZ {a b : List Int} (ha : Wt a) (hn : a.length ≤ 1000) (hb : Wt b) : Small (List.zipWith (fun x y => x * y) a b) := by
  refine ⟨fun x hx => ?_, by simp; omega⟩
  obtain ⟨i, hi, rfl⟩ := List.getElem_of_mem hx
  rw [List.length_zipWith] at hi
  rw [List.getElem_zipWith]
  have := mul_bndZ (ha _ (List.getElem_mem (n := i) (by omega))) (hb _ (List.getElem_mem (n := i) (by omega)))
  omega
theorem c_weighZ (a b : List Int) (ha : Wt a) (hn : a.length ≤ 1000) (hb : Wt b) (hl : a.length ≤ b.length) : Gives Try.prog 124 [.sl (a.map Go.AI.encI), .sl (b.map Go.AI.encI)] (.int (dot a b)) := by
  refine fn_of_run tyOk ztOk mix Try.func124 rfl (by decide) Try.ntmps124 (fun w0 h => ?_)
  repeat' (first
      | (refine j_go ?_; first
        | refine j_op0 rfl rfl rfl rfl ?_ | (refine j_kCall rfl rfl rfl rfl ?_; first | refine jc (c_both _ _ (fun x y => x * y) _ _ (fun k h1 h2 => c_weigh1 _ _ (mul_bndZ (ha _ (List.getElem_mem h1)) (hb _ (List.getElem_mem h2)))) hl (by omega)) (LeL.refl _) rfl rfl ?_ | refine jc (c_bagSize _ (zip_smallZ ha hn hb)) (LeL.refl _) rfl rfl ?_))
      | refine j_nil ?_
      | (refine r_go ?_; first | refine run_seq ?_ | refine run_region ?_ | refine run_ret ?_)
      | refine seqQ_normal ?_)
  exact end1 rfl (List.Sublist.refl _) (rfl) (.inl rfl)
theorem c_areW2 (x : Int) : Gives Try.prog 187 [.int x] (.raw (.bool (dec (¬ (-1000 ≤ x ∧ x ≤ 1000))))) := by
  refine fn_of_run tyOk ztOk mix Try.func187 rfl (by decide) Try.ntmps187 (fun w0 h => ?_)
  repeat' (first
      | (refine j_go ?_; first
        | refine j_op0 rfl rfl rfl rfl ?_ | (refine j_kCall rfl rfl rfl rfl ?_; first | refine jc (c_inRange _ _ _) (LeL.refl _) rfl rfl ?_))
      | refine j_nil ?_
      | (refine r_go ?_; first | refine run_seq ?_ | refine run_region ?_ | refine run_ret ?_)
      | refine seqQ_normal ?_)
  exact end1 rfl (List.Sublist.refl _) (rbN Iff.rfl) (.inl rfl)
theorem c_areW1 (p : Passing) (l : List Int) : Gives Try.prog 186 [.sl (l.map Go.AI.encI), .ip (encPassing p)] (.raw (.bool (dec (¬ ((l.length : Int) = p.kinds ∧ Wt l))))) := by
  refine fn_of_run tyOk ztOk mix Try.func186 rfl (by decide) Try.ntmps186 (fun w0 h => ?_)
  repeat' (first
      | (refine j_go ?_; first
        | refine j_op0 rfl rfl rfl rfl ?_ | refine j_off rfl rfl rfl ?_ | (refine j_kCall rfl rfl rfl rfl ?_; first | refine jc (c_sizeI _) (LeL.refl _) rfl rfl ?_ | refine jc (c_cfI _ _ (fun x => ¬ (-1000 ≤ x ∧ x ≤ 1000)) _ (fun x _ => c_areW2 x)) (LeL.refl _) rfl rfl ?_) | (refine j_kGuard rfl ?_; first | (refine (j_ifn rfl rfl rfl (fun hb => ?_) (fun hb => ?_)) <;> first | (exfalso; omega) | skip)))
      | refine j_nil ?_
      | (refine r_go ?_; first | refine run_seq ?_ | refine run_region ?_ | refine run_ret ?_ | refine run_regionD (by kernel_rfl) ?_)
      | refine seqQ_normal ?_)
  · exact end1 rfl (by first | exact List.Sublist.refl _ | exact sub1 | exact sub2 | exact sub3) (rbT (fun q => absurd q.1 (by assumption))) (.inl rfl)
  · exact end1 rfl (List.Sublist.refl _) (rbD ⟨fun ⟨x, hx, q⟩ z => q (z.2 x hx), fun q => by
      by_cases z : ∃ x ∈ l, ¬ (-1000 ≤ x ∧ x ≤ 1000)
      · exact z
      · exact absurd ⟨by assumption, fun x hx => by
          by_cases w : -1000 ≤ x ∧ x ≤ 1000
          · exact w
          · exact absurd ⟨x, hx, w⟩ z⟩ q⟩) (.inl rfl)
theorem c_areWeights (p : Passing) (W : List (List Int)) (hv : p.Frame) : Gives Try.prog 119 [.agg (encPassing p), .sl (W.map (encS Go.AI.encI))] (.raw (.bool (dec (p.WOk W)))) := by
  refine fn_of_run tyOk ztOk mix Try.func119 rfl (by decide) Try.ntmps119 (fun w0 h => ?_)
  have p4 := hv.2.1
  repeat' (first
      | (refine j_go ?_; first
        | refine j_op0 rfl rfl rfl rfl ?_ | refine j_off rfl rfl rfl ?_ | (refine j_kBin rfl ?_; first | refine j_in rfl rfl ⟨by omega, by omega⟩ rfl rfl ?_) | (refine j_kLen rfl ?_; first | refine j_len rfl rfl rfl rfl rfl rfl ?_) | (refine j_kCall rfl rfl rfl rfl ?_; first | refine jc (c_cfS _ _ (fun l => ¬ ((l.length : Int) = p.kinds ∧ Wt l)) _ (fun l _ => c_areW1 p l)) (LeL.refl _) rfl rfl ?_) | (refine j_kGuard rfl ?_; first | (refine (j_if rfl rfl rfl (fun hb => ?_) (fun hb => ?_)) <;> first | (exfalso; omega) | skip)) | refine j_box rfl rfl rfl rfl rfl rfl ?_)
      | refine j_nil ?_
      | (refine r_go ?_; first | refine run_seq ?_ | refine run_region ?_ | refine run_ret ?_)
      | refine seqQ_normal ?_)
  · exact end1 rfl (List.Sublist.refl _) (rbN ⟨fun q => ⟨by omega, fun l hl => by
      by_cases z : (l.length : Int) = p.kinds ∧ Wt l
      · exact z
      · exact absurd ⟨l, hl, z⟩ q⟩, fun q ⟨l, hl, z⟩ => z (q.2 l hl)⟩) (.inl rfl)
  · exact end1 rfl (by first | exact List.Sublist.refl _ | exact sub1 | exact sub2 | exact sub3) (rbF (fun q => by have := q.1; omega)) (.inl rfl)
theorem c_l06Weights (p : Passing) (W : List (List Int)) (hv : p.Frame) : Gives Try.prog 127 [.ip (encPassing p), .sl (W.map (encS Go.AI.encI))] (.raw (.bool (dec (p.WOk W)))) := by
  refine fn_of_run tyOk ztOk mix Try.func127 rfl (by decide) Try.ntmps127 (fun w0 h => ?_)
  have p4 := hv.2.1
  repeat' (first
      | (refine j_go ?_; first
        | refine j_op0 rfl rfl rfl rfl ?_ | (refine j_kBin rfl ?_; first | refine j_in rfl rfl ⟨by omega, by omega⟩ rfl rfl ?_) | (refine j_kLen rfl ?_; first | refine j_len rfl rfl rfl rfl rfl rfl ?_))
      | refine j_nil ?_
      | (refine r_go ?_; first | refine run_seq ?_ | refine run_region ?_ | (refine (run_ifn rfl (fun hb => ?_) (fun hb => ?_)) <;> first | (exfalso; omega) | skip) | refine run_block ?_ | refine run_ret ?_ | refine run_skip ?_)
      | refine seqQ_normal ?_ | refine seqQ_ret ?_)
  · exact end1 rfl (by first | exact List.Sublist.refl _ | exact sub1 | exact sub2 | exact sub3) (rbF (fun q => by have := q.1; omega)) (.inl rfl)
  have hWl : W.length = p.parents.length + 1 := by omega
  have h8 := hv.1
  refine run_loop (fun k : Nat => [(0, .ip (encPassing p)), (1, .sl (W.map (encS Go.AI.encI))), (5, .int (k : Int))]) (fun _ => _) (fun k => k ≤ W.length ∧ (∀ i (h : i < W.length), i < k → (W[i].length : Int) = p.kinds ∧ Wt W[i])) (fun k => W.length - k) 0 ⟨rfl, rfl, rfl, trivial⟩ rfl ⟨Nat.zero_le _, by first | (intros; omega) | (simp; done) | rfl | trivial | exact ⟨by simp [sumF], by intros; omega⟩ | exact ⟨by omega, by simp⟩⟩ (fun k ⟨kl, kp⟩ => ?_)
  by_cases hk : k < W.length
  · repeat' (first
      | (refine j_go ?_; first
        | refine j_op0 rfl rfl rfl rfl ?_ | (refine j_kIdx rfl ?_; first | refine j_idx rfl rfl rfl rfl rfl (by omega) rfl rfl rfl ?_) | (refine j_kLen rfl ?_; first | refine j_len rfl rfl rfl rfl rfl rfl ?_))
      | refine j_nil ?_
      | (refine r_go ?_; first | refine run_seq ?_ | refine run_region ?_ | (refine (run_if rfl (fun hb => ?_) (fun hb => ?_)) <;> first | (exfalso; omega) | skip) | (refine (run_ifn rfl (fun hb => ?_) (fun hb => ?_)) <;> first | (exfalso; omega) | skip) | refine run_block ?_ | refine run_ret ?_ | refine run_skip ?_ | refine run_regionD (by kernel_rfl) ?_)
      | refine seqQ_normal ?_ | refine seqQ_ret ?_ | refine blockQ_ret ?_ | refine loopQ_ret ?_)
    · exact end1 rfl (by first | exact List.Sublist.refl _ | exact sub1 | exact sub2 | exact sub3) (rbF (fun q => by have := (q.2 _ (List.getElem_mem hk)).1; omega)) (.inl rfl)
    have hl : (W[k].length : Int) = p.kinds := by omega
    refine run_loop (fun j : Nat => [(0, .ip (encPassing p)), (1, .sl (W.map (encS Go.AI.encI))), (5, .int (k : Int)), (6, .int (j : Int))]) (fun _ => _) (fun j => j ≤ W[k].length ∧ (∀ i (h : i < W[k].length), i < j → -1000 ≤ W[k][i] ∧ W[k][i] ≤ 1000)) (fun j => W[k].length - j) 0 ⟨rfl, rfl, rfl, rfl, trivial⟩ rfl ⟨Nat.zero_le _, by first | (intros; omega) | (simp; done) | rfl | trivial | exact ⟨by simp [sumF], by intros; omega⟩ | exact ⟨by omega, by simp⟩⟩ (fun j ⟨jl, jp⟩ => ?_)
    by_cases hj : j < W[k].length
    · repeat' (first
      | (refine j_go ?_; first
        | refine j_op0 rfl rfl rfl rfl ?_ | (refine j_kIdx rfl ?_; first | refine j_idx rfl rfl rfl rfl rfl (by omega) rfl rfl rfl ?_) | (refine j_kBin rfl ?_; first | refine j_in rfl rfl ⟨by omega, by omega⟩ rfl rfl ?_) | (refine j_kLen rfl ?_; first | refine j_len rfl rfl rfl rfl rfl rfl ?_) | (refine j_kCall rfl rfl rfl rfl ?_; first | refine jc (c_l00In _ _ _) (LeL.refl _) rfl rfl ?_))
      | refine j_nil ?_
      | (refine r_go ?_; first | refine run_seq ?_ | refine run_region ?_ | (refine (run_if rfl (fun hb => ?_) (fun hb => ?_)) <;> first | (exfalso; omega) | skip) | (refine (run_ifn rfl (fun hb => ?_) (fun hb => ?_)) <;> first | (exfalso; omega) | skip) | refine run_block ?_ | refine run_ret ?_ | refine run_skip ?_)
      | refine seqQ_normal ?_ | refine seqQ_ret ?_ | refine blockQ_normal ?_ | refine blockQ_ret ?_ | refine loopQ_ret ?_)
      · exact end1 rfl (by first | exact List.Sublist.refl _ | exact sub1 | exact sub2 | exact sub3) (rbF (fun q => (by assumption : ¬ (-1000 ≤ W[k][j] ∧ W[k][j] ≤ 1000)) ((q.2 _ (List.getElem_mem hk)).2 _ (List.getElem_mem hj)))) (.inl rfl)
      · exact loopQ_nextD (j + 1) ⟨by omega, all_step jp (fun _ => by assumption)⟩ (by omega) (by first | exact List.Sublist.refl _ | exact sub1 | exact sub2 | exact sub3) ⟨rfl, rfl, rfl, nx _, trivial⟩
    · repeat' (first
      | (refine j_go ?_; first
        | refine j_op0 rfl rfl rfl rfl ?_ | (refine j_kIdx rfl ?_; first | refine j_idx rfl rfl rfl rfl rfl (by omega) rfl rfl rfl ?_) | (refine j_kBin rfl ?_; first | refine j_in rfl rfl ⟨by omega, by omega⟩ rfl rfl ?_) | (refine j_kLen rfl ?_; first | refine j_len rfl rfl rfl rfl rfl rfl ?_))
      | refine j_nil ?_
      | (refine r_go ?_; first | refine run_seq ?_ | refine run_region ?_ | (refine (run_if rfl (fun hb => ?_) (fun hb => ?_)) <;> first | (exfalso; omega) | skip) | refine run_exit ?_)
      | refine seqQ_normal ?_ | refine seqQ_exit ?_ | refine blockQ_normal ?_ | refine blockQ_eq ?_ | refine loopQ_exit ?_)
      exact loopQ_nextD (k + 1) ⟨by omega, all_step kp (fun _ => ⟨hl, fun x hx => by obtain ⟨i, hi, rfl⟩ := List.getElem_of_mem hx; exact jp i hi (by omega)⟩)⟩ (by omega) (by first | exact List.Sublist.refl _ | exact sub1 | exact sub2 | exact sub3) ⟨rfl, rfl, nx _, trivial⟩
  · repeat' (first
      | (refine j_go ?_; first
        | refine j_op0 rfl rfl rfl rfl ?_ | (refine j_kLen rfl ?_; first | refine j_len rfl rfl rfl rfl rfl rfl ?_))
      | refine j_nil ?_
      | (refine r_go ?_; first | refine run_seq ?_ | refine run_region ?_ | (refine (run_if rfl (fun hb => ?_) (fun hb => ?_)) <;> first | (exfalso; omega) | skip) | refine run_ret ?_ | refine run_exit ?_)
      | refine seqQ_normal ?_ | refine seqQ_exit ?_ | refine blockQ_eq ?_ | refine loopQ_exit ?_)
    exact end1 rfl (by first | exact List.Sublist.refl _ | exact sub1 | exact sub2 | exact sub3) (rbT (⟨hWl, fun l hl => by obtain ⟨i, hi, rfl⟩ := List.getElem_of_mem hl; exact kp i hi (by omega)⟩)) (.inl rfl)
theorem o_l06Level (W : List (List Int)) (hn : W.length ≤ 1000) (hr : ∀ l ∈ W, l.length ≤ 8) : Does Try.prog 128 [.sl (W.map (encS Go.AI.encI))] [] (OwnL W.flatten) := by
  refine fn_of_runD tyOk ztOk mix Try.func128 rfl (by decide) Try.ntmps128 (fun w0 F => ?_)
  change Run _ _ _ _ _ F
  repeat' (first
      | (refine j_go ?_; first
        | refine j_op0 rfl rfl rfl rfl ?_ | (refine j_kBsl rfl ?_; first | refine j_bs0 rfl rfl rfl rfl rfl rfl ?_))
      | refine j_nil ?_
      | (refine r_go ?_; first | refine run_seq ?_ | refine run_region ?_ | refine run_block ?_)
      | refine seqQ_normal ?_)
  refine run_view (view_none 2 0 rfl) ?_
  refine run_loop (fun x : Nat × Option Nat × Nat => [(0, .sl (W.map (encS Go.AI.encI))), (3, .os x.2.1 (W.take x.1).flatten.length x.2.2), (4, .int (x.1 : Int))]) (fun x => ⟨x.2.1, 2, x.2.2 * 1, (((W.take x.1).flatten).map Go.AI.encI).flatten⟩ :: F) (fun x => x.1 ≤ W.length) (fun x => W.length - x.1) (0, none, 0) ⟨rfl, rfl, rfl, trivial⟩ rfl (Nat.zero_le _) (fun ⟨k, ob, cp⟩ kl => ?_)
  dsimp only at kl ⊢
  have tl := flat_take_le hr k
  by_cases hk : k < W.length
  · have ck := hr _ (List.getElem_mem hk)
    repeat' (first
      | (refine j_go ?_; first
        | refine j_op0 rfl rfl rfl rfl ?_ | (refine j_kIdx rfl ?_; first | refine j_idx rfl rfl rfl rfl rfl (by omega) rfl rfl rfl ?_) | (refine j_kLen rfl ?_; first | refine j_len rfl rfl rfl rfl rfl rfl ?_))
      | refine j_nil ?_
      | (refine r_go ?_; first | refine run_seq ?_ | refine run_region ?_ | (refine (run_if rfl (fun hb => ?_) (fun hb => ?_)) <;> first | (exfalso; omega) | skip) | refine run_block ?_ | refine run_skip ?_)
      | refine seqQ_normal ?_)
    refine j_append 0 (g := Go.AI.encI) (ys := (W.take k).flatten) W[k] rfl rfl rfl rfl rfl rfl rfl rfl rfl rfl rfl rfl (fun _ => rfl) (fun _ _ => rfl) ⟨by omega, by omega⟩ rfl rfl (fun b' cap' => ?_)
    rw [← flat_take_succ hk]
    repeat' (first
      | (refine j_go ?_; first
        | refine j_op0 rfl rfl rfl rfl ?_ | (refine j_kBin rfl ?_; first | refine j_in rfl rfl ⟨by omega, by omega⟩ rfl rfl ?_))
      | refine j_nil ?_
      | (refine r_go ?_; first | refine run_region ?_)
      | refine seqQ_normal ?_ | refine blockQ_normal ?_)
    exact loopQ_next (k + 1, b', cap') (by dsimp only; omega) (by dsimp only; omega) rfl ⟨rfl, rfl, nx _, trivial⟩
  · have hke : k = W.length := by omega
    subst hke
    rw [List.take_length] at tl ⊢
    repeat' (first
      | (refine j_go ?_; first
        | refine j_op0 rfl rfl rfl rfl ?_ | (refine j_kLen rfl ?_; first | refine j_len rfl rfl rfl rfl rfl rfl ?_))
      | refine j_nil ?_
      | (refine r_go ?_; first | refine run_seq ?_ | refine run_region ?_ | (refine (run_if rfl (fun hb => ?_) (fun hb => ?_)) <;> first | (exfalso; omega) | skip) | refine run_ret ?_ | refine run_exit ?_)
      | refine seqQ_normal ?_ | refine seqQ_exit ?_ | refine blockQ_eq ?_ | refine loopQ_exit ?_)
    exact endD_ret (h1 := [_]) rfl (.cons (.tmp rfl) .nil) (Le.refl _) ⟨ob, cp, rfl, rfl⟩ (.inl rfl)
theorem c_l06Level (W : List (List Int)) (hn : W.length ≤ 1000) (hr : ∀ l ∈ W, l.length ≤ 8) : Gives Try.prog 128 [.sl (W.map (encS Go.AI.encI))] (.sl (W.flatten.map Go.AI.encI)) :=
  (o_l06Level W hn hr).frozen fun _ _ ⟨_, _, q1, q2⟩ => by rw [q1, q2]; exact FrzF.flat rfl rfl (fun _ => rfl) rfl rfl
def SmallM (a b : List Int) : Prop := Small (List.zipWith (fun x y => x * y) a b)
theorem c_l06Dot (a b : List Int) (hn : a.length ≤ 1000) (hS : SmallM a b) (hl : a.length = b.length) : Gives Try.prog 131 [.sl (a.map Go.AI.encI), .sl (b.map Go.AI.encI)] (.int (dot a b)) := by
  refine fn_of_run tyOk ztOk mix Try.func131 rfl (by decide) Try.ntmps131 (fun w0 h => ?_)
  unfold SmallM at hS
  have hz := zip_len (g := fun x y => x * y) (show a.length ≤ b.length by omega)
  repeat' (first
      | (refine j_go ?_; first
        | refine j_op0 rfl rfl rfl rfl ?_)
      | refine j_nil ?_
      | (refine r_go ?_; first | refine run_seq ?_ | refine run_region ?_ | refine run_block ?_)
      | refine seqQ_normal ?_)
  refine run_loop (fun k : Nat => [(0, .sl (a.map Go.AI.encI)), (1, .sl (b.map Go.AI.encI)), (5, .int (sumF (fun x => x) ((List.zipWith (fun x y => x * y) a b).take k))), (6, .int (k : Int))]) (fun _ => _) (fun k => k ≤ a.length ∧ (True)) (fun k => a.length - k) 0 ⟨rfl, rfl, (by first | rfl | exact si (by first | omega | (simp; done) | (simp [sumF]; done) | (simp; omega)) | exact raw_f (by simp) | exact raw_t (by simp) | exact sa (by first | (rw [catK_zero]; rfl) | (rw [catK_zero, List.append_nil]; rfl) | (rw [catK_zero, List.append_nil]) | (rw [joinK_zero, List.append_nil]; rfl) | (rw [joinK_zero, List.append_nil]) | (simp [catK]; done))), rfl, trivial⟩ rfl ⟨Nat.zero_le _, by first | (intros; omega) | (simp; done) | rfl | trivial | exact ⟨by simp [sumF], by intros; omega⟩ | exact ⟨by omega, by simp⟩⟩ (fun k ⟨kl, kp⟩ => ?_)
  have b1 := hS.take k (by omega)
  by_cases hk : k < a.length
  · have hkb : k < b.length := by omega
    have b2 := hS.1 _ (List.getElem_mem (show k < (List.zipWith (fun x y => x * y) a b).length by omega))
    rw [List.getElem_zipWith] at b2
    repeat' (first
      | (refine j_go ?_; first
        | refine j_op0 rfl rfl rfl rfl ?_ | (refine j_kIdx rfl ?_; first | refine j_idx rfl rfl rfl rfl rfl (by omega) rfl rfl rfl ?_) | (refine j_kBin rfl ?_; first | refine j_in rfl rfl ⟨by omega, by omega⟩ rfl rfl ?_) | (refine j_kLen rfl ?_; first | refine j_len rfl rfl rfl rfl rfl rfl ?_))
      | refine j_nil ?_
      | (refine r_go ?_; first | refine run_seq ?_ | refine run_region ?_ | (refine (run_if rfl (fun hb => ?_) (fun hb => ?_)) <;> first | (exfalso; omega) | skip) | refine run_block ?_ | refine run_skip ?_ | refine run_regionD (by kernel_rfl) ?_)
      | refine seqQ_normal ?_ | refine blockQ_normal ?_)
    exact loopQ_nextD (k + 1) ⟨by omega, trivial⟩ (by omega) (by first | exact List.Sublist.refl _ | exact sub1 | exact sub2 | exact sub3) ⟨rfl, rfl, (by first | rfl | (rw [sumF_succ (fun x => x) (by omega), List.getElem_zipWith]; try rfl) | exact si (by omega)), nx _, trivial⟩
  · repeat' (first
      | (refine j_go ?_; first
        | refine j_op0 rfl rfl rfl rfl ?_ | (refine j_kLen rfl ?_; first | refine j_len rfl rfl rfl rfl rfl rfl ?_))
      | refine j_nil ?_
      | (refine r_go ?_; first | refine run_seq ?_ | refine run_region ?_ | (refine (run_if rfl (fun hb => ?_) (fun hb => ?_)) <;> first | (exfalso; omega) | skip) | refine run_ret ?_ | refine run_exit ?_)
      | refine seqQ_normal ?_ | refine seqQ_exit ?_ | refine blockQ_eq ?_ | refine loopQ_exit ?_)
    exact end1 rfl (List.Sublist.refl _) (ai (by rw [List.take_of_length_le (by omega)]; rfl)) (.inl rfl)
end Go.Proofs.Ytahjliejgjjfeaa

/-
  Sums by weights, and whether weights are an invariant of a passing system. No condition.
-/
namespace Go.Proofs.Ytahjliejgjjfeaa
open Go.AI
set_option maxRecDepth 8000
set_option maxHeartbeats 1600000

theorem Passing.WOk.sh {p : Passing} {W : List (List Int)} (h : p.WOk W) : Sh (p.parents.length + 1) p.kinds.toNat W 1000 := ⟨h.1, fun x hx => ⟨by have := (h.2 x hx).1; omega, (h.2 x hx).2⟩⟩
theorem dot_bndZ {a b : List Int} (ha : Wt a) (hn : a.length ≤ 8) (hb : Wt b) : -8000000 ≤ dot a b ∧ dot a b ≤ 8000000 := by
  have h := sumF_take (lo := -1000000) (hi := 1000000) (fun x => x) (List.zipWith (fun x y => x * y) a b) (fun x hx => by
    obtain ⟨i, hi, rfl⟩ := List.getElem_of_mem hx
    rw [List.length_zipWith] at hi
    rw [List.getElem_zipWith]
    have := mul_bndZ (ha _ (List.getElem_mem (n := i) (by omega))) (hb _ (List.getElem_mem (n := i) (by omega)))
    omega) _ (Nat.le_refl _)
  rw [List.take_length] at h
  have : (List.zipWith (fun x y => x * y) a b).length ≤ 8 := by rw [List.length_zipWith]; omega
  unfold dot tot; omega
theorem BagK.wt {k : Int} {b : List Int} (h : BagK k b) : Wt b := fun x hx => by have := h.1.1 x hx; omega
theorem md_plc {p : Passing} {s : Stock} (hs : p.StockOk s) {W : List (List Int)} (hW : W.length = p.parents.length + 1) : md (plc s) W = tot (List.zipWith dot s.cells W) + dot s.around (W[p.parents.length]'(by omega)) := by
  have e : W = W.take p.parents.length ++ [W[p.parents.length]'(by omega)] := by
    rw [← List.take_succ_eq_append_getElem (by omega), List.take_of_length_le (by omega)]
  have hl : s.cells.length = (W.take p.parents.length).length := by rw [List.length_take, hs.1]; omega
  have h1 := md_app (b := [s.around]) (d := [W[p.parents.length]'(by omega)]) hl
  rw [← e] at h1
  have h2 := md_app (a := s.cells) (c := W.take p.parents.length) (b := []) (d := W.drop p.parents.length) hl
  rw [List.append_nil, List.take_append_drop, md_nil] at h2
  have h3 : md s.cells W = tot (List.zipWith dot s.cells W) := rfl
  have h4 : md [s.around] [W[p.parents.length]'(by omega)] = dot s.around (W[p.parents.length]'(by omega)) := by rw [md_cons, md_nil]; omega
  show md (s.cells ++ [s.around]) W = _
  rw [h1, h4, ← h3, h2]; omega
theorem small_md {p : Passing} {L W : List (List Int)} (hv : p.Frame) (hL : Sh (p.parents.length + 1) p.kinds.toNat L 1000) (hW : p.WOk W) : L.flatten.length ≤ 1000 ∧ SmallM L.flatten W.flatten ∧ L.flatten.length = W.flatten.length ∧ dot L.flatten W.flatten = md L W := by
  have h1 := flat_length hL
  have h2 := flat_length hW.sh
  have k8 := hv.1
  have p4 := hv.2.1
  have hm : (p.parents.length + 1) * p.kinds.toNat ≤ 5 * 8 := Nat.mul_le_mul (by omega) (by omega)
  exact ⟨by omega, zip_smallZ (fun x hx => flat_bnd hL x hx) (by omega) (fun x hx => flat_bnd hW.sh x hx), by omega, md_flat (fun x hx => (hL.b x hx).1) (fun x hx => (hW.sh.b x hx).1) (by rw [hL.n, hW.1])⟩
theorem c_l06Flat (p : Passing) (s : Stock) (hv : p.Ok) (hs : p.StockOk s) : Gives Try.prog 133 [.ip (encPassing p), .ip (encStock s)] (.sl ((plc s).flatten.map Go.AI.encI)) :=
  (o_l06Flat p s hv hs).frozen fun _ _ ⟨_, _, q1, q2⟩ => by rw [q1, q2]; exact FrzF.flat rfl rfl (fun _ => rfl) rfl rfl
theorem c_sPassInvariant (p : Passing) (s : Stock) (W : List (List Int)) (hv : p.Ok) (hs : p.StockOk s) (hW : p.WOk W) : Gives Try.prog 52 [.agg (encPassing p), .agg (encStock s), .sl (W.map (encS Go.AI.encI))] (.tup [.int (md (plc s) W), .int 0]) := by
  refine fn_of_run tyOk ztOk mix Try.func52 rfl (by decide) Try.ntmps52 (fun w0 h => ?_)
  have cC := c_l06Code p s
  rw [cd2_o hv hs] at cC
  have q := small_md hv.1 (plc_sh hs) hW
  have k8 := hv.1.1
  have p4 := hv.1.2.1
  repeat' (first
      | (refine j_go ?_; first
        | refine j_op0 rfl rfl rfl rfl ?_ | (refine j_kCall rfl rfl rfl rfl ?_; first | refine jc (cC) (LeL.refl _) rfl rfl ?_ | refine jc (c_l06Weights _ _ hv.1) (LeL.refl _) rfl rfl ?_ | refine jc (c_l06Flat _ _ hv hs) (LeL.refl _) rfl rfl ?_ | refine jc (c_l06Level _ (by have := hW.1; omega) (fun l hl => by have := (hW.2 l hl).1; omega)) (LeL.refl _) rfl rfl ?_ | refine jc (c_l06Dot _ _ q.1 q.2.1 q.2.2.1) (LeL.refl _) rfl rfl ?_) | refine j_box rfl rfl rfl rfl rfl rfl ?_)
      | refine j_nil ?_
      | (refine r_go ?_; first | refine run_seq ?_ | refine run_region ?_ | (refine (run_ifn rfl (fun hb => ?_) (fun hb => ?_)) <;> first | (exfalso; omega) | skip) | refine run_ret ?_ | refine run_skip ?_)
      | refine seqQ_normal ?_ | refine seqQ_ret ?_)
  · exact absurd hW (by assumption)
  · exact end2 rfl rfl (List.Sublist.refl _) (by rw [q.2.2.2]; rfl) (.inl rfl)
theorem c_iPassInvariant (p : Passing) (s : Stock) (W : List (List Int)) (hv : p.Ok) (hs : p.StockOk s) (hW : p.WOk W) : Gives Try.prog 51 [.agg (encPassing p), .agg (encStock s), .sl (W.map (encS Go.AI.encI))] (.tup [.int (md (plc s) W), .int 0]) := by
  refine fn_of_run tyOk ztOk mix Try.func51 rfl (by decide) Try.ntmps51 (fun w0 h => ?_)
  have cC := c_stockCode p s
  rw [cd2_o hv hs] at cC
  have k8 := hv.1.1
  have p4 := hv.1.2.1
  have hWl := hW.1
  have hW2 : p.parents.length < W.length := by omega
  have wn := hW.at hW2
  have al := hs.2.1
  repeat' (first
      | (refine j_go ?_; first
        | refine j_op0 rfl rfl rfl rfl ?_ | (refine j_kIdx rfl ?_; first | refine j_idx rfl rfl rfl rfl rfl (by omega) rfl rfl rfl ?_) | (refine j_kLen rfl ?_; first | refine j_len rfl rfl rfl rfl rfl rfl ?_) | (refine j_kCall rfl rfl rfl rfl ?_; first | refine jc (cC) (LeL.refl _) rfl rfl ?_ | refine jc (c_areWeights _ _ hv.1) (LeL.refl _) rfl rfl ?_ | refine jc (c_outside _) (LeL.refl _) rfl rfl ?_ | refine jc (c_weighZ _ _ al.wt (by have := al.1.2.2; omega) wn.2 (by have := al.2; omega)) (LeL.refl _) rfl rfl ?_) | (refine j_kGuard rfl ?_; first | (refine (j_if rfl rfl rfl (fun hb => ?_) (fun hb => ?_)) <;> first | (exfalso; omega) | skip)) | refine j_box rfl rfl rfl rfl rfl rfl ?_)
      | refine j_nil ?_
      | (refine r_go ?_; first | refine run_seq ?_ | refine run_region ?_ | (refine (run_ifn rfl (fun hb => ?_) (fun hb => ?_)) <;> first | (exfalso; omega) | skip) | refine run_block ?_ | refine run_ret ?_ | refine run_skip ?_ | refine run_regionD (by kernel_rfl) ?_)
      | refine seqQ_normal ?_ | refine seqQ_ret ?_)
  · exact absurd hW (by assumption)
  have hcl := hs.1
  have eM : md (plc s) W = tot (List.zipWith dot s.cells W) + dot s.around W[p.parents.length] := md_plc hs hWl
  have hz : (List.zipWith dot s.cells W).length = s.cells.length := by rw [List.length_zipWith]; omega
  have bz : ∀ x ∈ List.zipWith dot s.cells W, -8000000 ≤ x ∧ x ≤ 8000000 := fun x hx => by
    obtain ⟨i, hi, rfl⟩ := List.getElem_of_mem hx
    rw [List.length_zipWith] at hi
    rw [List.getElem_zipWith]
    have q := hs.2.2.1 _ (List.getElem_mem (n := i) (show i < s.cells.length by omega))
    exact dot_bndZ q.wt q.1.2.2 (hW.at (by omega)).2
  have ba := dot_bndZ al.wt al.1.2.2 wn.2
  refine run_loop (fun k : Nat => [(2, .sl (W.map (encS Go.AI.encI))), (9, .int (dot s.around W[p.parents.length] + sumF (fun x => x) ((List.zipWith dot s.cells W).take k))), (35, .sl (s.cells.map (encS Go.AI.encI))), (36, .int s.cells.length), (37, .int (k : Int))]) (fun _ => _) (fun k => k ≤ s.cells.length ∧ (True)) (fun k => s.cells.length - k) 0 ⟨rfl, (by first | rfl | exact si (by first | omega | (simp; done) | (simp [sumF]; done) | (simp; omega)) | exact raw_f (by simp) | exact raw_t (by simp) | exact sa (by first | (rw [catK_zero]; rfl) | (rw [catK_zero, List.append_nil]; rfl) | (rw [catK_zero, List.append_nil]) | (rw [joinK_zero, List.append_nil]; rfl) | (rw [joinK_zero, List.append_nil]) | (simp [catK]; done))), rfl, rfl, rfl, trivial⟩ rfl ⟨Nat.zero_le _, by first | (intros; omega) | (simp; done) | rfl | trivial | exact ⟨by simp [sumF], by intros; omega⟩ | exact ⟨by omega, by simp⟩⟩ (fun k ⟨kl, kp⟩ => ?_)
  have b1 := sumF_take (fun x => x) _ bz k (by omega)
  by_cases hk : k < s.cells.length
  · have q := hs.2.2.1 _ (List.getElem_mem hk)
    have w := hW.at (show k < W.length by omega)
    have b2 := dot_bndZ q.wt q.1.2.2 w.2
    repeat' (first
      | (refine j_go ?_; first
        | refine j_op0 rfl rfl rfl rfl ?_ | (refine j_kIdx rfl ?_; first | refine j_idx rfl rfl rfl rfl rfl (by omega) rfl rfl rfl ?_) | (refine j_kBin rfl ?_; first | refine j_in rfl rfl ⟨by omega, by omega⟩ rfl rfl ?_) | (refine j_kCall rfl rfl rfl rfl ?_; first | refine jc (c_weighZ _ _ q.wt (by have := q.1.2.2; omega) w.2 (by have := q.2; omega)) (LeL.refl _) rfl rfl ?_))
      | refine j_nil ?_
      | (refine r_go ?_; first | refine run_seq ?_ | refine run_region ?_ | (refine (run_if rfl (fun hb => ?_) (fun hb => ?_)) <;> first | (exfalso; omega) | skip) | refine run_block ?_ | refine run_skip ?_)
      | refine seqQ_normal ?_ | refine blockQ_normal ?_)
    exact loopQ_nextD (k + 1) ⟨by omega, trivial⟩ (by omega) (by first | exact List.Sublist.refl _ | exact sub1 | exact sub2 | exact sub3) ⟨rfl, (by first | rfl | (rw [sumF_succ (fun x => x) (by omega), List.getElem_zipWith, Int.add_assoc]; try rfl) | exact si (by omega)), rfl, rfl, nx _, trivial⟩
  · repeat' (first
      | (refine j_go ?_; first
        | refine j_op0 rfl rfl rfl rfl ?_)
      | refine j_nil ?_
      | (refine r_go ?_; first | refine run_seq ?_ | refine run_region ?_ | (refine (run_if rfl (fun hb => ?_) (fun hb => ?_)) <;> first | (exfalso; omega) | skip) | refine run_ret ?_ | refine run_exit ?_)
      | refine seqQ_normal ?_ | refine seqQ_exit ?_ | refine blockQ_eq ?_ | refine loopQ_exit ?_)
    exact end2 rfl rfl (List.Sublist.refl _) (by rw [eM, List.take_of_length_le (by omega), Int.add_comm]; rfl) (.inl rfl)
end Go.Proofs.Ytahjliejgjjfeaa
