/-
  States: what WeighState of the reference and of the program compute. No condition.
-/
import Derived.Test.YtbcplkmkdggpjaaGreatZS3c
import Derived.Test.YtbcplkmkdggpjaaGreatZE4
namespace Go.Proofs.YtbcplkmkdggpjaaGreat
open Go.AI
set_option maxRecDepth 8000
set_option maxHeartbeats 1600000

theorem zip_len {g : Int → Int → Int} {a b : List Int} (h : a.length ≤ b.length) : (List.zipWith g a b).length = a.length := by simp; omega
theorem zip_succ {g : Int → Int → Int} {a b : List Int} {k : Nat} (ha : k < a.length) (hb : k < b.length) : (List.zipWith g a b).take k ++ [g a[k] b[k]] = (List.zipWith g a b).take (k + 1) := by
  rw [List.take_succ_eq_append_getElem (by simp; omega)]; simp

theorem c_both (of : FuncId) (caps : List A) (g : Int → Int → Int) (a b : List Int) (hg : ∀ k (ha : k < a.length) (hb : k < b.length), Gives Tryz.prog of (.int a[k] :: .int b[k] :: caps) (.int (g a[k] b[k]))) (hl : a.length ≤ b.length) (hn : a.length ≤ 1000000) : Gives Tryz.prog 68 [.sl (a.map encI), .sl (b.map encI), .fn of caps] (.sl ((List.zipWith g a b).map encI)) := by
  refine fn_of_run tyOk ztOk mix Tryz.func68 rfl (by decide) Tryz.ntmps68 (fun w0 h => ?_)
  have hz := zip_len (g := g) hl
  repeat' (first
      | (refine j_go ?_; first
        | refine j_op0 rfl rfl rfl rfl ?_ | (refine j_kLen rfl ?_; first | refine j_len rfl rfl rfl rfl rfl rfl ?_) | (refine j_kBsl rfl ?_; first | refine j_bs0 rfl rfl rfl rfl rfl rfl ?_))
      | refine j_nil ?_
      | (refine r_go ?_; first | refine run_seq ?_ | refine run_region ?_ | refine run_block ?_)
      | refine seqQ_normal ?_)
  refine run_view (view_none 2 0 rfl) ?_
  refine run_loop (fun s : Nat × Option Nat × Nat => [(1, .sl (b.map encI)), (2, .fn of caps), (7, .os s.2.1 ((List.zipWith g a b).take s.1).length s.2.2), (11, .sl (a.map encI)), (12, .int a.length), (13, .int (s.1 : Int))]) (fun s => ⟨s.2.1, 2, s.2.2 * 1, (((List.zipWith g a b).take s.1).map encI).flatten⟩ :: h) (fun s => s.1 ≤ a.length) (fun s => a.length - s.1) (0, none, 0) ⟨rfl, rfl, rfl, rfl, rfl, rfl, trivial⟩ rfl (Nat.zero_le _) (fun ⟨k, ob, cp⟩ kl => ?_)
  dsimp only at kl ⊢
  by_cases hk : k < a.length
  · have hkb : k < b.length := by omega
    have hz2 : ((List.zipWith g a b).take k).length = k := by rw [List.length_take]; omega
    repeat' (first
      | (refine j_go ?_; first
        | refine j_op0 rfl rfl rfl rfl ?_ | (refine j_kIdx rfl ?_; first | refine j_idx rfl rfl rfl rfl rfl (by omega) rfl rfl rfl ?_) | (refine j_kCall rfl rfl rfl rfl ?_; first | refine jc (hg k hk hkb) (LeL.refl _) rfl rfl ?_) | (refine j_kBsl rfl ?_; first | refine j_bsl rfl rfl rfl rfl rfl rfl rfl rfl rfl rfl rfl ?_))
      | refine j_nil ?_
      | (refine r_go ?_; first | refine run_seq ?_ | refine run_region ?_ | (refine (run_if rfl (fun hb => ?_) (fun hb => ?_)) <;> first | (exfalso; omega) | skip) | refine run_block ?_ | refine run_skip ?_)
      | refine seqQ_normal ?_)
    refine j_append 0 (g := encI) [g a[k] b[k]] rfl rfl rfl rfl rfl rfl rfl rfl rfl rfl rfl rfl (fun _ => rfl) (fun _ _ => rfl) ⟨by rw [hz2]; simp only [List.length_cons, List.length_nil]; omega, by rw [hz2]; simp only [List.length_cons, List.length_nil]; omega⟩ rfl rfl (fun b' cap' => ?_)
    rw [zip_succ hk hkb]
    repeat' (first
      | (refine j_go ?_; first
        | refine j_op0 rfl rfl rfl rfl ?_ | (refine j_kBin rfl ?_; first | refine j_in rfl rfl ⟨by omega, by omega⟩ rfl rfl ?_))
      | refine j_nil ?_
      | (refine r_go ?_; first | refine run_region ?_)
      | refine seqQ_normal ?_ | refine blockQ_normal ?_)
    exact loopQ_next (k + 1, b', cap') (by dsimp only; omega) (by dsimp only; omega) rfl ⟨rfl, rfl, rfl, rfl, rfl, nx _, trivial⟩
  · repeat' (first
      | (refine j_go ?_; first
        | refine j_op0 rfl rfl rfl rfl ?_)
      | refine j_nil ?_
      | (refine r_go ?_; first | refine run_seq ?_ | refine run_region ?_ | (refine (run_if rfl (fun hb => ?_) (fun hb => ?_)) <;> first | (exfalso; omega) | skip) | refine run_ret ?_ | refine run_exit ?_)
      | refine seqQ_normal ?_ | refine seqQ_exit ?_ | refine blockQ_eq ?_ | refine loopQ_exit ?_)
    refine end_view (view_freeze (g := encI) (z := 1) (ys := (List.zipWith g a b).take k) 0 6 rfl rfl rfl (fun _ => rfl) rfl rfl) ?_
    exact end1 rfl (List.Sublist.refl _) (by rw [List.take_of_length_le (by omega)]) (.inl rfl)

theorem mul_bnd {x y : Int} (hx : 0 ≤ x ∧ x ≤ 1000) (hy : -1000 ≤ y ∧ y ≤ 1000) : -1000000 ≤ x * y ∧ x * y ≤ 1000000 := by
  have h1 := Int.mul_le_mul_of_nonneg_left hy.1 hx.1
  have h2 := Int.mul_le_mul_of_nonneg_left hy.2 hx.1
  omega
def Wt (b : List Int) : Prop := ∀ x ∈ b, -1000 ≤ x ∧ x ≤ 1000
theorem zip_small {a b : List Int} (ha : Bag a) (hb : Wt b) : Small (List.zipWith (fun x y => x * y) a b) := by
  refine ⟨fun x hx => ?_, by have := ha.2; simp; omega⟩
  obtain ⟨i, hi, rfl⟩ := List.getElem_of_mem hx
  rw [List.length_zipWith] at hi
  rw [List.getElem_zipWith]
  have := mul_bnd (ha.1 _ (List.getElem_mem (n := i) (by omega))) (hb _ (List.getElem_mem (n := i) (by omega)))
  omega
def dot (a b : List Int) : Int := tot (List.zipWith (fun x y => x * y) a b)
theorem small_tot {b : List Int} (h : Small b) {n : Nat} (hn : b.length ≤ n) : -1000000000 * (n : Int) ≤ tot b ∧ tot b ≤ 1000000000 * n := by
  have := h.take b.length (Nat.le_refl _)
  rw [List.take_length] at this
  unfold tot; omega

theorem c_weigh1 (x y : Int) (h0 : -1000000 ≤ x * y ∧ x * y ≤ 1000000) : Gives Tryz.prog 69 [.int x, .int y] (.int (x * y)) := by
  refine fn_of_run tyOk ztOk mix Tryz.func69 rfl (by decide) Tryz.ntmps69 (fun w0 h => ?_)
  repeat' (first
      | (refine j_go ?_; first
        | refine j_op0 rfl rfl rfl rfl ?_ | (refine j_kBin rfl ?_; first | refine j_in rfl rfl ⟨by omega, by omega⟩ rfl rfl ?_))
      | refine j_nil ?_
      | (refine r_go ?_; first | refine run_seq ?_ | refine run_region ?_ | refine run_ret ?_)
      | refine seqQ_normal ?_)
  exact end1 rfl (List.Sublist.refl _) (rfl) (.inl rfl)

theorem c_weigh (a b : List Int) (ha : Bag a) (hb : Wt b) (hl : a.length ≤ b.length) : Gives Tryz.prog 49 [.sl (a.map encI), .sl (b.map encI)] (.int (dot a b)) := by
  refine fn_of_run tyOk ztOk mix Tryz.func49 rfl (by decide) Tryz.ntmps49 (fun w0 h => ?_)
  have ha2 := ha.2
  repeat' (first
      | (refine j_go ?_; first
        | refine j_op0 rfl rfl rfl rfl ?_ | (refine j_kCall rfl rfl rfl rfl ?_; first | refine jc (c_both _ _ (fun x y => x * y) _ _ (fun k h1 h2 => c_weigh1 _ _ (mul_bnd (ha.1 _ (List.getElem_mem h1)) (hb _ (List.getElem_mem h2)))) hl (by omega)) (LeL.refl _) rfl rfl ?_ | refine jc (c_bagSize _ (zip_small ha hb)) (LeL.refl _) rfl rfl ?_))
      | refine j_nil ?_
      | (refine r_go ?_; first | refine run_seq ?_ | refine run_region ?_ | refine run_ret ?_)
      | refine seqQ_normal ?_)
  exact end1 rfl (List.Sublist.refl _) (rfl) (.inl rfl)

theorem c_l02Dot (a b : List Int) (ha : Bag a) (hb : Wt b) (hl : a.length ≤ b.length) : Gives Tryz.prog 39 [.sl (a.map encI), .sl (b.map encI)] (.int (dot a b)) := by
  refine fn_of_run tyOk ztOk mix Tryz.func39 rfl (by decide) Tryz.ntmps39 (fun w0 h => ?_)
  have ha2 := ha.2
  have hz := zip_len (g := fun x y => x * y) hl
  have hS := zip_small ha hb
  repeat' (first
      | (refine j_go ?_; first
        | refine j_op0 rfl rfl rfl rfl ?_)
      | refine j_nil ?_
      | (refine r_go ?_; first | refine run_seq ?_ | refine run_region ?_ | refine run_block ?_)
      | refine seqQ_normal ?_)
  refine run_loop (fun k : Nat => [(0, .sl (a.map encI)), (1, .sl (b.map encI)), (5, .int (sumF (fun x => x) ((List.zipWith (fun x y => x * y) a b).take k))), (6, .int (k : Int))]) (fun _ => _) (fun k => k ≤ a.length ∧ (True)) (fun k => a.length - k) 0 ⟨rfl, rfl, (by first | rfl | exact si (by first | omega | (simp; done) | (simp [sumF]; done) | (simp; omega)) | exact raw_f (by simp) | exact raw_t (by simp) | exact sa (by first | (rw [catK_zero]; rfl) | (rw [catK_zero, List.append_nil]; rfl) | (rw [catK_zero, List.append_nil]) | (rw [joinK_zero, List.append_nil]; rfl) | (rw [joinK_zero, List.append_nil]) | (simp [catK]; done))), rfl, trivial⟩ rfl ⟨Nat.zero_le _, by first | (intros; omega) | (simp; done) | rfl | trivial | exact ⟨by simp [sumF], by intros; omega⟩ | exact ⟨by omega, by simp⟩⟩ (fun k ⟨kl, kp⟩ => ?_)
  have b1 := hS.take k (by omega)
  by_cases hk : k < a.length
  · have hkb : k < b.length := by omega
    have b2 := mul_bnd (ha.1 _ (List.getElem_mem hk)) (hb _ (List.getElem_mem hkb))
    repeat' (first
      | (refine j_go ?_; first
        | refine j_op0 rfl rfl rfl rfl ?_ | (refine j_kIdx rfl ?_; first | refine j_idx rfl rfl rfl rfl rfl (by omega) rfl rfl rfl ?_) | (refine j_kBin rfl ?_; first | refine j_in rfl rfl ⟨by omega, by omega⟩ rfl rfl ?_) | (refine j_kLen rfl ?_; first | refine j_len rfl rfl rfl rfl rfl rfl ?_))
      | refine j_nil ?_
      | (refine r_go ?_; first | refine run_seq ?_ | refine run_region ?_ | (refine (run_if rfl (fun hb => ?_) (fun hb => ?_)) <;> first | (exfalso; omega) | skip) | refine run_block ?_ | refine run_skip ?_ | refine run_regionD (by kernel_rfl) ?_)
      | refine seqQ_normal ?_ | refine blockQ_normal ?_)
    exact loopQ_nextD (k + 1) ⟨by omega, trivial⟩ (by omega) (by first | exact List.Sublist.refl _ | exact sub1 | exact sub2 | exact sub3) ⟨rfl, rfl, (by first | rfl | (rw [sumF_succ (fun x => x) (by omega), List.getElem_zipWith]; try rfl) | exact si (by omega)), nx _, trivial⟩
  · repeat' (first
      | (refine j_go ?_; first
        | refine j_op0 rfl rfl rfl rfl ?_ | (refine j_kLen rfl ?_; first | refine j_len rfl rfl rfl rfl rfl rfl ?_))
      | refine j_nil ?_
      | (refine r_go ?_; first | refine run_seq ?_ | refine run_region ?_ | (refine (run_if rfl (fun hb => ?_) (fun hb => ?_)) <;> first | (exfalso; omega) | skip) | refine run_ret ?_ | refine run_exit ?_)
      | refine seqQ_normal ?_ | refine seqQ_exit ?_ | refine blockQ_eq ?_ | refine loopQ_exit ?_)
    exact end1 rfl (List.Sublist.refl _) (ai (by rw [List.take_of_length_le (by omega)]; rfl)) (.inl rfl)

/-- Weights for a system. -/
def System.Wts (s : System) (ws : List (List Int)) : Prop := (∀ i (h : i < ws.length), (ws[i].length : Int) = s.kinds ∧ Wt ws[i]) ∧ (ws.length : Int) = (s.parents.length : Int) + 1

theorem c_l02Weights (s : System) (ws : List (List Int)) (hf : s.Frame) : Gives Tryz.prog 19 [.ip (encSystem s), .sl (ws.map (encS encI))] (.raw (.bool (dec (s.Wts ws)))) := by
  refine fn_of_run tyOk ztOk mix Tryz.func19 rfl (by decide) Tryz.ntmps19 (fun w0 h => ?_)
  have hk1 := hf.1
  have hl := hf.2.1
  refine run_len (t := 1) rfl (fun hn => ?_)
  rw [List.length_map] at hn
  repeat' (first
      | (refine j_go ?_; first
        | refine j_op0 rfl rfl rfl rfl ?_)
      | refine j_nil ?_
      | (refine r_go ?_; first | refine run_seq ?_ | refine run_region ?_ | refine run_block ?_)
      | refine seqQ_normal ?_)
  refine run_loop (fun k : Nat => [(0, .ip (encSystem s)), (1, .sl (ws.map (encS encI))), (5, .int (k : Int))]) (fun _ => _) (fun k => k ≤ ws.length ∧ (∀ i (h : i < ws.length), i < k → (ws[i].length : Int) = s.kinds ∧ Wt ws[i])) (fun k => ws.length - k) 0 ⟨rfl, rfl, rfl, trivial⟩ rfl ⟨Nat.zero_le _, by first | (intros; omega) | (simp; done) | rfl | trivial | exact ⟨by simp [sumF], by intros; omega⟩ | exact ⟨by omega, by simp⟩⟩ (fun k ⟨kl, kp⟩ => ?_)
  repeat' (first
      | (refine j_go ?_; first
        | refine j_op0 rfl rfl rfl rfl ?_ | (refine j_kIdx rfl ?_; first | refine j_idx rfl rfl rfl rfl rfl (by omega) rfl rfl rfl ?_) | (refine j_kBin rfl ?_; first | refine j_in rfl rfl ⟨by omega, by omega⟩ rfl rfl ?_) | (refine j_kLen rfl ?_; first | refine j_len rfl rfl rfl rfl rfl rfl ?_))
      | refine j_nil ?_
      | (refine r_go ?_; first | refine run_seq ?_ | refine run_region ?_ | (refine (run_if rfl (fun hb => ?_) (fun hb => ?_)) <;> first | (exfalso; omega) | skip) | (refine (run_ifn rfl (fun hb => ?_) (fun hb => ?_)) <;> first | (exfalso; omega) | skip) | refine run_block ?_ | refine run_ret ?_ | refine run_exit ?_ | refine run_skip ?_ | refine run_regionD (by kernel_rfl) ?_)
      | refine seqQ_normal ?_ | refine seqQ_ret ?_ | refine seqQ_exit ?_ | refine blockQ_ret ?_ | refine blockQ_eq ?_ | refine loopQ_ret ?_ | refine loopQ_exit ?_)
  · exact end1 rfl (by first | exact List.Sublist.refl _ | exact sub1 | exact sub2 | exact sub3) (rbF (fun q => hb (q.1 k (by omega)).1)) (.inl rfl)
  · have hk : k < ws.length := by omega
    have hw : (ws[k].length : Int) = s.kinds := hb
    refine run_loop (fun j : Nat => [(0, .ip (encSystem s)), (1, .sl (ws.map (encS encI))), (5, .int (k : Int)), (6, .int (j : Int))]) (fun _ => _) (fun j => j ≤ ws[k].length ∧ (∀ i (h : i < ws[k].length), i < j → -1000 ≤ ws[k][i] ∧ ws[k][i] ≤ 1000)) (fun j => ws[k].length - j) 0 ⟨rfl, rfl, rfl, rfl, trivial⟩ rfl ⟨Nat.zero_le _, by first | (intros; omega) | (simp; done) | rfl | trivial | exact ⟨by simp [sumF], by intros; omega⟩ | exact ⟨by omega, by simp⟩⟩ (fun j ⟨jl, jp⟩ => ?_)
    repeat' (first
      | (refine j_go ?_; first
        | refine j_op0 rfl rfl rfl rfl ?_ | (refine j_kIdx rfl ?_; first | refine j_idx rfl rfl rfl rfl rfl (by omega) rfl rfl rfl ?_) | (refine j_kBin rfl ?_; first | refine j_in rfl rfl ⟨by omega, by omega⟩ rfl rfl ?_) | (refine j_kLen rfl ?_; first | refine j_len rfl rfl rfl rfl rfl rfl ?_) | (refine j_kCall rfl rfl rfl rfl ?_; first | refine jc (c_l00In _ _ _) (LeL.refl _) rfl rfl ?_))
      | refine j_nil ?_
      | (refine r_go ?_; first | refine run_seq ?_ | refine run_region ?_ | (refine (run_if rfl (fun hb => ?_) (fun hb => ?_)) <;> first | (exfalso; omega) | skip) | (refine (run_ifn rfl (fun hb => ?_) (fun hb => ?_)) <;> first | (exfalso; omega) | skip) | refine run_block ?_ | refine run_ret ?_ | refine run_exit ?_ | refine run_skip ?_)
      | refine seqQ_normal ?_ | refine seqQ_ret ?_ | refine seqQ_exit ?_ | refine blockQ_normal ?_ | refine blockQ_ret ?_ | refine blockQ_eq ?_ | refine loopQ_ret ?_ | refine loopQ_exit ?_)
    · exact end1 rfl (by first | exact List.Sublist.refl _ | exact sub1 | exact sub2 | exact sub3) (rbF (fun q => hb ((q.1 k hk).2 _ (List.getElem_mem _)))) (.inl rfl)
    · exact loopQ_nextD (j + 1) ⟨by omega, all_step jp (fun _ => hb)⟩ (by omega) (by first | exact List.Sublist.refl _ | exact sub1 | exact sub2 | exact sub3) ⟨rfl, rfl, rfl, nx _, trivial⟩
    · exact loopQ_nextD (k + 1) ⟨by omega, all_step kp (fun _ => ⟨hw, fun x hx => by obtain ⟨i, hi, rfl⟩ := List.getElem_of_mem hx; exact jp i hi (by omega)⟩)⟩ (by omega) (by first | exact List.Sublist.refl _ | exact sub1 | exact sub2 | exact sub3) ⟨rfl, rfl, nx _, trivial⟩
  · exact end1 rfl (List.Sublist.refl _) (rbD ⟨fun q => ⟨fun i h => kp i h (by omega), q⟩, fun q => q.2⟩) (.inl rfl)

theorem c_areWeights11 (x : Int) : Gives Tryz.prog 80 [.int x] (.raw (.bool (dec (¬ (-1000 ≤ x ∧ x ≤ 1000))))) := by
  refine fn_of_run tyOk ztOk mix Tryz.func80 rfl (by decide) Tryz.ntmps80 (fun w0 h => ?_)
  repeat' (first
      | (refine j_go ?_; first
        | refine j_op0 rfl rfl rfl rfl ?_ | (refine j_kCall rfl rfl rfl rfl ?_; first | refine jc (c_inRange _ _ _) (LeL.refl _) rfl rfl ?_))
      | refine j_nil ?_
      | (refine r_go ?_; first | refine run_seq ?_ | refine run_region ?_ | refine run_ret ?_)
      | refine seqQ_normal ?_)
  exact end1 rfl (List.Sublist.refl _) (rbN Iff.rfl) (.inl rfl)
theorem c_areWeights1 (s : System) (l : List Int) : Gives Tryz.prog 79 [.sl (l.map encI), .ip (encSystem s)] (.raw (.bool (dec (¬ ((l.length : Int) = s.kinds ∧ Wt l))))) := by
  refine fn_of_run tyOk ztOk mix Tryz.func79 rfl (by decide) Tryz.ntmps79 (fun w0 h => ?_)
  repeat' (first
      | (refine j_go ?_; first
        | refine j_op0 rfl rfl rfl rfl ?_ | refine j_off rfl rfl rfl ?_ | (refine j_kCall rfl rfl rfl rfl ?_; first | refine jc (c_sizeI _) (LeL.refl _) rfl rfl ?_ | refine jc (c_cfI _ _ (fun x => ¬ (-1000 ≤ x ∧ x ≤ 1000)) _ (fun x _ => c_areWeights11 x)) (LeL.refl _) rfl rfl ?_) | (refine j_kGuard rfl ?_; first | (refine (j_ifn rfl rfl rfl (fun hb => ?_) (fun hb => ?_)) <;> first | (exfalso; omega) | skip)))
      | refine j_nil ?_
      | (refine r_go ?_; first | refine run_seq ?_ | refine run_region ?_ | refine run_ret ?_ | refine run_regionD (by kernel_rfl) ?_)
      | refine seqQ_normal ?_)
  · exact end1 rfl (by first | exact List.Sublist.refl _ | exact sub1 | exact sub2 | exact sub3) (rbT (fun q => hb q.1)) (.inl rfl)
  · exact end1 rfl (List.Sublist.refl _) (rbD ⟨fun ⟨x, hx, q⟩ p => q (p.2 x hx), fun q => Classical.byContradiction fun p => q ⟨hb, fun x hx => Classical.byContradiction fun r => p ⟨x, hx, r⟩⟩⟩) (.inl rfl)
theorem c_areWeights (s : System) (ws : List (List Int)) (hl : s.parents.length ≤ 6) : Gives Tryz.prog 64 [.agg (encSystem s), .sl (ws.map (encS encI))] (.raw (.bool (dec (s.Wts ws)))) := by
  refine fn_of_run tyOk ztOk mix Tryz.func64 rfl (by decide) Tryz.ntmps64 (fun w0 h => ?_)
  repeat' (first
      | (refine j_go ?_; first
        | refine j_op0 rfl rfl rfl rfl ?_ | refine j_off rfl rfl rfl ?_ | (refine j_kBin rfl ?_; first | refine j_in rfl rfl ⟨by omega, by omega⟩ rfl rfl ?_) | (refine j_kLen rfl ?_; first | refine j_len rfl rfl rfl rfl rfl rfl ?_) | (refine j_kCall rfl rfl rfl rfl ?_; first | refine jc (c_cfS _ _ (fun l => ¬ ((l.length : Int) = s.kinds ∧ Wt l)) _ (fun l _ => c_areWeights1 s l)) (LeL.refl _) rfl rfl ?_) | (refine j_kGuard rfl ?_; first | (refine (j_if rfl rfl rfl (fun hb => ?_) (fun hb => ?_)) <;> first | (exfalso; omega) | skip)) | refine j_box rfl rfl rfl rfl rfl rfl ?_)
      | refine j_nil ?_
      | (refine r_go ?_; first | refine run_seq ?_ | refine run_region ?_ | refine run_ret ?_)
      | refine seqQ_normal ?_)
  · exact end1 rfl (List.Sublist.refl _) (rbN ⟨fun q => ⟨fun i h => Classical.byContradiction fun p => q ⟨_, List.getElem_mem h, p⟩, hb⟩, fun q ⟨l, hl, p⟩ => by obtain ⟨i, hi, rfl⟩ := List.getElem_of_mem hl; exact p (q.1 i hi)⟩) (.inl rfl)
  · exact end1 rfl (by first | exact List.Sublist.refl _ | exact sub1 | exact sub2 | exact sub3) (rbF (fun q => hb q.2)) (.inl rfl)

/-- The weight of a state. -/
def wgh (t : State) (ws : List (List Int)) : Int := dot t.around (ws.getD t.bags.length []) + tot (List.zipWith dot t.bags ws)
def System.WP (s : System) (t : State) : Prop := s.Ok ∧ s.StateOk t

theorem dot_bnd {a b : List Int} (ha : Bag a) (hb : Wt b) : -8000000000 ≤ dot a b ∧ dot a b ≤ 8000000000 := by
  have := small_tot (zip_small ha hb) (n := 8) (by have := ha.2; rw [List.length_zipWith]; omega)
  unfold dot; omega

theorem bags_small {s : System} {t : State} {ws : List (List Int)} (ht : s.StateOk t) (hw : s.Wts ws) : ∀ x ∈ List.zipWith dot t.bags ws, -8000000000 ≤ x ∧ x ≤ 8000000000 := fun x hx => by
  obtain ⟨i, hi, rfl⟩ := List.getElem_of_mem hx
  rw [List.length_zipWith] at hi
  rw [List.getElem_zipWith]
  exact dot_bnd (ht.2.2.2.2 i (by omega)).1.1 (hw.1 i (by omega)).2

theorem wgh_take {s : System} {t : State} {ws : List (List Int)} (ht : s.StateOk t) (hw : s.Wts ws) (k : Nat) (hk : k ≤ (List.zipWith dot t.bags ws).length) : -8000000000 * (k : Int) ≤ sumF (fun x => x) ((List.zipWith dot t.bags ws).take k) ∧ sumF (fun x => x) ((List.zipWith dot t.bags ws).take k) ≤ 8000000000 * (k : Int) :=
  sumF_take (fun x => x) _ (bags_small ht hw) k hk

theorem c_sWeighState (s : System) (t : State) (ws : List (List Int)) : Gives Tryz.prog 21 [.agg (encSystem s), .agg (encState t), .sl (ws.map (encS encI))] (.tup [.int (numP (s.WP t ∧ s.Wts ws) (wgh t ws)), .int (cd2 (s.WP t) (s.Wts ws))]) := by
  refine fn_of_run tyOk ztOk mix Tryz.func21 rfl (by decide) Tryz.ntmps21 (fun w0 h => ?_)
  repeat' (first
      | (refine j_go ?_; first
        | refine j_op0 rfl rfl rfl rfl ?_ | refine j_off rfl rfl rfl ?_ | (refine j_kCall rfl rfl rfl rfl ?_; first | refine jc (c_l02Ok _) (LeL.refl _) rfl rfl ?_) | (refine j_kGuard rfl ?_; first | (refine (j_ifn rfl rfl rfl (fun hb => ?_) (fun hb => ?_)) <;> first | (exfalso; omega) | skip)) | refine j_box rfl rfl rfl rfl rfl rfl ?_)
      | refine j_nil ?_
      | (refine r_go ?_; first | refine run_seq ?_ | refine run_region ?_ | refine run_cond_t rfl ?_ | refine run_ret ?_)
      | refine seqQ_normal ?_ | refine seqQ_ret ?_)
  all_goals first
    | exact end2 rfl rfl (List.Sublist.refl _) (by rw [num_f (fun q => absurd q.1.1 (by assumption)), cd2_f (fun q => absurd q.1 (by assumption))]; rfl) (.inl rfl)
    | skip
  have hv : s.Ok := by assumption
  have hl := hv.1.2.1
  repeat' (first
      | (refine j_go ?_; first
        | refine j_op0 rfl rfl rfl rfl ?_ | (refine j_kLen rfl ?_; first | refine j_len rfl rfl rfl rfl rfl rfl ?_) | (refine j_kCall rfl rfl rfl rfl ?_; first | refine jc (c_l02State _ _ hl) (LeL.refl _) rfl rfl ?_ | refine jc (c_l02Weights _ _ hv.1) (LeL.refl _) rfl rfl ?_))
      | refine j_nil ?_
      | (refine r_go ?_; first | refine run_seq ?_ | refine run_region ?_ | (refine (run_ifn rfl (fun hb => ?_) (fun hb => ?_)) <;> first | (exfalso; omega) | skip) | refine run_ret ?_ | refine run_skip ?_ | refine run_regionD (by kernel_rfl) ?_)
      | refine seqQ_normal ?_ | refine seqQ_ret ?_)
  · exact end2 rfl rfl (List.Sublist.refl _) (by rw [num_f (fun q => hb q.1.2), cd2_f (fun q => hb q.2)]; rfl) (.inl rfl)
  · have ht : s.StateOk t := by assumption
    exact end2 rfl rfl (List.Sublist.refl _) (by rw [num_f (fun q => hb q.2), cd2_t ⟨hv, ht⟩ hb]; rfl) (.inl rfl)
  · have ht : s.StateOk t := by assumption
    have hw : s.Wts ws := by assumption
    have t2 := ht.2.1
    have w2 := hw.2
    have k1 := hv.1.1
    have hbl : t.bags.length < ws.length := by omega
    have ar := ht.2.2.2.1
    have wa := hw.1 _ hbl
    have d0 := dot_bnd ar.1 wa.2
    have hz : (List.zipWith dot t.bags ws).length = t.bags.length := by simp; omega
    have ew : wgh t ws = dot t.around ws[t.bags.length] + tot (List.zipWith dot t.bags ws) := by unfold wgh; rw [getD_get hbl]
    repeat' (first
      | (refine j_go ?_; first
        | refine j_op0 rfl rfl rfl rfl ?_ | (refine j_kIdx rfl ?_; first | refine j_idx rfl rfl rfl rfl rfl (by omega) rfl rfl rfl ?_) | (refine j_kCall rfl rfl rfl rfl ?_; first | refine jc (c_l02Dot _ _ ar.1 wa.2 (by have := ar.2; omega)) (LeL.refl _) rfl rfl ?_))
      | refine j_nil ?_
      | (refine r_go ?_; first | refine run_seq ?_ | refine run_region ?_ | refine run_block ?_)
      | refine seqQ_normal ?_)
    refine run_loop (fun k : Nat => [(2, .sl (ws.map (encS encI))), (4, .ip (encState t)), (8, .int (dot t.around ws[t.bags.length] + sumF (fun x => x) ((List.zipWith dot t.bags ws).take k))), (9, .int (k : Int))]) (fun _ => _) (fun k => k ≤ t.bags.length ∧ (True)) (fun k => t.bags.length - k) 0 ⟨rfl, rfl, (by first | rfl | exact si (by first | omega | (simp; done) | (simp [sumF]; done) | (simp; omega)) | exact raw_f (by simp) | exact raw_t (by simp) | exact sa (by first | (rw [catK_zero]; rfl) | (rw [catK_zero, List.append_nil]; rfl) | (rw [catK_zero, List.append_nil]) | (rw [joinK_zero, List.append_nil]; rfl) | (rw [joinK_zero, List.append_nil]) | (simp [catK]; done))), rfl, trivial⟩ rfl ⟨Nat.zero_le _, by first | (intros; omega) | (simp; done) | rfl | trivial | exact ⟨by simp [sumF], by intros; omega⟩ | exact ⟨by omega, by simp⟩⟩ (fun k ⟨kl, kp⟩ => ?_)
    have b1 := wgh_take ht hw k (by omega)
    by_cases hk : k < t.bags.length
    · have hk2 : k < ws.length := by omega
      have d1 := dot_bnd (ht.2.2.2.2 k hk).1.1 (hw.1 k hk2).2
      repeat' (first
      | (refine j_go ?_; first
        | refine j_op0 rfl rfl rfl rfl ?_ | (refine j_kIdx rfl ?_; first | refine j_idx rfl rfl rfl rfl rfl (by omega) rfl rfl rfl ?_) | (refine j_kBin rfl ?_; first | refine j_in rfl rfl ⟨by omega, by omega⟩ rfl rfl ?_) | (refine j_kLen rfl ?_; first | refine j_len rfl rfl rfl rfl rfl rfl ?_) | (refine j_kCall rfl rfl rfl rfl ?_; first | refine jc (c_l02Dot _ _ (ht.2.2.2.2 k hk).1.1 (hw.1 k hk2).2 (by have := (ht.2.2.2.2 k hk).1.2; have := (hw.1 k hk2).1; omega)) (LeL.refl _) rfl rfl ?_))
      | refine j_nil ?_
      | (refine r_go ?_; first | refine run_seq ?_ | refine run_region ?_ | (refine (run_if rfl (fun hb => ?_) (fun hb => ?_)) <;> first | (exfalso; omega) | skip) | refine run_block ?_ | refine run_skip ?_ | refine run_regionD (by kernel_rfl) ?_)
      | refine seqQ_normal ?_ | refine blockQ_normal ?_)
      exact loopQ_nextD (k + 1) ⟨by omega, trivial⟩ (by omega) (by first | exact List.Sublist.refl _ | exact sub1 | exact sub2 | exact sub3) ⟨rfl, rfl, (by first | rfl | (rw [sumF_succ (fun x => x) (by omega), List.getElem_zipWith]; exact si (by omega)) | exact si (by omega)), nx _, trivial⟩
    · repeat' (first
      | (refine j_go ?_; first
        | refine j_op0 rfl rfl rfl rfl ?_ | (refine j_kLen rfl ?_; first | refine j_len rfl rfl rfl rfl rfl rfl ?_))
      | refine j_nil ?_
      | (refine r_go ?_; first | refine run_seq ?_ | refine run_region ?_ | (refine (run_if rfl (fun hb => ?_) (fun hb => ?_)) <;> first | (exfalso; omega) | skip) | refine run_ret ?_ | refine run_exit ?_)
      | refine seqQ_normal ?_ | refine seqQ_exit ?_ | refine blockQ_eq ?_ | refine loopQ_exit ?_)
      exact end2 rfl rfl (List.Sublist.refl _) (by rw [num_t ⟨⟨hv, ht⟩, hw⟩, cd2_o ⟨hv, ht⟩ hw, ew, List.take_of_length_le (by omega)]; rfl) (.inl rfl)

theorem c_weighState (s : System) (t : State) (ws : List (List Int)) (hv : s.Ok) (ht : s.StateOk t) (hw : s.Wts ws) : Gives Tryz.prog 27 [.agg (encState t), .sl (ws.map (encS encI))] (.int (wgh t ws)) := by
  refine fn_of_run tyOk ztOk mix Tryz.func27 rfl (by decide) Tryz.ntmps27 (fun w0 h => ?_)
  have hl := hv.1.2.1
  have t2 := ht.2.1
  have w2 := hw.2
  have k1 := hv.1.1
  have hbl : t.bags.length < ws.length := by omega
  have ar := ht.2.2.2.1
  have wa := hw.1 _ hbl
  have d0 := dot_bnd ar.1 wa.2
  have hz : (List.zipWith dot t.bags ws).length = t.bags.length := by simp; omega
  have ew : wgh t ws = dot t.around ws[t.bags.length] + tot (List.zipWith dot t.bags ws) := by unfold wgh; rw [getD_get hbl]
  repeat' (first
      | (refine j_go ?_; first
        | refine j_op0 rfl rfl rfl rfl ?_ | (refine j_kIdx rfl ?_; first | refine j_idx rfl rfl rfl rfl rfl (by omega) rfl rfl rfl ?_) | (refine j_kLen rfl ?_; first | refine j_len rfl rfl rfl rfl rfl rfl ?_) | (refine j_kCall rfl rfl rfl rfl ?_; first | refine jc (c_weigh _ _ ar.1 wa.2 (by have := ar.2; omega)) (LeL.refl _) rfl rfl ?_) | refine j_box rfl rfl rfl rfl rfl rfl ?_)
      | refine j_nil ?_
      | (refine r_go ?_; first | refine run_seq ?_ | refine run_region ?_ | refine run_block ?_ | refine run_regionD (by kernel_rfl) ?_)
      | refine seqQ_normal ?_)
  refine run_loop (fun k : Nat => [(1, .sl (ws.map (encS encI))), (5, .int (dot t.around ws[t.bags.length] + sumF (fun x => x) ((List.zipWith dot t.bags ws).take k))), (18, .sl (t.bags.map (encS encI))), (19, .int t.bags.length), (20, .int (k : Int))]) (fun _ => _) (fun k => k ≤ t.bags.length ∧ (True)) (fun k => t.bags.length - k) 0 ⟨rfl, (by first | rfl | exact si (by first | omega | (simp; done) | (simp [sumF]; done) | (simp; omega)) | exact raw_f (by simp) | exact raw_t (by simp) | exact sa (by first | (rw [catK_zero]; rfl) | (rw [catK_zero, List.append_nil]; rfl) | (rw [catK_zero, List.append_nil]) | (rw [joinK_zero, List.append_nil]; rfl) | (rw [joinK_zero, List.append_nil]) | (simp [catK]; done))), rfl, rfl, rfl, trivial⟩ rfl ⟨Nat.zero_le _, by first | (intros; omega) | (simp; done) | rfl | trivial | exact ⟨by simp [sumF], by intros; omega⟩ | exact ⟨by omega, by simp⟩⟩ (fun k ⟨kl, kp⟩ => ?_)
  have b1 := wgh_take ht hw k (by omega)
  by_cases hk : k < t.bags.length
  · have hk2 : k < ws.length := by omega
    have d1 := dot_bnd (ht.2.2.2.2 k hk).1.1 (hw.1 k hk2).2
    repeat' (first
      | (refine j_go ?_; first
        | refine j_op0 rfl rfl rfl rfl ?_ | (refine j_kIdx rfl ?_; first | refine j_idx rfl rfl rfl rfl rfl (by omega) rfl rfl rfl ?_) | (refine j_kBin rfl ?_; first | refine j_in rfl rfl ⟨by omega, by omega⟩ rfl rfl ?_) | (refine j_kCall rfl rfl rfl rfl ?_; first | refine jc (c_weigh _ _ (ht.2.2.2.2 k hk).1.1 (hw.1 k hk2).2 (by have := (ht.2.2.2.2 k hk).1.2; have := (hw.1 k hk2).1; omega)) (LeL.refl _) rfl rfl ?_))
      | refine j_nil ?_
      | (refine r_go ?_; first | refine run_seq ?_ | refine run_region ?_ | (refine (run_if rfl (fun hb => ?_) (fun hb => ?_)) <;> first | (exfalso; omega) | skip) | refine run_block ?_ | refine run_skip ?_)
      | refine seqQ_normal ?_ | refine blockQ_normal ?_)
    exact loopQ_nextD (k + 1) ⟨by omega, trivial⟩ (by omega) (by first | exact List.Sublist.refl _ | exact sub1 | exact sub2 | exact sub3) ⟨rfl, (by first | rfl | (rw [sumF_succ (fun x => x) (by omega), List.getElem_zipWith]; exact si (by omega)) | exact si (by omega)), rfl, rfl, nx _, trivial⟩
  · repeat' (first
      | (refine j_go ?_; first
        | refine j_op0 rfl rfl rfl rfl ?_)
      | refine j_nil ?_
      | (refine r_go ?_; first | refine run_seq ?_ | refine run_region ?_ | (refine (run_if rfl (fun hb => ?_) (fun hb => ?_)) <;> first | (exfalso; omega) | skip) | refine run_ret ?_ | refine run_exit ?_)
      | refine seqQ_normal ?_ | refine seqQ_exit ?_ | refine blockQ_eq ?_ | refine loopQ_exit ?_)
    exact end1 rfl (List.Sublist.refl _) (ai (by rw [ew, List.take_of_length_le (by omega)]; rfl)) (.inl rfl)


end Go.Proofs.YtbcplkmkdggpjaaGreat

/-
  Choices: what is left of the bags; IsChoice. No condition.
-/
namespace Go.Proofs.YtbcplkmkdggpjaaGreat
open Go.AI
set_option maxRecDepth 8000
set_option maxHeartbeats 1600000

/-- The sum of a list and another one m times. -/
def plusL (a b : List Int) (m : Int) : List Int := List.zipWith (fun x y => x + y * m) a b
/-- What is left of all bags behind the first k counts. -/
def restK (s : System) (t : State) (cs : List Int) : Nat → List (List Int)
  | 0 => t.bags
  | k + 1 => (restK s t cs k).set (s.rules.getD k default).cell.toNat (plusL ((restK s t cs k).getD (s.rules.getD k default).cell.toNat []) (s.rules.getD k default).need (0 - cs.getD k 0))
/-- Counts are a choice. -/
def Ch (s : System) (t : State) (cs : List Int) : Prop := (∀ i (h : i < s.rules.length) (h2 : i < cs.length), 0 < cs[i] → App s t s.rules[i]) ∧ ∀ b ∈ restK s t cs s.rules.length, ∀ x ∈ b, 0 ≤ x
open Classical in
noncomputable def restA (s : System) (t : State) (cs : List Int) : A := if Ch s t cs then .sl ((restK s t cs s.rules.length).map (encS encI)) else .any (fun _ => True)
theorem le_any (v : A) : Le v (.any (fun _ => True)) := fun _ _ _ _ => .any _ _ trivial
end Go.Proofs.YtbcplkmkdggpjaaGreat

/-
  Choices: what the program computes of them; IsChoice, IsMaximal. No condition.
-/
namespace Go.Proofs.YtbcplkmkdggpjaaGreat
open Go.AI
set_option maxRecDepth 8000
set_option maxHeartbeats 1600000

/-- The least of some numbers. -/
def minF : List Int → Int
  | [] => 0
  | [x] => x
  | x :: y :: l => min x (minF (y :: l))
theorem minF_spec : ∀ (l : List Int), l ≠ [] → minF l ∈ l ∧ ∀ x ∈ l, minF l ≤ x
  | [], h => absurd rfl h
  | [x], _ => ⟨by simp [minF], fun y hy => by simp at hy; subst hy; exact Int.le_refl _⟩
  | x :: y :: l, _ => by
    have ⟨h1, h2⟩ := minF_spec (y :: l) (by simp)
    simp only [minF]
    refine ⟨?_, fun z hz => ?_⟩
    · by_cases hx : x ≤ minF (y :: l)
      · rw [Int.min_eq_left hx]; simp
      · rw [Int.min_eq_right (by omega)]; exact List.mem_cons_of_mem _ h1
    · rcases List.mem_cons.1 hz with rfl | hz
      · omega
      · have := h2 z hz; omega
theorem minF_eq {l : List Int} {m : Int} (h1 : m ∈ l) (h2 : ∀ x ∈ l, m ≤ x) : m = minF l := by
  have hne : l ≠ [] := fun q => by rw [q] at h1; cases h1
  have ⟨a, b⟩ := minF_spec l hne
  have := h2 _ a; have := b _ h1; omega

theorem first_le {l : List Int} (h : 0 < l.length) : ∀ i (hi : i < l.length), i < 1 → l[0] ≤ l[i] := fun i hi h1 => by
  have : i = 0 := by omega
  subst this; exact Int.le_refl _

theorem c_slMin (l : List Int) (hne : 1 ≤ l.length) (hn : l.length ≤ 1000000) : Gives Tryz.prog 45 [.sl (l.map encI)] (.int (minF l)) := by
  refine fn_of_run tyOk ztOk mix Tryz.func45 rfl (by decide) Tryz.ntmps45 (fun w0 h => ?_)
  repeat' (first
      | (refine j_go ?_; first
        | refine j_op0 rfl rfl rfl rfl ?_ | (refine j_kIdx rfl ?_; first | refine j_idxz rfl rfl rfl rfl rfl ⟨by omega, by omega⟩ rfl rfl rfl ?_) | (refine j_kLen rfl ?_; first | refine j_len rfl rfl rfl rfl rfl rfl ?_))
      | refine j_nil ?_
      | (refine r_go ?_; first | refine run_seq ?_ | refine run_region ?_ | (refine (run_if rfl (fun hb => ?_) (fun hb => ?_)) <;> first | (exfalso; omega) | skip) | refine run_block ?_ | refine run_skip ?_)
      | refine seqQ_normal ?_)
  refine run_loop (fun x : Nat × Int => [(0, .sl (l.map encI)), (3, .int x.2), (4, .int (x.1 : Int))]) (fun _ => _) (fun x => (1 ≤ x.1 ∧ x.1 ≤ l.length) ∧ x.2 ∈ l ∧ ∀ i (h : i < l.length), i < x.1 → x.2 ≤ l[i]) (fun x => l.length - x.1) (1, l[0]'(by omega)) ⟨rfl, rfl, rfl, trivial⟩ rfl ⟨⟨by omega, by omega⟩, List.getElem_mem _, first_le (by omega)⟩ (fun ⟨k, m⟩ ⟨kl, km, kp⟩ => ?_)
  dsimp only at kl km kp ⊢
  by_cases hk : k < l.length
  · repeat' (first
      | (refine j_go ?_; first
        | refine j_op0 rfl rfl rfl rfl ?_ | (refine j_kIdx rfl ?_; first | refine j_idx rfl rfl rfl rfl rfl (by omega) rfl rfl rfl ?_) | (refine j_kBin rfl ?_; first | refine j_in rfl rfl ⟨by omega, by omega⟩ rfl rfl ?_) | (refine j_kLen rfl ?_; first | refine j_len rfl rfl rfl rfl rfl rfl ?_))
      | refine j_nil ?_
      | (refine r_go ?_; first | refine run_seq ?_ | refine run_region ?_ | (refine (run_if rfl (fun hb => ?_) (fun hb => ?_)) <;> first | (exfalso; omega) | skip) | refine run_block ?_ | refine run_skip ?_)
      | refine seqQ_normal ?_ | refine blockQ_normal ?_)
    exact loopQ_nextD (k + 1, min m l[k]) ⟨⟨by dsimp only; omega, by dsimp only; omega⟩, by
      dsimp only
      by_cases hx : m ≤ l[k]
      · rw [Int.min_eq_left hx]; exact km
      · rw [Int.min_eq_right (by omega)]; exact List.getElem_mem hk, by
      dsimp only
      exact all_step (fun i h1 h2 => by have := kp i h1 h2; omega) (fun _ => by omega)⟩ (by dsimp only; omega) (List.Sublist.refl _) ⟨rfl, rfl, nx _, trivial⟩
  · repeat' (first
      | (refine j_go ?_; first
        | refine j_op0 rfl rfl rfl rfl ?_ | (refine j_kLen rfl ?_; first | refine j_len rfl rfl rfl rfl rfl rfl ?_))
      | refine j_nil ?_
      | (refine r_go ?_; first | refine run_seq ?_ | refine run_region ?_ | (refine (run_if rfl (fun hb => ?_) (fun hb => ?_)) <;> first | (exfalso; omega) | skip) | refine run_ret ?_ | refine run_exit ?_)
      | refine seqQ_normal ?_ | refine seqQ_exit ?_ | refine blockQ_eq ?_ | refine loopQ_exit ?_)
    exact end1 rfl (List.Sublist.refl _) (ai (minF_eq km (fun x hx => by obtain ⟨i, hi, rfl⟩ := List.getElem_of_mem hx; exact kp i hi (by omega)))) (.inl rfl)



/-- All rules that are counted are applicable. -/
def AllApp (s : System) (t : State) (cs : List Int) : Prop := ∀ i (h : i < s.rules.length) (h2 : i < cs.length), 0 < cs[i] → App s t s.rules[i]
open Classical in
noncomputable def restI (s : System) (t : State) (cs : List Int) : A := if AllApp s t cs then .sl ((restK s t cs s.rules.length).map (encS encI)) else .os none 0 0
end Go.Proofs.YtbcplkmkdggpjaaGreat
