/-
  Choices: what the program computes of them; IsChoice, IsMaximal. No condition.
-/
import Derived.Test.YtbhiaccbpbnbmaaGreatZS3d
import Derived.Test.YtbhiaccbpbnbmaaGreatZS0
import Derived.Test.YtbhiaccbpbnbmaaGreatZP
import Derived.Test.YtbhiaccbpbnbmaaGreatZJA
namespace Go.Proofs.YtbhiaccbpbnbmaaGreat
open Go.AI
set_option maxRecDepth 8000
set_option maxHeartbeats 1600000

theorem c_slIndex (l : List Int) (x : Int) : Gives Tryz.prog 75 [.sl (l.map Go.AI.encI), .int x] (.int (fIdx (fun y => x = y) l)) := by
  refine fn_of_run tyOk ztOk mix Tryz.func75 rfl (by decide) Tryz.ntmps75 (fun w0 h => ?_)
  refine run_len (t := 0) rfl (fun hl => ?_)
  rw [List.length_map] at hl
  repeat' (first
      | (refine j_go ?_; first
        | refine j_op0 rfl rfl rfl rfl ?_ | (refine j_kLen rfl ?_; first | refine j_len rfl rfl rfl rfl rfl rfl ?_))
      | refine j_nil ?_
      | (refine r_go ?_; first | refine run_seq ?_ | refine run_region ?_ | refine run_block ?_)
      | refine seqQ_normal ?_)
  refine run_loop (fun k : Nat => [(0, .sl (l.map Go.AI.encI)), (1, .int x), (7, .int l.length), (8, .int (k : Int))]) (fun _ => _) (fun k => k ≤ l.length ∧ (∀ i (h : i < l.length), i < k → ¬ x = l[i])) (fun k => l.length - k) 0 ⟨rfl, rfl, rfl, rfl, trivial⟩ rfl ⟨Nat.zero_le _, by first | (intros; omega) | (simp; done) | rfl | trivial | exact ⟨by simp [sumF], by intros; omega⟩ | exact ⟨by omega, by simp⟩⟩ (fun k ⟨kl, kp⟩ => ?_)
  repeat' (first
      | (refine j_go ?_; first
        | refine j_op0 rfl rfl rfl rfl ?_ | (refine j_kIdx rfl ?_; first | refine j_idx rfl rfl rfl rfl rfl (by omega) rfl rfl rfl ?_) | (refine j_kBin rfl ?_; first | refine j_in rfl rfl ⟨by omega, by omega⟩ rfl rfl ?_))
      | refine j_nil ?_
      | (refine r_go ?_; first | refine run_seq ?_ | refine run_region ?_ | (refine (run_if rfl (fun hb => ?_) (fun hb => ?_)) <;> first | (exfalso; omega) | skip) | refine run_block ?_ | refine run_ret ?_ | refine run_exit ?_ | refine run_skip ?_)
      | refine seqQ_normal ?_ | refine seqQ_ret ?_ | refine seqQ_exit ?_ | refine blockQ_normal ?_ | refine blockQ_ret ?_ | refine blockQ_eq ?_ | refine loopQ_ret ?_ | refine loopQ_exit ?_)
  · exact end1 rfl (List.Sublist.refl _) (ai (fIdx_at (by omega) hb kp).symm) (.inl rfl)
  · exact loopQ_nextD (k + 1) ⟨by omega, all_step kp (fun _ => hb)⟩ (by omega) (by first | exact List.Sublist.refl _ | exact sub1 | exact sub2 | exact sub3) ⟨rfl, rfl, rfl, nx _, trivial⟩
  · exact end1 rfl (List.Sublist.refl _) (ai (fIdx_none (fun i h => kp i h (by omega))).symm) (.inl rfl)
theorem c_slContains (l : List Int) (x : Int) : Gives Tryz.prog 74 [.sl (l.map Go.AI.encI), .int x] (.raw (.bool (dec (x ∈ l)))) := by
  refine fn_of_run tyOk ztOk mix Tryz.func74 rfl (by decide) Tryz.ntmps74 (fun w0 h => ?_)
  repeat' (first
      | (refine j_go ?_; first
        | refine j_op0 rfl rfl rfl rfl ?_ | (refine j_kCall rfl rfl rfl rfl ?_; first | refine jc (c_slIndex _ _) (LeL.refl _) rfl rfl ?_))
      | refine j_nil ?_
      | (refine r_go ?_; first | refine run_seq ?_ | refine run_region ?_ | refine run_ret ?_)
      | refine seqQ_normal ?_)
  exact end1 rfl (List.Sublist.refl _) (rbD (by rw [fIdx_ex]; exact ⟨fun ⟨y, hy, e⟩ => e ▸ hy, fun q => ⟨x, q, rfl⟩⟩)) (.inl rfl)

/-- All rules that are counted are applicable. -/
def AllApp (s : System) (t : State) (cs : List Int) : Prop := ∀ i (h : i < s.rules.length) (h2 : i < cs.length), 0 < cs[i] → App s t s.rules[i]
open Classical in
noncomputable def restI (s : System) (t : State) (cs : List Int) : A := if AllApp s t cs then .sl ((restK s t cs s.rules.length).map (encS Go.AI.encI)) else .os none 0 0
end Go.Proofs.YtbhiaccbpbnbmaaGreat

/-
  Copies of lists in memory of the call's own, their marks, and what is held. No condition but that the sizes are bounded.
-/
namespace Go.Proofs.YtbhiaccbpbnbmaaGreat
open Go.AI
set_option maxRecDepth 8000
set_option maxHeartbeats 1600000
end Go.Proofs.YtbhiaccbpbnbmaaGreat

/-
  Lists of numbers that hold what a condition picks, and answers in memory of the call's own. No condition.
-/
namespace Go.Proofs.YtbhiaccbpbnbmaaGreat
open Go.AI

open Classical in
/-- A list where a condition holds, else the empty one. -/
noncomputable def lsP (p : Prop) (l : List Int) : List Int := if p then l else []
end Go.Proofs.YtbhiaccbpbnbmaaGreat

/-
  The bag of all objects, on both sides: TotalBag. No condition.
-/
namespace Go.Proofs.YtbhiaccbpbnbmaaGreat
open Go.AI
set_option maxRecDepth 8000
set_option maxHeartbeats 1600000

/-- A list in memory of the call's own. -/
def OwnL (l : List Int) : A → Heap → Prop := fun v h' => ∃ b cap, v = .os b l.length cap ∧ h' = [⟨b, 2, cap * 1, (l.map Go.AI.encI).flatten⟩]
theorem OwnL.clo {l : List Int} {v : A} {h1 : Heap} (q : OwnL l v h1) : Clo v ∧ CloH h1 := by
  obtain ⟨b, cap, rfl, rfl⟩ := q
  exact ⟨Clo.os _ _ _, CloH.cons (CloL.mapInt _ _) CloH.nil⟩
theorem o_cloneI (l : List Int) (hne : l ≠ []) (hn : l.length ≤ 1000000) : Does Tryz.prog 73 [.sl (l.map Go.AI.encI)] [] (OwnL l) := by
  refine fn_of_runD tyOk ztOk mix Tryz.func73 rfl (by decide) Tryz.ntmps73 (fun w0 F => ?_)
  repeat' (first
      | (refine j_go ?_; first
        | refine j_op0 rfl rfl rfl rfl ?_)
      | refine j_nil ?_
      | (refine r_go ?_; first | refine run_seq ?_ | refine run_region ?_)
      | refine seqQ_normal ?_)
  refine j_slnil rfl rfl rfl rfl (by simpa using hne) rfl rfl ?_
  repeat' (first
      | (refine j_go ?_; first
        | refine j_op0 rfl rfl rfl rfl ?_ | (refine j_kBsl rfl ?_; first | refine j_bs0 rfl rfl rfl rfl rfl rfl ?_))
      | refine j_nil ?_
      | (refine r_go ?_; first | refine run_seq ?_ | refine run_region ?_ | refine run_cond_f rfl ?_ | refine run_skip ?_)
      | refine seqQ_normal ?_)
  refine j_append0 (g := Go.AI.encI) l rfl rfl rfl rfl rfl rfl rfl rfl (fun _ => rfl) (fun _ _ => rfl) ⟨by omega, by omega⟩ rfl rfl (fun b' cap' => ?_)
  repeat' (first
      | (refine j_go ?_; first
        | refine j_op0 rfl rfl rfl rfl ?_)
      | refine j_nil ?_
      | (refine r_go ?_; first | refine run_ret ?_)
      | refine seqQ_normal ?_)
  exact endD_ret (h1 := [⟨b', 2, cap' * 1, (l.map Go.AI.encI).flatten⟩]) rfl (vs := [_]) (.cons (.tmp rfl) .nil) (Le.refl _) ⟨_, _, rfl, rfl⟩ (.inl rfl)

open Classical in
noncomputable def cdL (p : Prop) : Int := if p then 0 else 3
/-- All objects of what is around and of the first k cells. -/
def totK (t : State) : Nat → List Int
  | 0 => t.around
  | k + 1 => plusL (totK t k) (t.bags.getD k []) 1
open Classical in
noncomputable def codeTotalBag (s : System) (t : State) : Int := if s.Ok ∧ s.StateOk t then cdL (Bag (totK t t.bags.length)) else 1
end Go.Proofs.YtbhiaccbpbnbmaaGreat

/-
  Lists of objects: without one, grown by rules; on both sides. No condition.
-/
namespace Go.Proofs.YtbhiaccbpbnbmaaGreat
open Go.AI
set_option maxRecDepth 8000
set_option maxHeartbeats 1600000

theorem o_grow0 (m : Nat) (hm : m ≤ 10000000) : Does Tryz.prog 76 [.os none 0 0, .int (m : Int)] [] (fun v h' => ∃ b cap, v = .os b 0 cap ∧ h' = [⟨b, 2, cap * 1, []⟩]) := by
  refine fn_of_runD tyOk ztOk mix Tryz.func76 rfl (by decide) Tryz.ntmps76 (fun w0 F => ?_)
  change Run _ _ _ _ _ F
  repeat' (first
      | (refine j_go ?_; first
        | refine j_op0 rfl rfl rfl rfl ?_)
      | refine j_nil ?_
      | (refine r_go ?_; first | refine run_seq ?_ | refine run_region ?_ | (refine (run_if rfl (fun hb => ?_) (fun hb => ?_)) <;> first | (exfalso; omega) | skip) | refine run_skip ?_)
      | refine seqQ_normal ?_)
  refine j_cap0 rfl rfl rfl rfl rfl rfl ?_
  repeat' (first
      | (refine j_go ?_; first
        | refine j_op0 rfl rfl rfl rfl ?_ | (refine j_kBin rfl ?_; first | refine j_in rfl rfl ⟨by omega, by omega⟩ rfl rfl ?_) | (refine j_kLen rfl ?_; first | refine j_op rfl rfl rfl rfl ?_))
      | refine j_nil ?_
      | (refine r_go ?_; first | refine run_seq ?_ | refine run_region ?_ | (refine (run_if rfl (fun hb => ?_) (fun hb => ?_)) <;> first | (exfalso; omega) | skip) | refine run_ret ?_ | refine run_skip ?_)
      | refine seqQ_normal ?_)
  · refine j_cap0 rfl rfl rfl rfl rfl rfl ?_
    skip
    refine j_sl0 rfl rfl rfl rfl rfl rfl rfl ?_
    repeat' (first
      | (refine j_go ?_; first
        | refine j_op0 rfl rfl rfl rfl ?_))
    refine j_appendz (m := m) rfl rfl rfl rfl rfl rfl rfl rfl (si (by omega)) (by omega) ⟨by omega, by omega⟩ rfl rfl (fun b' cap' => ?_)
    repeat' (first
      | (refine j_go ?_; first
        | refine j_op0 rfl rfl rfl rfl ?_ | (refine j_kLen rfl ?_; first | refine j_op rfl rfl rfl rfl ?_)))
    refine j_sl0 rfl rfl rfl rfl rfl rfl rfl ?_
    repeat' (first
      | (refine j_go ?_; first
        | refine j_op0 rfl rfl rfl rfl ?_)
      | refine j_nil ?_
      | (refine r_go ?_; first | refine run_seq ?_ | refine run_region ?_ | refine run_ret ?_)
      | refine seqQ_normal ?_)
    exact endD_ret (h1 := [_]) rfl (.cons (.tmp rfl) .nil) (Le.refl _) ⟨some b', cap', rfl, rfl⟩ (.inl rfl)
  · exact endD_view (view_none 2 0 rfl) (endD_ret (h1 := [_]) rfl (.cons (.tmp rfl) .nil) (Le.refl _) ⟨none, 0, rfl, rfl⟩ (.inl rfl))
theorem flatI_succ {L : List (List Int)} {k : Nat} (hk : k < L.length) : (L.take (k + 1)).flatten = (L.take k).flatten ++ L[k] := by
  rw [List.take_succ_eq_append_getElem hk, List.flatten_append]; simp
theorem flatI_le : ∀ (L : List (List Int)) (k : Nat), (L.take k).flatten.length ≤ L.flatten.length
  | L, k => by
    have : L.flatten = (L.take k).flatten ++ (L.drop k).flatten := by rw [← List.flatten_append, List.take_append_drop]
    rw [this, List.length_append]; omega
theorem o_concat (L : List (List Int)) (hL : L.length ≤ 1000000) (hs : L.flatten.length ≤ 10000000) : Does Tryz.prog 50 [.sl (L.map (encS Go.AI.encI))] [] (OwnL L.flatten) := by
  refine fn_of_runD tyOk ztOk mix Tryz.func50 rfl (by decide) Tryz.ntmps50 (fun w0 F => ?_)
  change Run _ _ _ _ _ F
  repeat' (first
      | (refine j_go ?_; first
        | refine j_op0 rfl rfl rfl rfl ?_ | (refine j_kLen rfl ?_; first | refine j_len rfl rfl rfl rfl rfl rfl ?_))
      | refine j_nil ?_
      | (refine r_go ?_; first | refine run_seq ?_ | refine run_region ?_ | refine run_block ?_)
      | refine seqQ_normal ?_)
  refine run_loop (fun k : Nat => [(0, .sl (L.map (encS Go.AI.encI))), (9, .sl (L.map (encS Go.AI.encI))), (10, .int L.length), (3, .int ((L.take k).flatten.length : Int)), (11, .int (k : Int))]) (fun _ => F) (fun k => k ≤ L.length) (fun k => L.length - k) 0 ⟨rfl, rfl, rfl, rfl, rfl, trivial⟩ rfl (Nat.zero_le _) (fun k kl => ?_)
  have fl := flatI_le L k
  by_cases hk : k < L.length
  case pos =>
    have fl2 := flatI_le L (k + 1)
    have e1 := flatI_succ hk
    rw [e1, List.length_append] at fl2
    repeat' (first
      | (refine j_go ?_; first
        | refine j_op0 rfl rfl rfl rfl ?_ | (refine j_kIdx rfl ?_; first | refine j_idx rfl rfl rfl rfl rfl (by omega) rfl rfl rfl ?_) | (refine j_kBin rfl ?_; first | refine j_in rfl rfl ⟨by omega, by omega⟩ rfl rfl ?_) | (refine j_kLen rfl ?_; first | refine j_len rfl rfl rfl rfl rfl rfl ?_))
      | refine j_nil ?_
      | (refine r_go ?_; first | refine run_seq ?_ | refine run_region ?_ | (refine (run_if rfl (fun hb => ?_) (fun hb => ?_)) <;> first | (exfalso; omega) | skip) | refine run_block ?_ | refine run_skip ?_)
      | refine seqQ_normal ?_ | refine blockQ_normal ?_)
    exact loopQ_next (k + 1) (by omega) (by omega) rfl ⟨rfl, rfl, rfl, (by rw [e1, List.length_append]; exact si (by omega)), nx _, trivial⟩
  have hke : k = L.length := by omega
  subst hke
  rw [List.take_length]
  repeat' (first
      | (refine j_go ?_; first
        | refine j_op0 rfl rfl rfl rfl ?_)
      | refine j_nil ?_
      | (refine r_go ?_; first | refine run_seq ?_ | refine run_region ?_ | (refine (run_if rfl (fun hb => ?_) (fun hb => ?_)) <;> first | (exfalso; omega) | skip) | refine run_exit ?_)
      | refine seqQ_normal ?_ | refine seqQ_exit ?_ | refine blockQ_eq ?_ | refine loopQ_exit ?_)
  refine j_kCall rfl rfl rfl rfl ?_
  refine jcp F (o_grow0 L.flatten.length hs) (List.Perm.refl _) (LeL.refl _) rfl rfl (fun v h1 hR => ?_)
  obtain ⟨b0, c0, rfl, rfl⟩ := hR
  repeat' (first
      | (refine j_go ?_; first
        | refine j_op0 rfl rfl rfl rfl ?_ | (refine j_kLen rfl ?_; first | refine j_len rfl rfl rfl rfl rfl rfl ?_))
      | refine j_nil ?_
      | (refine r_go ?_; first | refine run_seq ?_ | refine run_region ?_ | refine run_block ?_)
      | refine seqQ_normal ?_)
  refine run_loop (fun x : Nat × Option Nat × Nat => [(25, .sl (L.map (encS Go.AI.encI))), (26, .int L.length), (6, .os x.2.1 ((L.take x.1).flatten).length x.2.2), (27, .int (x.1 : Int))]) (fun x => ⟨x.2.1, 2, x.2.2 * 1, (((L.take x.1).flatten).map Go.AI.encI).flatten⟩ :: F) (fun x => x.1 ≤ L.length) (fun x => L.length - x.1) (0, b0, c0) ⟨rfl, rfl, rfl, rfl, trivial⟩ rfl (Nat.zero_le _) (fun ⟨k, ob, cp⟩ kl => ?_)
  dsimp only at kl ⊢
  have fl := flatI_le L k
  by_cases hk : k < L.length
  case pos =>
    have fl2 := flatI_le L (k + 1)
    rw [flatI_succ hk, List.length_append] at fl2
    repeat' (first
      | (refine j_go ?_; first
        | refine j_op0 rfl rfl rfl rfl ?_ | (refine j_kIdx rfl ?_; first | refine j_idx rfl rfl rfl rfl rfl (by omega) rfl rfl rfl ?_))
      | refine j_nil ?_
      | (refine r_go ?_; first | refine run_seq ?_ | refine run_region ?_ | (refine (run_if rfl (fun hb => ?_) (fun hb => ?_)) <;> first | (exfalso; omega) | skip) | refine run_block ?_ | refine run_skip ?_)
      | refine seqQ_normal ?_)
    refine j_append 0 (g := Go.AI.encI) (ys := (L.take k).flatten) L[k] rfl rfl rfl rfl rfl rfl rfl rfl rfl rfl rfl rfl (fun _ => rfl) (fun _ _ => rfl) ⟨by omega, by omega⟩ rfl rfl (fun b' cap' => ?_)
    rw [← flatI_succ hk]
    repeat' (first
      | (refine j_go ?_; first
        | refine j_op0 rfl rfl rfl rfl ?_ | (refine j_kBin rfl ?_; first | refine j_in rfl rfl ⟨by omega, by omega⟩ rfl rfl ?_))
      | refine j_nil ?_
      | (refine r_go ?_; first | refine run_region ?_)
      | refine seqQ_normal ?_ | refine blockQ_normal ?_)
    exact loopQ_next (k + 1, b', cap') (by dsimp only; omega) (by dsimp only; omega) rfl ⟨rfl, rfl, rfl, nx _, trivial⟩
  have hke : k = L.length := by omega
  subst hke
  repeat' (first
      | (refine j_go ?_; first
        | refine j_op0 rfl rfl rfl rfl ?_)
      | refine j_nil ?_
      | (refine r_go ?_; first | refine run_seq ?_ | refine run_region ?_ | (refine (run_if rfl (fun hb => ?_) (fun hb => ?_)) <;> first | (exfalso; omega) | skip) | refine run_ret ?_ | refine run_exit ?_)
      | refine seqQ_normal ?_ | refine seqQ_exit ?_ | refine blockQ_eq ?_ | refine loopQ_exit ?_)
  exact endD_ret (h1 := [_]) rfl (.cons (.tmp rfl) .nil) (Le.refl _) ⟨ob, cp, by rw [List.take_length]; rfl, by rw [List.take_length]⟩ (.inl rfl)
theorem c_concat (L : List (List Int)) (hL : L.length ≤ 1000000) (hs : L.flatten.length ≤ 10000000) : Gives Tryz.prog 50 [.sl (L.map (encS Go.AI.encI))] (.sl (L.flatten.map Go.AI.encI)) := (o_concat L hL hs).frozen fun _ _ ⟨b, cap, q1, q2⟩ => by rw [q1, q2]; exact FrzF.flat rfl rfl (fun _ => rfl) rfl rfl

theorem erase_at {x : Int} : ∀ {l : List Int} {k : Nat} (hk : k < l.length), l[k] = x → (∀ i (h : i < l.length), i < k → ¬ x = l[i]) → l.erase x = l.take k ++ l.drop (k + 1)
  | [], _, hk, _, _ => absurd hk (Nat.not_lt_zero _)
  | a :: l, 0, _, h, _ => by simp at h; simp [h]
  | a :: l, k + 1, hk, h, hn => by
    have ha : ¬ a = x := fun q => hn 0 (by simp) (by omega) (by simp [q])
    rw [List.erase_cons_tail (by simpa using ha)]
    simp only [List.take_succ_cons, List.drop_succ_cons, List.cons_append]
    congr 1
    exact erase_at (by simpa using hk) (by simpa using h) (fun i hi hik => by have := hn (i + 1) (by simpa using hi) (by omega); simpa using this)
theorem erase_no {x : Int} {l : List Int} (hn : ∀ i (h : i < l.length), ¬ x = l[i]) : l.erase x = l := List.erase_of_not_mem fun hm => by
  obtain ⟨i, hi, q⟩ := List.getElem_of_mem hm
  exact hn i hi q.symm

theorem o_own7 (l : List Int) (hn : l.length ≤ 1000000) : Does Tryz.prog 52 [.sl (l.map Go.AI.encI)] [] (fun v h1 => ∃ b cap, v = .os b l.length cap ∧ h1 = [⟨b, 2, cap * 1, (l.map Go.AI.encI).flatten⟩]) := by
  refine fn_of_runD tyOk ztOk mix Tryz.func52 rfl (by decide) Tryz.ntmps52 (fun w0 F => ?_)
  change Run _ _ _ _ _ F
  repeat' (first
      | (refine j_go ?_; first
        | refine j_op0 rfl rfl rfl rfl ?_ | (refine j_kBsl rfl ?_; first | refine j_bs0 rfl rfl rfl rfl rfl rfl ?_))
      | refine j_nil ?_
      | (refine r_go ?_; first | refine run_seq ?_ | refine run_region ?_)
      | refine seqQ_normal ?_)
  refine j_append0 (g := Go.AI.encI) l rfl rfl rfl rfl rfl rfl rfl rfl (fun _ => rfl) (fun _ _ => rfl) ⟨by omega, by omega⟩ rfl rfl (fun b' cap' => ?_)
  repeat' (first
      | (refine j_go ?_; first
        | refine j_op0 rfl rfl rfl rfl ?_)
      | refine j_nil ?_
      | (refine r_go ?_; first | refine run_ret ?_)
      | refine seqQ_normal ?_)
  exact endD_ret (h1 := [_]) rfl (.cons (.tmp rfl) .nil) (Le.refl _) ⟨b', cap', rfl, rfl⟩ (.inl rfl)
theorem o_l07Without (l : List Int) (x : Int) (hl : l.length ≤ 1000000) : Does Tryz.prog 95 [.sl (l.map Go.AI.encI), .int x] [] (OwnL (l.erase x)) := by
  refine fn_of_runD tyOk ztOk mix Tryz.func95 rfl (by decide) Tryz.ntmps95 (fun w0 F => ?_)
  change Run _ _ _ _ _ F
  repeat' (first
      | (refine j_go ?_; first
        | refine j_op0 rfl rfl rfl rfl ?_)
      | refine j_nil ?_
      | (refine r_go ?_; first | refine run_seq ?_ | refine run_region ?_ | refine run_block ?_)
      | refine seqQ_normal ?_)
  refine run_loop (fun k : Nat => [(0, .sl (l.map Go.AI.encI)), (1, .int x), (5, .int (k : Int))]) (fun _ => F) (fun k => k ≤ l.length ∧ ∀ i (h : i < l.length), i < k → ¬ x = l[i]) (fun k => l.length - k) 0 ⟨rfl, rfl, rfl, trivial⟩ rfl ⟨Nat.zero_le _, fun _ _ q => absurd q (Nat.not_lt_zero _)⟩ (fun k ⟨kl, kp⟩ => ?_)
  by_cases hk : k < l.length
  case pos =>
    have lm0 : (l.map Go.AI.encI).length = l.length := List.length_map _
    repeat' (first
      | (refine j_go ?_; first
        | refine j_op0 rfl rfl rfl rfl ?_ | (refine j_kIdx rfl ?_; first | refine j_idx rfl rfl rfl rfl rfl (by omega) rfl rfl rfl ?_) | (refine j_kBin rfl ?_; first | refine j_in rfl rfl ⟨by omega, by omega⟩ rfl rfl ?_) | (refine j_kLen rfl ?_; first | refine j_len rfl rfl rfl rfl rfl rfl ?_))
      | refine j_nil ?_
      | (refine j_goO ?_; first
        | refine j_op0O rfl rfl rfl rfl ?_ | (refine j_kBinO rfl ?_; first | refine j_inO rfl rfl ⟨by omega, by omega⟩ rfl rfl ?_) | (refine j_kSliceO rfl ?_; first | refine j_sliceO rfl rfl rfl rfl rfl rfl (by omega) (fun _ => rfl) rfl rfl ?_))
      | (refine r_go ?_; first | refine run_seq ?_ | refine run_region ?_ | (refine (run_if rfl (fun hb => ?_) (fun hb => ?_)) <;> first | (exfalso; omega) | skip) | refine run_block ?_ | refine run_skip ?_ | refine run_opn 5 [⟨0, true, false, 0⟩, ⟨1, true, false, 0⟩, ⟨2, true, false, 0⟩, ⟨4, false, false, 0⟩, ⟨5, false, false, 0⟩, ⟨6, false, false, 0⟩, ⟨7, false, false, 0⟩, ⟨3, false, true, 0⟩, ⟨8, false, true, 0⟩, ⟨9, true, false, 0⟩] rfl rfl (by kernel_rfl) ?_)
      | refine seqQ_normal ?_ | refine blockQ_normal ?_)
    · have hb' : l[k] = x := by assumption
      have lm : (l.map Go.AI.encI).length = l.length := List.length_map _
      skip
      refine j_kCallO rfl rfl rfl rfl ?_
      refine jcpO _ (o_own7 (l.take k) (by rw [List.length_take]; omega)) rfl (List.Perm.refl _) (LeL.refl _) rfl rfl (fun v h1 hR => ?_)
      obtain ⟨ob, cp, rfl, rfl⟩ := hR
      have lt : (l.take k).length = k := by rw [List.length_take]; omega
      have ld : (l.drop (k + 1)).length = l.length - (k + 1) := List.length_drop
      skip
      have e2 : l.drop (k + 1) = (l.take (((l.map Go.AI.encI).length : Nat) : Int).toNat).drop ((k : Int) + 1).toNat := by
        rw [Int.toNat_natCast, List.length_map, List.take_length]
        congr 1
      refine j_appendO 0 (g := Go.AI.encI) (ys := l.take k) (l.drop (k + 1)) rfl (fun _ hk => nomatch hk) rfl rfl rfl rfl rfl rfl rfl rfl rfl rfl rfl (by rw [e2]; rfl) (fun _ => rfl) (fun _ _ => rfl) ⟨by omega, by omega⟩ rfl rfl (fun b' cap' => ?_)
      rw [← erase_at hk hb' kp]
      repeat' (first
      | (refine j_goO ?_; first
        | refine j_op0O rfl rfl rfl rfl ?_)
      | refine j_nilO ?_
      | (refine r_go ?_; first | refine run_ret ?_)
      | refine seqQ_normal ?_ | refine seqQ_ret ?_ | refine blockQ_ret ?_ | refine loopQ_ret ?_)
      exact endD_ret (h1 := [_]) rfl (.cons (.tmp rfl) .nil) (Le.refl _) ⟨b', cap', rfl, rfl⟩ (.inl rfl)
    · exact loopQ_next (k + 1) ⟨by omega, all_step kp (fun _ => fun q => by first | exact absurd q.symm (by assumption) | exact absurd q (by assumption))⟩ (by omega) rfl ⟨rfl, rfl, nx _, trivial⟩
  have hke : k = l.length := by omega
  subst hke
  repeat' (first
      | (refine j_go ?_; first
        | refine j_op0 rfl rfl rfl rfl ?_ | (refine j_kLen rfl ?_; first | refine j_len rfl rfl rfl rfl rfl rfl ?_))
      | refine j_nil ?_
      | (refine r_go ?_; first | refine run_seq ?_ | refine run_region ?_ | (refine (run_if rfl (fun hb => ?_) (fun hb => ?_)) <;> first | (exfalso; omega) | skip) | refine run_exit ?_)
      | refine seqQ_normal ?_ | refine seqQ_exit ?_ | refine blockQ_eq ?_ | refine loopQ_exit ?_)
  refine j_kCall rfl rfl rfl rfl ?_
  refine jcp _ (o_own7 l hl) (List.Perm.refl _) (LeL.refl _) rfl rfl (fun v h1 hR => ?_)
  obtain ⟨ob, cp, rfl, rfl⟩ := hR
  repeat' (first
      | (refine j_go ?_; first
        | refine j_op0 rfl rfl rfl rfl ?_)
      | refine j_nil ?_
      | (refine r_go ?_; first | refine run_ret ?_)
      | refine seqQ_normal ?_)
  exact endD_ret (h1 := [_]) rfl (.cons (.tmp rfl) .nil) (Le.refl _) ⟨ob, cp, by rw [erase_no (fun i hi => kp i hi hi)]; rfl, by rw [erase_no (fun i hi => kp i hi hi)]⟩ (.inl rfl)
theorem c_l07Without (l : List Int) (x : Int) (hl : l.length ≤ 1000000) : Gives Tryz.prog 95 [.sl (l.map Go.AI.encI), .int x] (.sl ((l.erase x).map Go.AI.encI)) := (o_l07Without l x hl).frozen fun _ _ ⟨b, cap, q1, q2⟩ => by rw [q1, q2]; exact FrzF.flat rfl rfl (fun _ => rfl) rfl rfl
theorem c_less (l : List Int) (x : Int) (hl : l.length ≤ 1000000) (hx : x ∈ l) : Gives Tryz.prog 48 [.sl (l.map Go.AI.encI), .int x] (.sl ((l.erase x).map Go.AI.encI)) := by
  refine fn_of_run tyOk ztOk mix Tryz.func48 rfl (by decide) Tryz.ntmps48 (fun w0 h => ?_)
  obtain ⟨k, hk, hkx, hkn⟩ : ∃ k, ∃ h : k < l.length, l[k] = x ∧ ∀ i (h : i < l.length), i < k → ¬ x = l[i] := by
    have h1 := (fIdx_ex (fun y => x = y) l).2 ⟨x, hx, rfl⟩
    have q : l.findIdx (fun y => dec (x = y)) < l.length := by
      unfold fIdx at h1
      by_cases q : l.findIdx (fun y => dec (x = y)) < l.length
      · exact q
      · rw [if_neg q] at h1; omega
    refine ⟨_, q, ?_, fun i hi hik => ?_⟩
    · have := List.findIdx_getElem (w := q)
      exact (dec_iff.1 this).symm
    · have := List.not_of_lt_findIdx hik
      exact fun z => by rw [dec_t z] at this; exact absurd this (by simp)
  have cI := c_slIndex l x
  rw [fIdx_at hk hkx.symm hkn] at cI
  have lt : (l.take k).length = k := by rw [List.length_take]; omega
  have ld : (l.drop (k + 1)).length = l.length - (k + 1) := List.length_drop
  have cC := c_concat [l.take k, l.drop (k + 1)] (by simp) (by simp only [List.flatten_cons, List.flatten_nil, List.append_nil, List.length_append]; omega)
  rw [show [l.take k, l.drop (k + 1)].flatten = l.erase x from by rw [erase_at hk hkx hkn]; simp] at cC
  have lm : (l.map Go.AI.encI).length = l.length := List.length_map _
  have e2 : l.drop (k + 1) = (l.take (((l.map Go.AI.encI).length : Nat) : Int).toNat).drop ((k : Int) + 1).toNat := by
    rw [Int.toNat_natCast, List.length_map, List.take_length]
    congr 1
  rw [e2] at cC
  repeat' (first
      | (refine j_go ?_; first
        | refine j_op0 rfl rfl rfl rfl ?_ | (refine j_kBin rfl ?_; first | refine j_in rfl rfl ⟨by omega, by omega⟩ rfl rfl ?_) | (refine j_kCall rfl rfl rfl rfl ?_; first | refine jc (cI) (LeL.refl _) rfl rfl ?_ | refine jc (cC) (LeL.refl _) rfl rfl ?_) | (refine j_kBsl rfl ?_; first | refine j_bsl rfl rfl rfl rfl rfl rfl rfl rfl rfl rfl rfl ?_) | (refine j_kSlice rfl ?_; first | refine j_slice rfl rfl rfl rfl rfl rfl (by omega) (fun _ => rfl) rfl rfl ?_))
      | refine j_nil ?_
      | (refine r_go ?_; first | refine run_seq ?_ | refine run_region ?_ | refine run_ret ?_ | refine run_regionD (by kernel_rfl) ?_)
      | refine seqQ_normal ?_)
  exact end1 rfl (List.Sublist.refl _) (rfl) (.inl rfl)
def FitR (kind charge x : Int) (r : DivRule) : Prop := r.kind = kind ∧ r.charge = charge ∧ r.object = x
theorem c_l07First (d : Division) (kind charge x : Int) (hd : d.rules.length ≤ 120) : Gives Tryz.prog 83 [.ip (encDivision d), .int kind, .int charge, .int x] (.int (fIdx (FitR kind charge x) d.rules)) := by
  refine fn_of_run tyOk ztOk mix Tryz.func83 rfl (by decide) Tryz.ntmps83 (fun w0 h => ?_)
  repeat' (first
      | (refine j_go ?_; first
        | refine j_op0 rfl rfl rfl rfl ?_)
      | refine j_nil ?_
      | (refine r_go ?_; first | refine run_seq ?_ | refine run_region ?_ | refine run_block ?_)
      | refine seqQ_normal ?_)
  refine run_loop (fun k : Nat => [(0, .ip (encDivision d)), (1, .int kind), (2, .int charge), (3, .int x), (9, .int (k : Int))]) (fun _ => _) (fun k => k ≤ d.rules.length ∧ (∀ i (h : i < d.rules.length), i < k → ¬ FitR kind charge x d.rules[i])) (fun k => d.rules.length - k) 0 ⟨rfl, rfl, rfl, rfl, rfl, trivial⟩ rfl ⟨Nat.zero_le _, by first | (intros; omega) | (simp; done) | rfl | trivial | exact ⟨by simp [sumF], by intros; omega⟩ | exact ⟨by omega, by simp⟩⟩ (fun k ⟨kl, kp⟩ => ?_)
  repeat' (first
      | (refine j_go ?_; first
        | refine j_op0 rfl rfl rfl rfl ?_ | refine j_off rfl rfl rfl ?_ | (refine j_kIdx rfl ?_; first | refine j_idx rfl rfl rfl rfl rfl (by omega) rfl rfl rfl ?_) | (refine j_kBin rfl ?_; first | refine j_in rfl rfl ⟨by omega, by omega⟩ rfl rfl ?_) | (refine j_kLen rfl ?_; first | refine j_len rfl rfl rfl rfl rfl rfl ?_) | (refine j_kGuard rfl ?_; first | (refine (j_if rfl rfl rfl (fun hb => ?_) (fun hb => ?_)) <;> first | (exfalso; omega) | skip)))
      | refine j_nil ?_
      | (refine r_go ?_; first | refine run_seq ?_ | refine run_region ?_ | refine run_cond_f rfl ?_ | (refine (run_if rfl (fun hb => ?_) (fun hb => ?_)) <;> first | (exfalso; omega) | skip) | refine run_block ?_ | refine run_ret ?_ | refine run_exit ?_ | refine run_skip ?_)
      | refine seqQ_normal ?_ | refine seqQ_ret ?_ | refine seqQ_exit ?_ | refine blockQ_normal ?_ | refine blockQ_ret ?_ | refine blockQ_eq ?_ | refine loopQ_ret ?_ | refine loopQ_exit ?_)
  · exact end1 rfl (List.Sublist.refl _) (ai (fIdx_at (by omega) ⟨by assumption, by assumption, by assumption⟩ kp).symm) (.inl rfl)
  · exact loopQ_nextD (k + 1) ⟨by omega, all_step kp (fun _ q => hb q.2.2)⟩ (by omega) (by first | exact List.Sublist.refl _ | exact sub1 | exact sub2 | exact sub3) ⟨rfl, rfl, rfl, rfl, nx _, trivial⟩
  · exact loopQ_nextD (k + 1) ⟨by omega, all_step kp (fun _ q => hb q.2.1)⟩ (by omega) (by first | exact List.Sublist.refl _ | exact sub1 | exact sub2 | exact sub3) ⟨rfl, rfl, rfl, rfl, nx _, trivial⟩
  · exact loopQ_nextD (k + 1) ⟨by omega, all_step kp (fun _ q => hb q.1)⟩ (by omega) (by first | exact List.Sublist.refl _ | exact sub1 | exact sub2 | exact sub3) ⟨rfl, rfl, rfl, rfl, nx _, trivial⟩
  · exact end1 rfl (List.Sublist.refl _) (ai (fIdx_none (fun i h => kp i h (by omega))).symm) (.inl rfl)
end Go.Proofs.YtbhiaccbpbnbmaaGreat

/-
  What objects become: grown lists, sorted lists; on both sides. No condition.
-/
namespace Go.Proofs.YtbhiaccbpbnbmaaGreat
open Go.AI
set_option maxRecDepth 8000
set_option maxHeartbeats 1600000

/-- There is a rule of a kind for a charge and an object. -/
def Division.hasR (d : Division) (kind charge x : Int) : Prop := ∃ r ∈ d.rules, FitR kind charge x r
open Classical in
noncomputable def Division.grw (d : Division) (kind charge x : Int) : List Int := if d.hasR kind charge x then (d.rules.getD (fIdx (FitR kind charge x) d.rules).toNat default).first else [x]
theorem grw_at {d : Division} {kind charge x : Int} {k : Nat} (hk : k < d.rules.length) (hr : FitR kind charge x d.rules[k]) (hn : ∀ i (h : i < d.rules.length), i < k → ¬ FitR kind charge x d.rules[i]) : d.grw kind charge x = d.rules[k].first ∧ d.hasR kind charge x := by
  have h : d.hasR kind charge x := ⟨_, List.getElem_mem hk, hr⟩
  refine ⟨?_, h⟩
  unfold Division.grw
  rw [if_pos h, fIdx_at hk hr hn, Int.toNat_natCast, getD_get hk]
theorem grw_no {d : Division} {kind charge x : Int} (hn : ∀ i (h : i < d.rules.length), ¬ FitR kind charge x d.rules[i]) : d.grw kind charge x = [x] ∧ ¬ d.hasR kind charge x := by
  have h : ¬ d.hasR kind charge x := fun ⟨r, hr, q⟩ => by obtain ⟨i, hi, rfl⟩ := List.getElem_of_mem hr; exact hn i hi q
  refine ⟨?_, h⟩
  unfold Division.grw; rw [if_neg h]
theorem fIdx_cases {α : Type} (p : α → Prop) (l : List α) : (∃ k, ∃ h : k < l.length, fIdx p l = (k : Int) ∧ p l[k] ∧ ∀ i (h : i < l.length), i < k → ¬ p l[i]) ∨ (fIdx p l = -1 ∧ ∀ i (h : i < l.length), ¬ p l[i]) := by
  by_cases q : l.findIdx (fun y => dec (p y)) < l.length
  · refine .inl ⟨_, q, ?_, dec_iff.1 (List.findIdx_getElem (w := q)), fun i hi hik z => ?_⟩
    · unfold fIdx; rw [if_pos q]
    · have := List.not_of_lt_findIdx hik
      rw [dec_t z] at this; exact absurd this (by simp)
  · refine .inr ⟨by unfold fIdx; rw [if_neg q], fun i hi z => q ?_⟩
    exact List.findIdx_lt_length_of_exists ⟨_, List.getElem_mem hi, dec_t z⟩
theorem grw_len {d : Division} (hv : d.Valid) {kind charge x : Int} : (d.grw kind charge x).length ≤ 16 := by
  rcases fIdx_cases (FitR kind charge x) d.rules with ⟨k, hk, _, h2, h3⟩ | ⟨_, h⟩
  · rw [(grw_at hk h2 h3).1]
    have := (hv.2.2 _ (List.getElem_mem hk)).2.2.2.2.2.1.2
    omega
  · rw [(grw_no h).1]; simp
noncomputable def Division.grown (d : Division) (kind charge : Int) (l : List Int) : List Int := (l.map (d.grw kind charge)).flatten
theorem grown_succ {d : Division} {kind charge : Int} {l : List Int} {k : Nat} (hk : k < l.length) : d.grown kind charge (l.take (k + 1)) = d.grown kind charge (l.take k) ++ d.grw kind charge l[k] := by
  unfold Division.grown; rw [List.take_succ_eq_append_getElem hk, List.map_append, List.flatten_append]; simp
theorem grown_len {d : Division} (hv : d.Valid) {kind charge : Int} : ∀ l : List Int, (d.grown kind charge l).length ≤ 16 * l.length
  | [] => by simp [Division.grown]
  | x :: l => by
    have := grown_len hv (kind := kind) (charge := charge) l
    have := grw_len hv (kind := kind) (charge := charge) (x := x)
    simp only [Division.grown, List.map_cons, List.flatten_cons, List.length_append, List.length_cons] at *
    omega

theorem c_grow (d : Division) (kind charge x : Int) (hv : d.rules.length ≤ 120) : Gives Tryz.prog 67 [.agg (encDivision d), .int kind, .int charge, .int x] (.tup [.sl ((d.grw kind charge x).map Go.AI.encI), .raw (.bool (dec (d.hasR kind charge x)))]) := by
  refine fn_of_run tyOk ztOk mix Tryz.func67 rfl (by decide) Tryz.ntmps67 (fun w0 h => ?_)
  repeat' (first
      | (refine j_go ?_; first
        | refine j_op0 rfl rfl rfl rfl ?_ | (refine j_kLen rfl ?_; first | refine j_len rfl rfl rfl rfl rfl rfl ?_) | refine j_box rfl rfl rfl rfl rfl rfl ?_)
      | refine j_nil ?_
      | (refine r_go ?_; first | refine run_seq ?_ | refine run_region ?_ | refine run_block ?_)
      | refine seqQ_normal ?_)
  refine run_loop (fun k : Nat => [(1, .int kind), (2, .int charge), (3, .int x), (13, .sl (d.rules.map encDivRule)), (14, .int d.rules.length), (15, .int (k : Int))]) (fun _ => _) (fun k => k ≤ d.rules.length ∧ (∀ i (h : i < d.rules.length), i < k → ¬ FitR kind charge x d.rules[i])) (fun k => d.rules.length - k) 0 ⟨rfl, rfl, rfl, rfl, rfl, rfl, trivial⟩ rfl ⟨Nat.zero_le _, by first | (intros; omega) | (simp; done) | rfl | trivial | exact ⟨by simp [sumF], by intros; omega⟩ | exact ⟨by omega, by simp⟩⟩ (fun k ⟨kl, kp⟩ => ?_)
  repeat' (first
      | (refine j_go ?_; first
        | refine j_op0 rfl rfl rfl rfl ?_ | refine j_off rfl rfl rfl ?_ | (refine j_kIdx rfl ?_; first | refine j_idx rfl rfl rfl rfl rfl (by omega) rfl rfl rfl ?_) | (refine j_kBin rfl ?_; first | refine j_in rfl rfl ⟨by omega, by omega⟩ rfl rfl ?_) | (refine j_kLoad rfl ?_; first | refine j_mload 0 rfl rfl rfl rfl rfl rfl rfl ?_) | (refine j_kStore rfl ?_; first | refine j_storeN 0 rfl rfl rfl rfl rfl rfl rfl rfl rfl rfl rfl ?_) | (refine j_kBsl rfl ?_; first | refine j_bsl rfl rfl rfl rfl rfl rfl rfl rfl rfl rfl rfl ?_) | (refine j_kGuard rfl ?_; first | (refine (j_if rfl rfl rfl (fun hb => ?_) (fun hb => ?_)) <;> first | (exfalso; omega) | skip)) | refine j_alloc rfl rfl rfl rfl rfl (fun _ => ?_))
      | refine j_nil ?_
      | (refine r_go ?_; first | refine run_seq ?_ | refine run_region ?_ | refine run_cond_f rfl ?_ | (refine (run_if rfl (fun hb => ?_) (fun hb => ?_)) <;> first | (exfalso; omega) | skip) | refine run_block ?_ | refine run_ret ?_ | refine run_exit ?_ | refine run_skip ?_)
      | refine seqQ_normal ?_ | refine seqQ_ret ?_ | refine seqQ_exit ?_ | refine blockQ_normal ?_ | refine blockQ_ret ?_ | refine blockQ_eq ?_ | refine loopQ_ret ?_ | refine loopQ_exit ?_)
  · have q := grw_at (d := d) (kind := kind) (charge := charge) (x := x) (k := k) (by omega) ⟨by assumption, by assumption, by assumption⟩ kp
    rw [q.1, dec_t q.2]
    exact end2 rfl rfl (by repeat' first | exact List.Sublist.refl _ | refine List.Sublist.cons _ ?_) rfl (.inl rfl)
  · exact loopQ_nextD (k + 1) ⟨by omega, all_step kp (fun _ q => hb q.2.2)⟩ (by omega) (by first | exact List.Sublist.refl _ | exact sub1 | exact sub2 | exact sub3) ⟨rfl, rfl, rfl, rfl, rfl, nx _, trivial⟩
  · exact loopQ_nextD (k + 1) ⟨by omega, all_step kp (fun _ q => hb q.2.1)⟩ (by omega) (by first | exact List.Sublist.refl _ | exact sub1 | exact sub2 | exact sub3) ⟨rfl, rfl, rfl, rfl, rfl, nx _, trivial⟩
  · exact loopQ_nextD (k + 1) ⟨by omega, all_step kp (fun _ q => hb q.1)⟩ (by omega) (by first | exact List.Sublist.refl _ | exact sub1 | exact sub2 | exact sub3) ⟨rfl, rfl, rfl, rfl, rfl, nx _, trivial⟩
  · have q := grw_no (d := d) (kind := kind) (charge := charge) (x := x) (fun i h => kp i h (by omega))
    rw [q.1, dec_f q.2]
    exact end2 rfl rfl (by repeat' first | exact List.Sublist.refl _ | refine List.Sublist.cons _ ?_) rfl (.inl rfl)
theorem o_l07Grown (d : Division) (kind charge : Int) (l : List Int) (hv : d.Valid) (hl : l.length ≤ 1100000) : Does Tryz.prog 54 [.ip (encDivision d), .int kind, .int charge, .sl (l.map Go.AI.encI)] []
    (fun v h' => ∃ b cap, v = .tup [.os b (d.grown kind charge l).length cap, .raw (.bool (dec (∃ x ∈ l, d.hasR kind charge x)))] ∧ h' = [⟨b, 2, cap * 1, ((d.grown kind charge l).map Go.AI.encI).flatten⟩]) := by
  refine fn_of_runD tyOk ztOk mix Tryz.func54 rfl (by decide) Tryz.ntmps54 (fun w0 F => ?_)
  change Run _ _ _ _ _ F
  have r120 := hv.2.1
  repeat' (first
      | (refine j_go ?_; first
        | refine j_op0 rfl rfl rfl rfl ?_ | (refine j_kBsl rfl ?_; first | refine j_bs0 rfl rfl rfl rfl rfl rfl ?_))
      | refine j_nil ?_
      | (refine r_go ?_; first | refine run_seq ?_ | refine run_region ?_ | refine run_block ?_)
      | refine seqQ_normal ?_)
  refine run_view (view_none 2 0 rfl) ?_
  refine run_loop (fun x : Nat × Option Nat × Nat => [(0, .ip (encDivision d)), (1, .int kind), (2, .int charge), (3, .sl (l.map Go.AI.encI)), (10, .os x.2.1 (d.grown kind charge (l.take x.1)).length x.2.2), (11, .raw (.bool (dec (∃ y ∈ l.take x.1, d.hasR kind charge y)))), (12, .int (x.1 : Int))]) (fun x => ⟨x.2.1, 2, x.2.2 * 1, ((d.grown kind charge (l.take x.1)).map Go.AI.encI).flatten⟩ :: F)
    (fun x => x.1 ≤ l.length) (fun x => l.length - x.1) (0, none, 0) ⟨rfl, rfl, rfl, rfl, rfl, raw_f (by simp), rfl, trivial⟩ rfl (Nat.zero_le _) (fun ⟨k, ob, cp⟩ kl => ?_)
  dsimp only at kl ⊢
  have gl := grown_len hv (kind := kind) (charge := charge) (l.take k)
  have tl : (l.take k).length ≤ k := List.length_take_le _ _
  by_cases hk : k < l.length
  case pos =>
    have g16 := grw_len hv (kind := kind) (charge := charge) (x := l[k])
    have eu : (∃ y ∈ l.take (k + 1), d.hasR kind charge y) ↔ (∃ y ∈ l.take k, d.hasR kind charge y) ∨ d.hasR kind charge l[k] := by
      rw [List.take_succ_eq_append_getElem hk]
      exact ⟨fun ⟨y, hy, q⟩ => by
        rcases List.mem_append.1 hy with z | z
        · exact .inl ⟨y, z, q⟩
        · simp at z; subst z; exact .inr q, fun q => by
        rcases q with ⟨y, hy, q⟩ | q
        · exact ⟨y, List.mem_append.2 (.inl hy), q⟩
        · exact ⟨_, List.mem_append.2 (.inr (by simp)), q⟩⟩
    rcases fIdx_cases (FitR kind charge l[k]) d.rules with ⟨j, hj, h1, h2, h3⟩ | ⟨h1, h3⟩
    · have q := grw_at hj h2 h3
      have cF := c_l07First d kind charge l[k] (by omega)
      rw [h1] at cF
      repeat' (first
      | (refine j_go ?_; first
        | refine j_op0 rfl rfl rfl rfl ?_ | (refine j_kIdx rfl ?_; first | refine j_idx rfl rfl rfl rfl rfl (by omega) rfl rfl rfl ?_) | (refine j_kLen rfl ?_; first | refine j_len rfl rfl rfl rfl rfl rfl ?_) | (refine j_kCall rfl rfl rfl rfl ?_; first | refine jc (cF) (LeL.refl _) rfl rfl ?_))
      | refine j_nil ?_
      | (refine r_go ?_; first | refine run_seq ?_ | refine run_region ?_ | (refine (run_if rfl (fun hb => ?_) (fun hb => ?_)) <;> first | (exfalso; omega) | skip) | refine run_block ?_ | refine run_skip ?_)
      | refine seqQ_normal ?_)
      refine j_append 0 (g := Go.AI.encI) (ys := d.grown kind charge (l.take k)) d.rules[j].first rfl rfl rfl rfl rfl rfl rfl rfl rfl rfl rfl rfl (fun _ => rfl) (fun _ _ => rfl) ⟨by rw [← q.1]; omega, by rw [← q.1]; omega⟩ rfl rfl (fun b' cap' => ?_)
      rw [← q.1, ← grown_succ hk]
      repeat' (first
      | (refine j_go ?_; first
        | refine j_op0 rfl rfl rfl rfl ?_ | (refine j_kBin rfl ?_; first | refine j_in rfl rfl ⟨by omega, by omega⟩ rfl rfl ?_))
      | refine j_nil ?_
      | (refine r_go ?_; first | refine run_region ?_)
      | refine seqQ_normal ?_ | refine blockQ_normal ?_)
      exact loopQ_next (k + 1, b', cap') (by dsimp only; omega) (by dsimp only; omega) rfl ⟨rfl, rfl, rfl, rfl, rfl, (by dsimp only; rw [dec_t (eu.2 (.inr q.2))]; rfl), nx _, trivial⟩
    · have q := grw_no h3
      have cF := c_l07First d kind charge l[k] (by omega)
      rw [h1] at cF
      repeat' (first
      | (refine j_go ?_; first
        | refine j_op0 rfl rfl rfl rfl ?_ | (refine j_kIdx rfl ?_; first | refine j_idx rfl rfl rfl rfl rfl (by omega) rfl rfl rfl ?_) | (refine j_kLen rfl ?_; first | refine j_len rfl rfl rfl rfl rfl rfl ?_) | (refine j_kCall rfl rfl rfl rfl ?_; first | refine jc (cF) (LeL.refl _) rfl rfl ?_) | (refine j_kBsl rfl ?_; first | refine j_bsl rfl rfl rfl rfl rfl rfl rfl rfl rfl rfl rfl ?_))
      | refine j_nil ?_
      | (refine r_go ?_; first | refine run_seq ?_ | refine run_region ?_ | (refine (run_if rfl (fun hb => ?_) (fun hb => ?_)) <;> first | (exfalso; omega) | skip) | refine run_block ?_ | refine run_skip ?_)
      | refine seqQ_normal ?_)
      refine j_append 0 (g := Go.AI.encI) (ys := d.grown kind charge (l.take k)) [l[k]] rfl rfl rfl rfl rfl rfl rfl rfl rfl rfl rfl rfl (fun _ => rfl) (fun _ _ => rfl) ⟨by simp only [List.length_cons, List.length_nil]; omega, by simp only [List.length_cons, List.length_nil]; omega⟩ rfl rfl (fun b' cap' => ?_)
      rw [← q.1, ← grown_succ hk]
      repeat' (first
      | (refine j_go ?_; first
        | refine j_op0 rfl rfl rfl rfl ?_ | (refine j_kBin rfl ?_; first | refine j_in rfl rfl ⟨by omega, by omega⟩ rfl rfl ?_))
      | refine j_nil ?_
      | (refine r_go ?_; first | refine run_region ?_ | refine run_exit ?_)
      | refine seqQ_normal ?_ | refine seqQ_exit ?_ | refine blockQ_eq ?_)
      exact loopQ_next (k + 1, b', cap') (by dsimp only; omega) (by dsimp only; omega) rfl ⟨rfl, rfl, rfl, rfl, rfl, (by dsimp only; rw [dec_congr (eu.trans ⟨fun z => z.resolve_right q.2, fun z => .inl z⟩)]; rfl), nx _, trivial⟩
  have hke : k = l.length := by omega
  subst hke
  rw [List.take_length] at gl ⊢
  repeat' (first
      | (refine j_go ?_; first
        | refine j_op0 rfl rfl rfl rfl ?_ | (refine j_kLen rfl ?_; first | refine j_len rfl rfl rfl rfl rfl rfl ?_))
      | refine j_nil ?_
      | (refine r_go ?_; first | refine run_seq ?_ | refine run_region ?_ | (refine (run_if rfl (fun hb => ?_) (fun hb => ?_)) <;> first | (exfalso; omega) | skip) | refine run_ret ?_ | refine run_exit ?_)
      | refine seqQ_normal ?_ | refine seqQ_exit ?_ | refine blockQ_eq ?_ | refine loopQ_exit ?_)
  exact endD_ret (h1 := [_]) rfl (vs := [_, _]) (.cons (.tmp rfl) (.cons (.tmp rfl) .nil)) (Le.refl _) ⟨ob, cp, rfl, rfl⟩ (.inl rfl)
theorem c_l07Grown (d : Division) (kind charge : Int) (l : List Int) (hv : d.Valid) (hl : l.length ≤ 1100000) : Gives Tryz.prog 54 [.ip (encDivision d), .int kind, .int charge, .sl (l.map Go.AI.encI)] (.tup [.sl ((d.grown kind charge l).map Go.AI.encI), .raw (.bool (dec (∃ x ∈ l, d.hasR kind charge x)))]) :=
  (o_l07Grown d kind charge l hv hl).frozen fun _ _ ⟨b, cap, q1, q2⟩ => by rw [q1, q2]; exact FrzF.tup2 (FrzF.flat rfl rfl (fun _ => rfl) rfl rfl) (Clo.raw _)
end Go.Proofs.YtbhiaccbpbnbmaaGreat
