/-
  States: what WeighState of the reference and of the program compute. No condition.
-/
import Derived.Test.YtbpmmdecaonopaaGreatZG6
import Derived.Test.YtbpmmdecaonopaaGreatZS3c
import Derived.Test.YtbpmmdecaonopaaGreatZP
import Derived.Test.YtbpmmdecaonopaaGreatZJN
namespace Go.Proofs.YtbpmmdecaonopaaGreat
open Go.AI
set_option maxRecDepth 8000
set_option maxHeartbeats 1600000

theorem zip_len {g : Int → Int → Int} {a b : List Int} (h : a.length ≤ b.length) : (List.zipWith g a b).length = a.length := by simp; omega
theorem zip_succ {g : Int → Int → Int} {a b : List Int} {k : Nat} (ha : k < a.length) (hb : k < b.length) : (List.zipWith g a b).take k ++ [g a[k] b[k]] = (List.zipWith g a b).take (k + 1) := by
  rw [List.take_succ_eq_append_getElem (by simp; omega)]; simp

theorem c_both (of : FuncId) (caps : List A) (g : Int → Int → Int) (a b : List Int) (hg : ∀ k (ha : k < a.length) (hb : k < b.length), Gives Tryz.prog of (.int a[k] :: .int b[k] :: caps) (.int (g a[k] b[k]))) (hl : a.length ≤ b.length) (hn : a.length ≤ 1000000) : Gives Tryz.prog 93 [.sl (a.map Go.AI.encI), .sl (b.map Go.AI.encI), .fn of caps] (.sl ((List.zipWith g a b).map Go.AI.encI)) := by
  refine fn_of_run tyOk ztOk mix Tryz.func93 rfl (by decide) Tryz.ntmps93 (fun w0 h => ?_)
  have hz := zip_len (g := g) hl
  repeat' (first
      | (refine j_go ?_; first
        | refine j_op0 rfl rfl rfl rfl ?_ | (refine j_kLen rfl ?_; first | refine j_len rfl rfl rfl rfl rfl rfl ?_) | (refine j_kBsl rfl ?_; first | refine j_bs0 rfl rfl rfl rfl rfl rfl ?_))
      | refine j_nil ?_
      | (refine r_go ?_; first | refine run_seq ?_ | refine run_region ?_ | refine run_block ?_)
      | refine seqQ_normal ?_)
  refine run_view (view_none 2 0 rfl) ?_
  refine run_loop (fun s : Nat × Option Nat × Nat => [(1, .sl (b.map Go.AI.encI)), (2, .fn of caps), (7, .os s.2.1 ((List.zipWith g a b).take s.1).length s.2.2), (11, .sl (a.map Go.AI.encI)), (12, .int a.length), (13, .int (s.1 : Int))]) (fun s => ⟨s.2.1, 2, s.2.2 * 1, (((List.zipWith g a b).take s.1).map Go.AI.encI).flatten⟩ :: h) (fun s => s.1 ≤ a.length) (fun s => a.length - s.1) (0, none, 0) ⟨rfl, rfl, rfl, rfl, rfl, rfl, trivial⟩ rfl (Nat.zero_le _) (fun ⟨k, ob, cp⟩ kl => ?_)
  dsimp only at kl ⊢
  by_cases hk : k < a.length
  · have hkb : k < b.length := by omega
    have hz2 : ((List.zipWith g a b).take k).length = k := by rw [List.length_take]; omega
    repeat' (first
      | (refine j_go ?_; first
        | refine j_op0 rfl rfl rfl rfl ?_ | (refine j_kIdx rfl ?_; first | refine j_idx rfl rfl rfl rfl rfl (by omega) rfl rfl rfl ?_) | (refine j_kCall rfl rfl rfl rfl ?_; first | refine jc (hg k hk hkb) (LeL.refl _) rfl rfl ?_) | (refine j_kBsl rfl ?_; first | refine j_bsl rfl rfl rfl rfl rfl rfl rfl rfl rfl rfl rfl ?_))
      | refine j_nil ?_
      | (refine r_go ?_; first | refine run_seq ?_ | refine run_region ?_ | (refine (run_if rfl (fun hb => ?_) (fun hb => ?_)) <;> first | (exfalso; omega) | skip) | refine run_block ?_ | refine run_skip ?_)
      | refine seqQ_normal ?_)
    refine j_append 0 (g := Go.AI.encI) [g a[k] b[k]] rfl rfl rfl rfl rfl rfl rfl rfl rfl rfl rfl rfl (fun _ => rfl) (fun _ _ => rfl) ⟨by rw [hz2]; simp only [List.length_cons, List.length_nil]; omega, by rw [hz2]; simp only [List.length_cons, List.length_nil]; omega⟩ rfl rfl (fun b' cap' => ?_)
    rw [zip_succ hk hkb]
    repeat' (first
      | (refine j_go ?_; first
        | refine j_op0 rfl rfl rfl rfl ?_ | (refine j_kBin rfl ?_; first | refine j_in rfl rfl ⟨by omega, by omega⟩ rfl rfl ?_))
      | refine j_nil ?_
      | (refine r_go ?_; first | refine run_region ?_)
      | refine seqQ_normal ?_ | refine blockQ_normal ?_)
    exact loopQ_next (k + 1, b', cap') (by dsimp only; omega) (by dsimp only; omega) rfl ⟨rfl, rfl, rfl, rfl, rfl, nx _, trivial⟩
  · repeat' (first
      | (refine j_go ?_; first
        | refine j_op0 rfl rfl rfl rfl ?_)
      | refine j_nil ?_
      | (refine r_go ?_; first | refine run_seq ?_ | refine run_region ?_ | (refine (run_if rfl (fun hb => ?_) (fun hb => ?_)) <;> first | (exfalso; omega) | skip) | refine run_ret ?_ | refine run_exit ?_)
      | refine seqQ_normal ?_ | refine seqQ_exit ?_ | refine blockQ_eq ?_ | refine loopQ_exit ?_)
    refine end_view (view_freeze (g := Go.AI.encI) (z := 1) (ys := (List.zipWith g a b).take k) 0 6 rfl rfl rfl (fun _ => rfl) rfl rfl) ?_
    exact end1 rfl (List.Sublist.refl _) (by rw [List.take_of_length_le (by omega)]) (.inl rfl)

end Go.Proofs.YtbpmmdecaonopaaGreat

/-
  Choices: what is left of the bags; IsChoice. No condition.
-/
namespace Go.Proofs.YtbpmmdecaonopaaGreat
open Go.AI
set_option maxRecDepth 8000
set_option maxHeartbeats 1600000

/-- The sum of a list and another one m times. -/
def plusL (a b : List Int) (m : Int) : List Int := List.zipWith (fun x y => x + y * m) a b
theorem plusL_comm (a b : List Int) (m : Int) : List.zipWith (fun x y => x + m * y) a b = plusL a b m := by
  unfold plusL; congr; funext x y; rw [Int.mul_comm]
def Fits (a b : List Int) (m : Int) : Prop := a.length ≤ b.length ∧ a.length ≤ 1000000 ∧ (∀ x ∈ a, -1000000000000 ≤ x ∧ x ≤ 1000000000000) ∧ ∀ y ∈ b, -1000000000000 ≤ y * m ∧ y * m ≤ 1000000000000


theorem c_plus1 (m x y : Int) (h0 : (-1000000000000 ≤ x ∧ x ≤ 1000000000000) ∧ -1000000000000 ≤ m * y ∧ m * y ≤ 1000000000000) : Gives Tryz.prog 94 [.int x, .int y, .ip [.int m]] (.int (x + m * y)) := by
  refine fn_of_run tyOk ztOk mix Tryz.func94 rfl (by decide) Tryz.ntmps94 (fun w0 h => ?_)
  repeat' (first
      | (refine j_go ?_; first
        | refine j_op0 rfl rfl rfl rfl ?_ | (refine j_kBin rfl ?_; first | refine j_in rfl rfl ⟨by omega, by omega⟩ rfl rfl ?_))
      | refine j_nil ?_
      | (refine r_go ?_; first | refine run_seq ?_ | refine run_region ?_ | refine run_ret ?_)
      | refine seqQ_normal ?_)
  exact end1 rfl (List.Sublist.refl _) (rfl) (.inl rfl)
theorem c_plus (a b : List Int) (m : Int) (hh : Fits a b m) : Gives Tryz.prog 74 [.sl (a.map Go.AI.encI), .sl (b.map Go.AI.encI), .int m] (.sl ((plusL a b m).map Go.AI.encI)) := by
  refine fn_of_run tyOk ztOk mix Tryz.func74 rfl (by decide) Tryz.ntmps74 (fun w0 h => ?_)
  obtain ⟨hl, hn, ha, hb0⟩ := hh
  repeat' (first
      | (refine j_go ?_; first
        | refine j_op0 rfl rfl rfl rfl ?_ | (refine j_kCall rfl rfl rfl rfl ?_; first | refine jc (c_both _ _ (fun x y => x + m * y) _ _ (fun k h1 h2 => c_plus1 m _ _ ⟨ha _ (List.getElem_mem h1), by rw [Int.mul_comm]; exact hb0 _ (List.getElem_mem h2)⟩) hl hn) (LeL.refl _) rfl rfl ?_) | refine j_box rfl rfl rfl rfl rfl rfl ?_)
      | refine j_nil ?_
      | (refine r_go ?_; first | refine run_seq ?_ | refine run_region ?_ | refine run_ret ?_)
      | refine seqQ_normal ?_)
  exact end1 rfl (List.Sublist.refl _) (by rw [plusL_comm]) (.inl rfl)

theorem c_l00Own (l : List Int) (hn : l.length ≤ 1000000) : Gives Tryz.prog 82 [.sl (l.map Go.AI.encI)] (.sl (l.map Go.AI.encI)) := by
  refine fn_of_run tyOk ztOk mix Tryz.func82 rfl (by decide) Tryz.ntmps82 (fun w0 h => ?_)
  repeat' (first
      | (refine j_go ?_; first
        | refine j_op0 rfl rfl rfl rfl ?_ | (refine j_kBsl rfl ?_; first | refine j_bs0 rfl rfl rfl rfl rfl rfl ?_))
      | refine j_nil ?_
      | (refine r_go ?_; first | refine run_seq ?_ | refine run_region ?_)
      | refine seqQ_normal ?_)
  refine j_append0 (g := Go.AI.encI) l rfl rfl rfl rfl rfl rfl rfl rfl (fun _ => rfl) (fun _ _ => rfl) ⟨by omega, by omega⟩ rfl rfl (fun b' cap' => ?_)
  repeat' (first
      | (refine j_go ?_; first
        | refine j_op0 rfl rfl rfl rfl ?_)
      | refine j_nil ?_
      | (refine r_go ?_; first | refine run_ret ?_)
      | refine seqQ_normal ?_)
  refine end_view (view_freeze (g := Go.AI.encI) (z := 1) (ys := l) 0 2 rfl rfl rfl (fun _ => rfl) rfl rfl) ?_
  exact end1 rfl (List.Sublist.refl _) rfl (.inl rfl)

/-- What is left of all bags behind the first k counts. -/
def restK (s : System) (t : State) (cs : List Int) : Nat → List (List Int)
  | 0 => t.bags
  | k + 1 => (restK s t cs k).set (s.rules.getD k default).cell.toNat (plusL ((restK s t cs k).getD (s.rules.getD k default).cell.toNat []) (s.rules.getD k default).need (0 - cs.getD k 0))
def Cnts (s : System) (cs : List Int) : Prop := (∀ x ∈ cs, 0 ≤ x ∧ x ≤ 1000) ∧ (cs.length : Int) = s.rules.length
/-- Counts are a choice. -/
def Ch (s : System) (t : State) (cs : List Int) : Prop := (∀ i (h : i < s.rules.length) (h2 : i < cs.length), 0 < cs[i] → App s t s.rules[i]) ∧ ∀ b ∈ restK s t cs s.rules.length, ∀ x ∈ b, 0 ≤ x
open Classical in
noncomputable def restA (s : System) (t : State) (cs : List Int) : A := if Ch s t cs then .sl ((restK s t cs s.rules.length).map (encS Go.AI.encI)) else .any (fun _ => True)
theorem Le.tup2 {a b c : A} (h : Le a c) : Le (.tup [a, b]) (.tup [c, b]) := fun S w x r => by
  cases r with
  | tup cs vs hl hr =>
    refine .tup _ vs hl (fun j hj hj' => ?_)
    cases j with
    | zero => exact h _ _ _ (hr 0 (by simp) hj')
    | succ j => exact hr (j + 1) (by simpa using hj) hj'
end Go.Proofs.YtbpmmdecaonopaaGreat

/-
  Choices: what the program computes of them; IsChoice, IsMaximal. No condition.
-/
namespace Go.Proofs.YtbpmmdecaonopaaGreat
open Go.AI
set_option maxRecDepth 8000
set_option maxHeartbeats 1600000

theorem c_cloneSS (l : List (List Int)) (hne : l ≠ []) (hn : l.length ≤ 1000000) : Does Tryz.prog 71 [.sl (l.map (encS Go.AI.encI))] [] (fun v h1 => ∃ b cap, v = .os b l.length cap ∧ h1 = [⟨b, 24, cap * 1, (l.map (encS Go.AI.encI)).flatten⟩]) := by
  refine fn_of_runD tyOk ztOk mix Tryz.func71 rfl (by decide) Tryz.ntmps71 (fun w0 F => ?_)
  repeat' (first
      | (refine j_go ?_; first
        | refine j_op0 rfl rfl rfl rfl ?_)
      | refine j_nil ?_
      | (refine r_go ?_; first | refine run_seq ?_ | refine run_region ?_)
      | refine seqQ_normal ?_)
  refine j_slnil rfl rfl rfl rfl (by simpa using hne) rfl rfl ?_
  repeat' (first
      | (refine j_go ?_; first
        | refine j_op0 rfl rfl rfl rfl ?_ | (refine j_kBsl rfl ?_; first | refine j_bs0 rfl rfl rfl rfl rfl rfl ?_))
      | refine j_nil ?_
      | (refine r_go ?_; first | refine run_seq ?_ | refine run_region ?_ | refine run_cond_f rfl ?_ | refine run_skip ?_)
      | refine seqQ_normal ?_)
  refine j_append0 (g := encS Go.AI.encI) l rfl rfl rfl rfl rfl rfl rfl rfl (fun _ => rfl) (fun _ _ => rfl) ⟨by omega, by omega⟩ rfl rfl (fun b' cap' => ?_)
  repeat' (first
      | (refine j_go ?_; first
        | refine j_op0 rfl rfl rfl rfl ?_)
      | refine j_nil ?_
      | (refine r_go ?_; first | refine run_ret ?_)
      | refine seqQ_normal ?_)
  exact endD_ret (h1 := [⟨b', 24, cap' * 1, (l.map (encS Go.AI.encI)).flatten⟩]) rfl (vs := [_]) (.cons (.tmp rfl) .nil) (Le.refl _) ⟨_, _, rfl, rfl⟩ (.inl rfl)

/-- The least of some numbers. -/
def minF : List Int → Int
  | [] => 0
  | [x] => x
  | x :: y :: l => min x (minF (y :: l))
theorem minF_spec : ∀ (l : List Int), l ≠ [] → minF l ∈ l ∧ ∀ x ∈ l, minF l ≤ x
  | [], h => absurd rfl h
  | [x], _ => ⟨by simp [minF], fun y hy => by simp at hy; subst hy; exact Int.le_refl _⟩
  | x :: y :: l, _ => by
    have ⟨h1, h2⟩ := minF_spec (y :: l) (by simp)
    simp only [minF]
    refine ⟨?_, fun z hz => ?_⟩
    · by_cases hx : x ≤ minF (y :: l)
      · rw [Int.min_eq_left hx]; simp
      · rw [Int.min_eq_right (by omega)]; exact List.mem_cons_of_mem _ h1
    · rcases List.mem_cons.1 hz with rfl | hz
      · omega
      · have := h2 z hz; omega
theorem minF_eq {l : List Int} {m : Int} (h1 : m ∈ l) (h2 : ∀ x ∈ l, m ≤ x) : m = minF l := by
  have hne : l ≠ [] := fun q => by rw [q] at h1; cases h1
  have ⟨a, b⟩ := minF_spec l hne
  have := h2 _ a; have := b _ h1; omega

theorem first_le {l : List Int} (h : 0 < l.length) : ∀ i (hi : i < l.length), i < 1 → l[0] ≤ l[i] := fun i hi h1 => by
  have : i = 0 := by omega
  subst this; exact Int.le_refl _

theorem c_slMin (l : List Int) (hne : 1 ≤ l.length) (hn : l.length ≤ 1000000) : Gives Tryz.prog 68 [.sl (l.map Go.AI.encI)] (.int (minF l)) := by
  refine fn_of_run tyOk ztOk mix Tryz.func68 rfl (by decide) Tryz.ntmps68 (fun w0 h => ?_)
  repeat' (first
      | (refine j_go ?_; first
        | refine j_op0 rfl rfl rfl rfl ?_ | (refine j_kIdx rfl ?_; first | refine j_idxz rfl rfl rfl rfl rfl ⟨by omega, by omega⟩ rfl rfl rfl ?_) | (refine j_kLen rfl ?_; first | refine j_len rfl rfl rfl rfl rfl rfl ?_))
      | refine j_nil ?_
      | (refine r_go ?_; first | refine run_seq ?_ | refine run_region ?_ | (refine (run_if rfl (fun hb => ?_) (fun hb => ?_)) <;> first | (exfalso; omega) | skip) | refine run_block ?_ | refine run_skip ?_)
      | refine seqQ_normal ?_)
  refine run_loop (fun x : Nat × Int => [(0, .sl (l.map Go.AI.encI)), (3, .int x.2), (4, .int (x.1 : Int))]) (fun _ => _) (fun x => (1 ≤ x.1 ∧ x.1 ≤ l.length) ∧ x.2 ∈ l ∧ ∀ i (h : i < l.length), i < x.1 → x.2 ≤ l[i]) (fun x => l.length - x.1) (1, l[0]'(by omega)) ⟨rfl, rfl, rfl, trivial⟩ rfl ⟨⟨by omega, by omega⟩, List.getElem_mem _, first_le (by omega)⟩ (fun ⟨k, m⟩ ⟨kl, km, kp⟩ => ?_)
  dsimp only at kl km kp ⊢
  by_cases hk : k < l.length
  · repeat' (first
      | (refine j_go ?_; first
        | refine j_op0 rfl rfl rfl rfl ?_ | (refine j_kIdx rfl ?_; first | refine j_idx rfl rfl rfl rfl rfl (by omega) rfl rfl rfl ?_) | (refine j_kBin rfl ?_; first | refine j_in rfl rfl ⟨by omega, by omega⟩ rfl rfl ?_) | (refine j_kLen rfl ?_; first | refine j_len rfl rfl rfl rfl rfl rfl ?_))
      | refine j_nil ?_
      | (refine r_go ?_; first | refine run_seq ?_ | refine run_region ?_ | (refine (run_if rfl (fun hb => ?_) (fun hb => ?_)) <;> first | (exfalso; omega) | skip) | refine run_block ?_ | refine run_skip ?_)
      | refine seqQ_normal ?_ | refine blockQ_normal ?_)
    exact loopQ_nextD (k + 1, min m l[k]) ⟨⟨by dsimp only; omega, by dsimp only; omega⟩, by
      dsimp only
      by_cases hx : m ≤ l[k]
      · rw [Int.min_eq_left hx]; exact km
      · rw [Int.min_eq_right (by omega)]; exact List.getElem_mem hk, by
      dsimp only
      exact all_step (fun i h1 h2 => by have := kp i h1 h2; omega) (fun _ => by omega)⟩ (by dsimp only; omega) (List.Sublist.refl _) ⟨rfl, rfl, nx _, trivial⟩
  · repeat' (first
      | (refine j_go ?_; first
        | refine j_op0 rfl rfl rfl rfl ?_ | (refine j_kLen rfl ?_; first | refine j_len rfl rfl rfl rfl rfl rfl ?_))
      | refine j_nil ?_
      | (refine r_go ?_; first | refine run_seq ?_ | refine run_region ?_ | (refine (run_if rfl (fun hb => ?_) (fun hb => ?_)) <;> first | (exfalso; omega) | skip) | refine run_ret ?_ | refine run_exit ?_)
      | refine seqQ_normal ?_ | refine seqQ_exit ?_ | refine blockQ_eq ?_ | refine loopQ_exit ?_)
    exact end1 rfl (List.Sublist.refl _) (ai (minF_eq km (fun x hx => by obtain ⟨i, hi, rfl⟩ := List.getElem_of_mem hx; exact kp i hi (by omega)))) (.inl rfl)



/-- All rules that are counted are applicable. -/
def AllApp (s : System) (t : State) (cs : List Int) : Prop := ∀ i (h : i < s.rules.length) (h2 : i < cs.length), 0 < cs[i] → App s t s.rules[i]
open Classical in
noncomputable def restI (s : System) (t : State) (cs : List Int) : A := if AllApp s t cs then .sl ((restK s t cs s.rules.length).map (encS Go.AI.encI)) else .os none 0 0
end Go.Proofs.YtbpmmdecaonopaaGreat

/-
  Sorting short lists of the call's own. No condition but that the list has at most twelve elements.
-/
namespace Go.Proofs.YtbpmmdecaonopaaGreat
open Go.AI
set_option maxRecDepth 8000
set_option maxHeartbeats 1600000

end Go.Proofs.YtbpmmdecaonopaaGreat

/-
  The possible parents of a cell: what the reference and the program compute. No condition.
-/
namespace Go.Proofs.YtbpmmdecaonopaaGreat
open Go.AI
set_option maxRecDepth 8000
set_option maxHeartbeats 1600000

/-- A cell has a rule that melts it. -/
def Melts (s : System) (c : Int) : Prop := ∃ r ∈ s.rules, r.cell = c ∧ r.melts = true
open Classical in
/-- The cells that can be around a cell, from p on. -/
noncomputable def chainF (s : System) : Nat → Int → List Int
  | 0, _ => []
  | n + 1, p => if 0 ≤ p then p :: (if Melts s p then chainF s n (s.parents.getD p.toNat (-1)) else []) else []
noncomputable def pars (s : System) (c : Int) : List Int := chainF s 7 (s.parents.getD c.toNat (-1))
end Go.Proofs.YtbpmmdecaonopaaGreat

/-
  The gains of a rule: what the reference and the program compute. No condition.
-/
namespace Go.Proofs.YtbpmmdecaonopaaGreat
open Go.AI
set_option maxRecDepth 8000
set_option maxHeartbeats 1600000

open Classical in
noncomputable def places (s : System) (r : Rule) : List Int := if r.cell = 0 then [(s.parents.length : Int)] else (pars s r.cell).reverse
end Go.Proofs.YtbpmmdecaonopaaGreat

/-
  Gains and what holds of all of them: what the program computes. No condition.
-/
namespace Go.Proofs.YtbpmmdecaonopaaGreat
open Go.AI
set_option maxRecDepth 8000
set_option maxHeartbeats 1600000


end Go.Proofs.YtbpmmdecaonopaaGreat

/-
  Copies of lists in memory of the call's own, their marks, and what is held. No condition but that the sizes are bounded.
-/
namespace Go.Proofs.YtbpmmdecaonopaaGreat
open Go.AI
set_option maxRecDepth 8000
set_option maxHeartbeats 1600000
end Go.Proofs.YtbpmmdecaonopaaGreat

/-
  Lists of numbers that hold what a condition picks, and answers in memory of the call's own. No condition.
-/
namespace Go.Proofs.YtbpmmdecaonopaaGreat
open Go.AI

open Classical in
/-- A list where a condition holds, else the empty one. -/
noncomputable def lsP (p : Prop) (l : List Int) : List Int := if p then l else []
end Go.Proofs.YtbpmmdecaonopaaGreat

/-
  The bag of all objects, on both sides: TotalBag. No condition.
-/
namespace Go.Proofs.YtbpmmdecaonopaaGreat
open Go.AI
set_option maxRecDepth 8000
set_option maxHeartbeats 1600000

/-- A list in memory of the call's own. -/
def OwnL (l : List Int) : A → Heap → Prop := fun v h' => ∃ b cap, v = .os b l.length cap ∧ h' = [⟨b, 2, cap * 1, (l.map Go.AI.encI).flatten⟩]
theorem OwnL.clo {l : List Int} {v : A} {h1 : Heap} (q : OwnL l v h1) : Clo v ∧ CloH h1 := by
  obtain ⟨b, cap, rfl, rfl⟩ := q
  exact ⟨Clo.os _ _ _, CloH.cons (CloL.mapInt _ _) CloH.nil⟩
theorem o_cloneI (l : List Int) (hne : l ≠ []) (hn : l.length ≤ 1000000) : Does Tryz.prog 48 [.sl (l.map Go.AI.encI)] [] (OwnL l) := by
  refine fn_of_runD tyOk ztOk mix Tryz.func48 rfl (by decide) Tryz.ntmps48 (fun w0 F => ?_)
  repeat' (first
      | (refine j_go ?_; first
        | refine j_op0 rfl rfl rfl rfl ?_)
      | refine j_nil ?_
      | (refine r_go ?_; first | refine run_seq ?_ | refine run_region ?_)
      | refine seqQ_normal ?_)
  refine j_slnil rfl rfl rfl rfl (by simpa using hne) rfl rfl ?_
  repeat' (first
      | (refine j_go ?_; first
        | refine j_op0 rfl rfl rfl rfl ?_ | (refine j_kBsl rfl ?_; first | refine j_bs0 rfl rfl rfl rfl rfl rfl ?_))
      | refine j_nil ?_
      | (refine r_go ?_; first | refine run_seq ?_ | refine run_region ?_ | refine run_cond_f rfl ?_ | refine run_skip ?_)
      | refine seqQ_normal ?_)
  refine j_append0 (g := Go.AI.encI) l rfl rfl rfl rfl rfl rfl rfl rfl (fun _ => rfl) (fun _ _ => rfl) ⟨by omega, by omega⟩ rfl rfl (fun b' cap' => ?_)
  repeat' (first
      | (refine j_go ?_; first
        | refine j_op0 rfl rfl rfl rfl ?_)
      | refine j_nil ?_
      | (refine r_go ?_; first | refine run_ret ?_)
      | refine seqQ_normal ?_)
  exact endD_ret (h1 := [⟨b', 2, cap' * 1, (l.map Go.AI.encI).flatten⟩]) rfl (vs := [_]) (.cons (.tmp rfl) .nil) (Le.refl _) ⟨_, _, rfl, rfl⟩ (.inl rfl)

open Classical in
noncomputable def cdL (p : Prop) : Int := if p then 0 else 3
/-- All objects of what is around and of the first k cells. -/
def totK (t : State) : Nat → List Int
  | 0 => t.around
  | k + 1 => plusL (totK t k) (t.bags.getD k []) 1
open Classical in
noncomputable def codeTotalBag (s : System) (t : State) : Int := if s.Ok ∧ s.StateOk t then cdL (Bag (totK t t.bags.length)) else 1
end Go.Proofs.YtbpmmdecaonopaaGreat

/-
  Results in memory of the call's own: their marks, and what is held of them. No condition but that the sizes are bounded.
-/
namespace Go.Proofs.YtbpmmdecaonopaaGreat
open Go.AI
set_option maxRecDepth 8000
set_option maxHeartbeats 1600000
def ROI (l : List Int) (a : A) (h : Heap) : Prop := OwnF Go.AI.encI 2 1 l a h
def ROB (l : List Bool) (a : A) (h : Heap) : Prop := OwnF encB 4 1 l a h
def ROII (L : List (List Int)) (a : A) (h : Heap) : Prop := OwnLL ROI 24 L a h
theorem ROI.frz {l : List Int} {a : A} {h : Heap} (o : ROI l a h) : Frz h a (.sl (l.map Go.AI.encI)) := OwnF.frz (fun _ => rfl) rfl o
theorem ROB.frz {l : List Bool} {a : A} {h : Heap} (o : ROB l a h) : Frz h a (.sl (l.map encB)) := OwnF.frz (fun _ => rfl) rfl o
theorem ROII.frz {l : List (List Int)} {a : A} {h : Heap} (o : ROII l a h) : Frz h a (.sl (l.map (encS Go.AI.encI))) := OwnLL.frz (enc := fun x => (x.map Go.AI.encI)) (fun _ _ _ q => q.frz) o (fun _ => rfl)
theorem ROI.clo {l : List Int} {a : A} {h : Heap} (o : ROI l a h) : Clo a ∧ CloH h := OwnF.clo (fun _ => CloL.cons (Clo.int _) CloL.nil) o
theorem ROB.clo {l : List Bool} {a : A} {h : Heap} (o : ROB l a h) : Clo a ∧ CloH h := OwnF.clo (fun _ => CloL.cons (Clo.raw _) CloL.nil) o
theorem ROII.clo {l : List (List Int)} {a : A} {h : Heap} (o : ROII l a h) : Clo a ∧ CloH h := OwnLL.clo (fun _ _ _ q => q.clo) o
theorem OwnF.okc {α : Type} {g : α → List A} {T z : Nat} {l : List α} {a : A} {h : Heap} (o : OwnF g T z l a h) : okCell a = true := by
  rcases o with ⟨b, cap, rfl, rfl⟩ | ⟨rfl, rfl, rfl⟩ <;> rfl
theorem OwnLL.okc {β : Type} {O : β → A → Heap → Prop} {T : Nat} {L : List β} {a : A} {h : Heap} (o : OwnLL O T L a h) : okCell a = true := by
  rcases o with ⟨b, cap, vs, hs, _, _, _, rfl, rfl⟩ | ⟨rfl, rfl, rfl⟩ <;> rfl

theorem ROI.frzF {l : List Int} {a : A} {h : Heap} (o : ROI l a h) : FrzF h a (.sl (l.map Go.AI.encI)) := OwnF.frzF (fun _ => rfl) rfl o
theorem ROB.frzF {l : List Bool} {a : A} {h : Heap} (o : ROB l a h) : FrzF h a (.sl (l.map encB)) := OwnF.frzF (fun _ => rfl) rfl o
theorem ROII.frzF {l : List (List Int)} {a : A} {h : Heap} (o : ROII l a h) : FrzF h a (.sl (l.map (encS Go.AI.encI))) := OwnLL.frzF (enc := fun x => (x.map Go.AI.encI)) (fun _ _ _ q => q.frzF) o (fun _ => rfl)
end Go.Proofs.YtbpmmdecaonopaaGreat

/-
  What a rule changes, in memory of the call's own: ChangeOf. No condition.
-/
namespace Go.Proofs.YtbpmmdecaonopaaGreat
open Go.AI
set_option maxRecDepth 8000
set_option maxHeartbeats 1600000

def addL (L : List (List Int)) (c : Nat) (b : List Int) (m : Int) : List (List Int) := L.set c (plusL (L.getD c []) b m)
theorem addL_get {L : List (List Int)} {c : Nat} (hc : c < L.length) (b : List Int) (m : Int) : addL L c b m = L.set c (plusL L[c] b m) := by unfold addL; rw [getD_get hc]
structure ChOk (s : System) (L : List (List Int)) (B : Int) : Prop where
  n : L.length = s.parents.length + 1
  b : ∀ x ∈ L, (x.length : Int) = s.kinds ∧ ∀ y ∈ x, -B ≤ y ∧ y ≤ B
theorem ChOk.fits {s : System} {L : List (List Int)} {B : Int} (h : ChOk s L B) (hk : 1 ≤ s.kinds ∧ s.kinds ≤ 8) (hB : B ≤ 1000000) {c : Nat} (hc : c < L.length) {b : List Int} (hb : BagK s.kinds b) {m : Int} (hm : m = 1 ∨ m = -1) : Fits L[c] b m := by
  have q := h.b _ (List.getElem_mem hc)
  have e := hb.2
  refine ⟨by omega, by omega, fun x hx => by have := q.2 x hx; omega, fun y hy => ?_⟩
  have := hb.1.1 y hy
  rcases hm with rfl | rfl <;> omega
theorem ChOk.add {s : System} {L : List (List Int)} {B : Int} (h : ChOk s L B) {c : Nat} (hc : c < L.length) {b : List Int} (hb : BagK s.kinds b) {m : Int} (hm : m = 1 ∨ m = -1) : ChOk s (addL L c b m) (B + 1000) := by
  rw [addL_get hc]
  refine ⟨by rw [List.length_set]; exact h.n, fun x hx => ?_⟩
  rcases List.mem_or_eq_of_mem_set hx with hx | rfl
  · have q := h.b x hx
    exact ⟨q.1, fun y hy => by have := q.2 y hy; omega⟩
  · have q := h.b _ (List.getElem_mem hc)
    have e := hb.2
    unfold plusL
    refine ⟨by rw [List.length_zipWith]; have := q.1; omega, fun y hy => ?_⟩
    obtain ⟨i, hi, rfl⟩ := List.getElem_of_mem hy
    rw [List.length_zipWith] at hi
    rw [List.getElem_zipWith]
    have h1 := q.2 _ (List.getElem_mem (n := i) (by omega))
    have h2 := hb.1.1 _ (List.getElem_mem (n := i) (by omega))
    rcases hm with rfl | rfl <;> omega
def toC (s : System) (t : State) (r : Rule) : Nat := if 0 ≤ pnow s t r.cell then (pnow s t r.cell).toNat else s.parents.length
def z0 (s : System) : List (List Int) := List.replicate (s.parents.length + 1) (List.replicate s.kinds.toNat 0)
def ch1 (s : System) (r : Rule) : List (List Int) := addL (z0 s) r.cell.toNat r.need (-1)
def ch2 (s : System) (r : Rule) : List (List Int) := addL (ch1 s r) r.cell.toNat r.here 1
def ch3 (s : System) (t : State) (r : Rule) : List (List Int) := addL (ch2 s r) (toC s t r) r.out 1
def chK (L : List (List Int)) (r : Rule) : Nat → List (List Int)
  | 0 => L
  | k + 1 => addL (chK L r k) (r.into.getD k default).cell.toNat (r.into.getD k default).bag 1
def chF (s : System) (t : State) (r : Rule) : List (List Int) := chK (ch3 s t r) r r.into.length
theorem z0_ok {s : System} (hk : 1 ≤ s.kinds ∧ s.kinds ≤ 8) : ChOk s (z0 s) 0 := by
  unfold z0
  refine ⟨by simp, fun x hx => ?_⟩
  rw [List.eq_of_mem_replicate hx]
  exact ⟨by rw [List.length_replicate]; omega, fun y hy => by rw [List.eq_of_mem_replicate hy]; omega⟩
theorem toC_lt {s : System} {t : State} {r : Rule} (hv : s.Ok) (hr : s.RuleOk r) : toC s t r < s.parents.length + 1 := by
  have := pnow_bnd (t := t) hv hr.1
  unfold toC
  split <;> omega
structure Chs (s : System) (t : State) (r : Rule) : Prop where
  k : 1 ≤ s.kinds ∧ s.kinds ≤ 8
  c : r.cell.toNat < s.parents.length + 1
  to : toC s t r < s.parents.length + 1
  o1 : ChOk s (ch1 s r) 1000
  o2 : ChOk s (ch2 s r) 2000
  o3 : ChOk s (ch3 s t r) 3000
theorem chs {s : System} {t : State} {r : Rule} (hv : s.Ok) (hr : s.RuleOk r) : Chs s t r := by
  have k8 := hv.1.1
  have h0 := hr.1
  have ht := toC_lt (t := t) hv hr
  obtain ⟨_, _, _, _, b1, _, _, b2, b3, _⟩ := hr
  have o0 := z0_ok k8
  have o1 : ChOk s (ch1 s r) 1000 := by
    exact o0.add (c := r.cell.toNat) (by have := o0.n; omega) b1 (.inr rfl)
  have o2 : ChOk s (ch2 s r) 2000 := o1.add (c := r.cell.toNat) (by have := o1.n; omega) b2 (.inl rfl)
  have o3 : ChOk s (ch3 s t r) 3000 := o2.add (c := toC s t r) (by have := o2.n; omega) b3 (.inl rfl)
  exact ⟨k8, by omega, ht, o1, o2, o3⟩
open Classical in
noncomputable def resChangeOf (s : System) (t : State) (i : Int) : List (List Int) := if s.Ok ∧ s.StateOk t ∧ (0 ≤ i ∧ i ≤ (s.rules.length : Int) - 1) ∧ EnP s t (s.rules.getD i.toNat default) then chF s t (s.rules.getD i.toNat default) else []
open Classical in
noncomputable def codeChangeOf (s : System) (t : State) (i : Int) : Int := if s.Ok ∧ s.StateOk t then if 0 ≤ i ∧ i ≤ (s.rules.length : Int) - 1 then if EnP s t (s.rules.getD i.toNat default) then 0 else 4 else 2 else 1
end Go.Proofs.YtbpmmdecaonopaaGreat
