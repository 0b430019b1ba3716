/-
  States: what WeighState of the reference and of the program compute. No condition.
-/
import Derived.Test.YtandldhceabdiaaZS2d
import Derived.Test.YtandldhceabdiaaZS3c
import Derived.Test.YtandldhceabdiaaZOwn
import Derived.Test.YtandldhceabdiaaZHBase
import Derived.Test.YtandldhceabdiaaZE5
namespace Go.Proofs.Ytandldhceabdiaa
open Go.AI
set_option maxRecDepth 8000
set_option maxHeartbeats 1600000

theorem zip_len {g : Int → Int → Int} {a b : List Int} (h : a.length ≤ b.length) : (List.zipWith g a b).length = a.length := by simp; omega
theorem zip_succ {g : Int → Int → Int} {a b : List Int} {k : Nat} (ha : k < a.length) (hb : k < b.length) : (List.zipWith g a b).take k ++ [g a[k] b[k]] = (List.zipWith g a b).take (k + 1) := by
  rw [List.take_succ_eq_append_getElem (by simp; omega)]; simp

theorem c_both (of : FuncId) (caps : List A) (g : Int → Int → Int) (a b : List Int) (hg : ∀ k (ha : k < a.length) (hb : k < b.length), Gives Try.prog of (.int a[k] :: .int b[k] :: caps) (.int (g a[k] b[k]))) (hl : a.length ≤ b.length) (hn : a.length ≤ 1000000) : Gives Try.prog 186 [.sl (a.map Go.AI.encI), .sl (b.map Go.AI.encI), .fn of caps] (.sl ((List.zipWith g a b).map Go.AI.encI)) := by
  refine fn_of_run tyOk ztOk mix Try.func186 rfl (by decide) Try.ntmps186 (fun w0 h => ?_)
  have hz := zip_len (g := g) hl
  repeat' (first
      | (refine j_go ?_; first
        | refine j_op0 rfl rfl rfl rfl ?_ | (refine j_kLen rfl ?_; first | refine j_len rfl rfl rfl rfl rfl rfl ?_) | (refine j_kBsl rfl ?_; first | refine j_bs0 rfl rfl rfl rfl rfl rfl ?_))
      | refine j_nil ?_
      | (refine r_go ?_; first | refine run_seq ?_ | refine run_region ?_ | refine run_block ?_)
      | refine seqQ_normal ?_)
  refine run_view (view_none 2 0 rfl) ?_
  refine run_loop (fun s : Nat × Option Nat × Nat => [(1, .sl (b.map Go.AI.encI)), (2, .fn of caps), (7, .os s.2.1 ((List.zipWith g a b).take s.1).length s.2.2), (11, .sl (a.map Go.AI.encI)), (12, .int a.length), (13, .int (s.1 : Int))]) (fun s => ⟨s.2.1, 2, s.2.2 * 1, (((List.zipWith g a b).take s.1).map Go.AI.encI).flatten⟩ :: h) (fun s => s.1 ≤ a.length) (fun s => a.length - s.1) (0, none, 0) ⟨rfl, rfl, rfl, rfl, rfl, rfl, trivial⟩ rfl (Nat.zero_le _) (fun ⟨k, ob, cp⟩ kl => ?_)
  dsimp only at kl ⊢
  by_cases hk : k < a.length
  · have hkb : k < b.length := by omega
    have hz2 : ((List.zipWith g a b).take k).length = k := by rw [List.length_take]; omega
    repeat' (first
      | (refine j_go ?_; first
        | refine j_op0 rfl rfl rfl rfl ?_ | (refine j_kIdx rfl ?_; first | refine j_idx rfl rfl rfl rfl rfl (by omega) rfl rfl rfl ?_) | (refine j_kCall rfl rfl rfl rfl ?_; first | refine jc (hg k hk hkb) (LeL.refl _) rfl rfl ?_) | (refine j_kBsl rfl ?_; first | refine j_bsl rfl rfl rfl rfl rfl rfl rfl rfl rfl rfl rfl ?_))
      | refine j_nil ?_
      | (refine r_go ?_; first | refine run_seq ?_ | refine run_region ?_ | (refine (run_if rfl (fun hb => ?_) (fun hb => ?_)) <;> first | (exfalso; omega) | skip) | refine run_block ?_ | refine run_skip ?_)
      | refine seqQ_normal ?_)
    refine j_append 0 (g := Go.AI.encI) [g a[k] b[k]] rfl rfl rfl rfl rfl rfl rfl rfl rfl rfl rfl rfl (fun _ => rfl) (fun _ _ => rfl) ⟨by rw [hz2]; simp only [List.length_cons, List.length_nil]; omega, by rw [hz2]; simp only [List.length_cons, List.length_nil]; omega⟩ rfl rfl (fun b' cap' => ?_)
    rw [zip_succ hk hkb]
    repeat' (first
      | (refine j_go ?_; first
        | refine j_op0 rfl rfl rfl rfl ?_ | (refine j_kBin rfl ?_; first | refine j_in rfl rfl ⟨by omega, by omega⟩ rfl rfl ?_))
      | refine j_nil ?_
      | (refine r_go ?_; first | refine run_region ?_)
      | refine seqQ_normal ?_ | refine blockQ_normal ?_)
    exact loopQ_next (k + 1, b', cap') (by dsimp only; omega) (by dsimp only; omega) rfl ⟨rfl, rfl, rfl, rfl, rfl, nx _, trivial⟩
  · repeat' (first
      | (refine j_go ?_; first
        | refine j_op0 rfl rfl rfl rfl ?_)
      | refine j_nil ?_
      | (refine r_go ?_; first | refine run_seq ?_ | refine run_region ?_ | (refine (run_if rfl (fun hb => ?_) (fun hb => ?_)) <;> first | (exfalso; omega) | skip) | refine run_ret ?_ | refine run_exit ?_)
      | refine seqQ_normal ?_ | refine seqQ_exit ?_ | refine blockQ_eq ?_ | refine loopQ_exit ?_)
    refine end_view (view_freeze (g := Go.AI.encI) (z := 1) (ys := (List.zipWith g a b).take k) 0 6 rfl rfl rfl (fun _ => rfl) rfl rfl) ?_
    exact end1 rfl (List.Sublist.refl _) (by rw [List.take_of_length_le (by omega)]) (.inl rfl)

end Go.Proofs.Ytandldhceabdiaa

/-
  Choices: what is left of the bags; IsChoice. No condition.
-/
namespace Go.Proofs.Ytandldhceabdiaa
open Go.AI
set_option maxRecDepth 8000
set_option maxHeartbeats 1600000

/-- The sum of a list and another one m times. -/
def plusL (a b : List Int) (m : Int) : List Int := List.zipWith (fun x y => x + y * m) a b
theorem plusL_comm (a b : List Int) (m : Int) : List.zipWith (fun x y => x + m * y) a b = plusL a b m := by
  unfold plusL; congr; funext x y; rw [Int.mul_comm]
def Fits (a b : List Int) (m : Int) : Prop := a.length ≤ b.length ∧ a.length ≤ 1000000 ∧ (∀ x ∈ a, -1000000000000 ≤ x ∧ x ≤ 1000000000000) ∧ ∀ y ∈ b, -1000000000000 ≤ y * m ∧ y * m ≤ 1000000000000

theorem c_plus1 (m x y : Int) (h0 : (-1000000000000 ≤ x ∧ x ≤ 1000000000000) ∧ -1000000000000 ≤ m * y ∧ m * y ≤ 1000000000000) : Gives Try.prog 187 [.int x, .int y, .ip [.int m]] (.int (x + m * y)) := by
  refine fn_of_run tyOk ztOk mix Try.func187 rfl (by decide) Try.ntmps187 (fun w0 h => ?_)
  repeat' (first
      | (refine j_go ?_; first
        | refine j_op0 rfl rfl rfl rfl ?_ | (refine j_kBin rfl ?_; first | refine j_in rfl rfl ⟨by omega, by omega⟩ rfl rfl ?_))
      | refine j_nil ?_
      | (refine r_go ?_; first | refine run_seq ?_ | refine run_region ?_ | refine run_ret ?_)
      | refine seqQ_normal ?_)
  exact end1 rfl (List.Sublist.refl _) (rfl) (.inl rfl)
theorem c_plus (a b : List Int) (m : Int) (hh : Fits a b m) : Gives Try.prog 138 [.sl (a.map Go.AI.encI), .sl (b.map Go.AI.encI), .int m] (.sl ((plusL a b m).map Go.AI.encI)) := by
  refine fn_of_run tyOk ztOk mix Try.func138 rfl (by decide) Try.ntmps138 (fun w0 h => ?_)
  obtain ⟨hl, hn, ha, hb0⟩ := hh
  repeat' (first
      | (refine j_go ?_; first
        | refine j_op0 rfl rfl rfl rfl ?_ | (refine j_kCall rfl rfl rfl rfl ?_; first | refine jc (c_both _ _ (fun x y => x + m * y) _ _ (fun k h1 h2 => c_plus1 m _ _ ⟨ha _ (List.getElem_mem h1), by rw [Int.mul_comm]; exact hb0 _ (List.getElem_mem h2)⟩) hl hn) (LeL.refl _) rfl rfl ?_) | refine j_box rfl rfl rfl rfl rfl rfl ?_)
      | refine j_nil ?_
      | (refine r_go ?_; first | refine run_seq ?_ | refine run_region ?_ | refine run_ret ?_)
      | refine seqQ_normal ?_)
  exact end1 rfl (List.Sublist.refl _) (by rw [plusL_comm]) (.inl rfl)

theorem c_l00Own (l : List Int) (hn : l.length ≤ 1000000) : Gives Try.prog 163 [.sl (l.map Go.AI.encI)] (.sl (l.map Go.AI.encI)) := by
  refine fn_of_run tyOk ztOk mix Try.func163 rfl (by decide) Try.ntmps163 (fun w0 h => ?_)
  repeat' (first
      | (refine j_go ?_; first
        | refine j_op0 rfl rfl rfl rfl ?_ | (refine j_kBsl rfl ?_; first | refine j_bs0 rfl rfl rfl rfl rfl rfl ?_))
      | refine j_nil ?_
      | (refine r_go ?_; first | refine run_seq ?_ | refine run_region ?_)
      | refine seqQ_normal ?_)
  refine j_append0 (g := Go.AI.encI) l rfl rfl rfl rfl rfl rfl rfl rfl (fun _ => rfl) (fun _ _ => rfl) ⟨by omega, by omega⟩ rfl rfl (fun b' cap' => ?_)
  repeat' (first
      | (refine j_go ?_; first
        | refine j_op0 rfl rfl rfl rfl ?_)
      | refine j_nil ?_
      | (refine r_go ?_; first | refine run_ret ?_)
      | refine seqQ_normal ?_)
  refine end_view (view_freeze (g := Go.AI.encI) (z := 1) (ys := l) 0 2 rfl rfl rfl (fun _ => rfl) rfl rfl) ?_
  exact end1 rfl (List.Sublist.refl _) rfl (.inl rfl)

/-- What is left of all bags behind the first k counts. -/
def restK (s : System) (t : State) (cs : List Int) : Nat → List (List Int)
  | 0 => t.bags
  | k + 1 => (restK s t cs k).set (s.rules.getD k default).cell.toNat (plusL ((restK s t cs k).getD (s.rules.getD k default).cell.toNat []) (s.rules.getD k default).need (0 - cs.getD k 0))
def Cnts (s : System) (cs : List Int) : Prop := (∀ x ∈ cs, 0 ≤ x ∧ x ≤ 1000) ∧ (cs.length : Int) = s.rules.length
/-- Counts are a choice. -/
def Ch (s : System) (t : State) (cs : List Int) : Prop := (∀ i (h : i < s.rules.length) (h2 : i < cs.length), 0 < cs[i] → App s t s.rules[i]) ∧ ∀ b ∈ restK s t cs s.rules.length, ∀ x ∈ b, 0 ≤ x
open Classical in
noncomputable def restA (s : System) (t : State) (cs : List Int) : A := if Ch s t cs then .sl ((restK s t cs s.rules.length).map (encS Go.AI.encI)) else .any (fun _ => True)
theorem Le.tup2 {a b c : A} (h : Le a c) : Le (.tup [a, b]) (.tup [c, b]) := fun S w x r => by
  cases r with
  | tup cs vs hl hr =>
    refine .tup _ vs hl (fun j hj hj' => ?_)
    cases j with
    | zero => exact h _ _ _ (hr 0 (by simp) hj')
    | succ j => exact hr (j + 1) (by simpa using hj) hj'
end Go.Proofs.Ytandldhceabdiaa

/-
  Choices: what the program computes of them; IsChoice, IsMaximal. No condition.
-/
namespace Go.Proofs.Ytandldhceabdiaa
open Go.AI
set_option maxRecDepth 8000
set_option maxHeartbeats 1600000

theorem c_cloneSS (l : List (List Int)) (hne : l ≠ []) (hn : l.length ≤ 1000000) : Does Try.prog 135 [.sl (l.map (encS Go.AI.encI))] [] (fun v h1 => ∃ b cap, v = .os b l.length cap ∧ h1 = [⟨b, 22, cap * 1, (l.map (encS Go.AI.encI)).flatten⟩]) := by
  refine fn_of_runD tyOk ztOk mix Try.func135 rfl (by decide) Try.ntmps135 (fun w0 F => ?_)
  repeat' (first
      | (refine j_go ?_; first
        | refine j_op0 rfl rfl rfl rfl ?_)
      | refine j_nil ?_
      | (refine r_go ?_; first | refine run_seq ?_ | refine run_region ?_)
      | refine seqQ_normal ?_)
  refine j_slnil rfl rfl rfl rfl (by simpa using hne) rfl rfl ?_
  repeat' (first
      | (refine j_go ?_; first
        | refine j_op0 rfl rfl rfl rfl ?_ | (refine j_kBsl rfl ?_; first | refine j_bs0 rfl rfl rfl rfl rfl rfl ?_))
      | refine j_nil ?_
      | (refine r_go ?_; first | refine run_seq ?_ | refine run_region ?_ | refine run_cond_f rfl ?_ | refine run_skip ?_)
      | refine seqQ_normal ?_)
  refine j_append0 (g := encS Go.AI.encI) l rfl rfl rfl rfl rfl rfl rfl rfl (fun _ => rfl) (fun _ _ => rfl) ⟨by omega, by omega⟩ rfl rfl (fun b' cap' => ?_)
  repeat' (first
      | (refine j_go ?_; first
        | refine j_op0 rfl rfl rfl rfl ?_)
      | refine j_nil ?_
      | (refine r_go ?_; first | refine run_ret ?_)
      | refine seqQ_normal ?_)
  exact endD_ret (h1 := [⟨b', 22, cap' * 1, (l.map (encS Go.AI.encI)).flatten⟩]) rfl (vs := [_]) (.cons (.tmp rfl) .nil) (Le.refl _) ⟨_, _, rfl, rfl⟩ (.inl rfl)

/-- The least of some numbers. -/
def minF : List Int → Int
  | [] => 0
  | [x] => x
  | x :: y :: l => min x (minF (y :: l))
theorem minF_spec : ∀ (l : List Int), l ≠ [] → minF l ∈ l ∧ ∀ x ∈ l, minF l ≤ x
  | [], h => absurd rfl h
  | [x], _ => ⟨by simp [minF], fun y hy => by simp at hy; subst hy; exact Int.le_refl _⟩
  | x :: y :: l, _ => by
    have ⟨h1, h2⟩ := minF_spec (y :: l) (by simp)
    simp only [minF]
    refine ⟨?_, fun z hz => ?_⟩
    · by_cases hx : x ≤ minF (y :: l)
      · rw [Int.min_eq_left hx]; simp
      · rw [Int.min_eq_right (by omega)]; exact List.mem_cons_of_mem _ h1
    · rcases List.mem_cons.1 hz with rfl | hz
      · omega
      · have := h2 z hz; omega
theorem minF_eq {l : List Int} {m : Int} (h1 : m ∈ l) (h2 : ∀ x ∈ l, m ≤ x) : m = minF l := by
  have hne : l ≠ [] := fun q => by rw [q] at h1; cases h1
  have ⟨a, b⟩ := minF_spec l hne
  have := h2 _ a; have := b _ h1; omega

theorem first_le {l : List Int} (h : 0 < l.length) : ∀ i (hi : i < l.length), i < 1 → l[0] ≤ l[i] := fun i hi h1 => by
  have : i = 0 := by omega
  subst this; exact Int.le_refl _

theorem c_slMin (l : List Int) (hne : 1 ≤ l.length) (hn : l.length ≤ 1000000) : Gives Try.prog 171 [.sl (l.map Go.AI.encI)] (.int (minF l)) := by
  refine fn_of_run tyOk ztOk mix Try.func171 rfl (by decide) Try.ntmps171 (fun w0 h => ?_)
  repeat' (first
      | (refine j_go ?_; first
        | refine j_op0 rfl rfl rfl rfl ?_ | (refine j_kIdx rfl ?_; first | refine j_idxz rfl rfl rfl rfl rfl ⟨by omega, by omega⟩ rfl rfl rfl ?_) | (refine j_kLen rfl ?_; first | refine j_len rfl rfl rfl rfl rfl rfl ?_))
      | refine j_nil ?_
      | (refine r_go ?_; first | refine run_seq ?_ | refine run_region ?_ | (refine (run_if rfl (fun hb => ?_) (fun hb => ?_)) <;> first | (exfalso; omega) | skip) | refine run_block ?_ | refine run_skip ?_)
      | refine seqQ_normal ?_)
  refine run_loop (fun x : Nat × Int => [(0, .sl (l.map Go.AI.encI)), (3, .int x.2), (4, .int (x.1 : Int))]) (fun _ => _) (fun x => (1 ≤ x.1 ∧ x.1 ≤ l.length) ∧ x.2 ∈ l ∧ ∀ i (h : i < l.length), i < x.1 → x.2 ≤ l[i]) (fun x => l.length - x.1) (1, l[0]'(by omega)) ⟨rfl, rfl, rfl, trivial⟩ rfl ⟨⟨by omega, by omega⟩, List.getElem_mem _, first_le (by omega)⟩ (fun ⟨k, m⟩ ⟨kl, km, kp⟩ => ?_)
  dsimp only at kl km kp ⊢
  by_cases hk : k < l.length
  · repeat' (first
      | (refine j_go ?_; first
        | refine j_op0 rfl rfl rfl rfl ?_ | (refine j_kIdx rfl ?_; first | refine j_idx rfl rfl rfl rfl rfl (by omega) rfl rfl rfl ?_) | (refine j_kBin rfl ?_; first | refine j_in rfl rfl ⟨by omega, by omega⟩ rfl rfl ?_) | (refine j_kLen rfl ?_; first | refine j_len rfl rfl rfl rfl rfl rfl ?_))
      | refine j_nil ?_
      | (refine r_go ?_; first | refine run_seq ?_ | refine run_region ?_ | (refine (run_if rfl (fun hb => ?_) (fun hb => ?_)) <;> first | (exfalso; omega) | skip) | refine run_block ?_ | refine run_skip ?_)
      | refine seqQ_normal ?_ | refine blockQ_normal ?_)
    exact loopQ_nextD (k + 1, min m l[k]) ⟨⟨by dsimp only; omega, by dsimp only; omega⟩, by
      dsimp only
      by_cases hx : m ≤ l[k]
      · rw [Int.min_eq_left hx]; exact km
      · rw [Int.min_eq_right (by omega)]; exact List.getElem_mem hk, by
      dsimp only
      exact all_step (fun i h1 h2 => by have := kp i h1 h2; omega) (fun _ => by omega)⟩ (by dsimp only; omega) (List.Sublist.refl _) ⟨rfl, rfl, nx _, trivial⟩
  · repeat' (first
      | (refine j_go ?_; first
        | refine j_op0 rfl rfl rfl rfl ?_ | (refine j_kLen rfl ?_; first | refine j_len rfl rfl rfl rfl rfl rfl ?_))
      | refine j_nil ?_
      | (refine r_go ?_; first | refine run_seq ?_ | refine run_region ?_ | (refine (run_if rfl (fun hb => ?_) (fun hb => ?_)) <;> first | (exfalso; omega) | skip) | refine run_ret ?_ | refine run_exit ?_)
      | refine seqQ_normal ?_ | refine seqQ_exit ?_ | refine blockQ_eq ?_ | refine loopQ_exit ?_)
    exact end1 rfl (List.Sublist.refl _) (ai (minF_eq km (fun x hx => by obtain ⟨i, hi, rfl⟩ := List.getElem_of_mem hx; exact kp i hi (by omega)))) (.inl rfl)



/-- All rules that are counted are applicable. -/
def AllApp (s : System) (t : State) (cs : List Int) : Prop := ∀ i (h : i < s.rules.length) (h2 : i < cs.length), 0 < cs[i] → App s t s.rules[i]
open Classical in
noncomputable def restI (s : System) (t : State) (cs : List Int) : A := if AllApp s t cs then .sl ((restK s t cs s.rules.length).map (encS Go.AI.encI)) else .os none 0 0
end Go.Proofs.Ytandldhceabdiaa

/-
  Sorting short lists of the call's own. No condition but that the list has at most twelve elements.
-/
namespace Go.Proofs.Ytandldhceabdiaa
open Go.AI
set_option maxRecDepth 8000
set_option maxHeartbeats 1600000

end Go.Proofs.Ytandldhceabdiaa

/-
  The possible parents of a cell: what the reference and the program compute. No condition.
-/
namespace Go.Proofs.Ytandldhceabdiaa
open Go.AI
set_option maxRecDepth 8000
set_option maxHeartbeats 1600000

/-- A cell has a rule that melts it. -/
def Melts (s : System) (c : Int) : Prop := ∃ r ∈ s.rules, r.cell = c ∧ r.melts = true
open Classical in
/-- The cells that can be around a cell, from p on. -/
noncomputable def chainF (s : System) : Nat → Int → List Int
  | 0, _ => []
  | n + 1, p => if 0 ≤ p then p :: (if Melts s p then chainF s n (s.parents.getD p.toNat (-1)) else []) else []
noncomputable def pars (s : System) (c : Int) : List Int := chainF s 7 (s.parents.getD c.toNat (-1))
end Go.Proofs.Ytandldhceabdiaa

/-
  The gains of a rule: what the reference and the program compute. No condition.
-/
namespace Go.Proofs.Ytandldhceabdiaa
open Go.AI
set_option maxRecDepth 8000
set_option maxHeartbeats 1600000

open Classical in
noncomputable def places (s : System) (r : Rule) : List Int := if r.cell = 0 then [(s.parents.length : Int)] else (pars s r.cell).reverse
end Go.Proofs.Ytandldhceabdiaa

/-
  Gains and what holds of all of them: what the program computes. No condition.
-/
namespace Go.Proofs.Ytandldhceabdiaa
open Go.AI
set_option maxRecDepth 8000
set_option maxHeartbeats 1600000


end Go.Proofs.Ytandldhceabdiaa

/-
  Copies of lists in memory of the call's own, their marks, and what is held. No condition but that the sizes are bounded.
-/
namespace Go.Proofs.Ytandldhceabdiaa
open Go.AI
set_option maxRecDepth 8000
set_option maxHeartbeats 1600000
def EI (x : Int) (cs : List A) (h : Heap) : Prop := cs = Go.AI.encI x ∧ h = []
def EB (x : Bool) (cs : List A) (h : Heap) : Prop := cs = encB x ∧ h = []
def EII (x : List Int) (cs : List A) (h : Heap) : Prop := ∃ a, cs = [a] ∧ OwnSl EI 2 1 x a h
theorem EI_frz (x : Int) (cs : List A) (h : Heap) (q : EI x cs h) : FrzL h cs (Go.AI.encI x) := by obtain ⟨rfl, rfl⟩ := q; exact FrzL.cons (Frz.same _ _) (FrzL.nil _)
theorem EB_frz (x : Bool) (cs : List A) (h : Heap) (q : EB x cs h) : FrzL h cs (encB x) := by obtain ⟨rfl, rfl⟩ := q; exact FrzL.cons (Frz.same _ _) (FrzL.nil _)
theorem EII_frz (x : List Int) (cs : List A) (h : Heap) (q : EII x cs h) : FrzL h cs (encS Go.AI.encI x) := by obtain ⟨a, rfl, q⟩ := q; exact FrzL.cons (q.frz (fun _ => rfl) EI_frz) (FrzL.nil _)
theorem n_toInt64S (l : List Int) (hl : l.length ≤ 1048576) : Does Try.prog 37 [.sl (l.map Go.AI.encI)] [] (fun v h' => OwnSl EI 2 1 l v h') := by
  refine fn_of_runD tyOk ztOk mix Try.func37 rfl (by decide) Try.ntmps37 (fun w0 F => ?_)
  change Run _ _ _ _ _ F
  repeat' (first
      | (refine j_go ?_; first
        | refine j_op0 rfl rfl rfl rfl ?_ | (refine j_kLen rfl ?_; first | refine j_len rfl rfl rfl rfl rfl rfl ?_))
      | refine j_nil ?_
      | (refine r_go ?_; first | refine run_seq ?_ | refine run_region ?_)
      | refine seqQ_normal ?_)
  refine j_makeI (g := Go.AI.encI) 0 rfl rfl rfl rfl rfl rfl rfl rfl rfl (by omega) rfl rfl (fun b => ?_)
  repeat' (first
      | (refine j_go ?_; first
        | refine j_op0 rfl rfl rfl rfl ?_)
      | refine j_nil ?_
      | (refine r_go ?_; first | refine run_seq ?_ | refine run_region ?_ | refine run_block ?_)
      | refine seqQ_normal ?_)
  refine run_loop (fun k : Nat => [(0, .sl (l.map Go.AI.encI)), (3, .os (some b) l.length l.length), (4, .int (k : Int))]) (fun k => ⟨some b, 2, l.length * 1, ((l.take k ++ List.replicate (l.length - k) 0).map Go.AI.encI).flatten⟩ :: F)
      (fun k => k ≤ l.length) (fun k => l.length - k) 0 ⟨rfl, rfl, rfl, trivial⟩ (by simp) (by omega) ?_
  intro k g1
  repeat' (first
      | (refine j_go ?_; first
        | refine j_op0 rfl rfl rfl rfl ?_ | (refine j_kIdx rfl ?_; first | refine j_idx rfl rfl rfl rfl rfl (by omega) rfl rfl rfl ?_ | refine j_midx rfl rfl rfl rfl rfl (by first | omega | (simp only [List.length_append, List.length_cons, List.length_nil]; omega)) rfl rfl ?_) | (refine j_kLen rfl ?_; first | refine j_len rfl rfl rfl rfl rfl rfl ?_))
      | refine j_nil ?_
      | (refine r_go ?_; first | refine run_seq ?_ | refine run_region ?_ | (refine (run_if rfl (fun hb => ?_) (fun hb => ?_)) <;> first | (exfalso; omega) | skip) | refine run_block ?_ | refine run_ret ?_ | refine run_exit ?_ | refine run_skip ?_)
      | refine seqQ_normal ?_ | refine seqQ_exit ?_ | refine blockQ_eq ?_ | refine loopQ_exit ?_)
  · have hk : k < l.length := by omega
    refine j_storeE 0 k (g := Go.AI.encI) l[k] rfl rfl rfl rfl rfl rfl rfl rfl rfl (fun _ => rfl : ∀ y, (Go.AI.encI y).length = 1) rfl (by simp; omega) ?_
    repeat' (first
      | (refine j_go ?_; first
        | refine j_op0 rfl rfl rfl rfl ?_ | (refine j_kBin rfl ?_; first | refine j_in rfl rfl ⟨by omega, by omega⟩ rfl rfl ?_))
      | refine j_nil ?_
      | (refine r_go ?_; first | refine run_region ?_)
      | refine seqQ_normal ?_ | refine blockQ_normal ?_)
    exact loopQ_next (k + 1) (by omega) (by omega) (by rw [← take_rep_set hk]; rfl) ⟨rfl, rfl, nx _, trivial⟩
  · have : k = l.length := by omega
    subst this
    refine endD_ret (h1 := [⟨some b, 2, l.length * 1, (l.map Go.AI.encI).flatten⟩]) (by simp) (.cons (.tmp rfl) .nil) (Le.refl _) (own_flat fun _ => rfl) (.inl rfl)
/-- .. whatever stood there. -/
theorem x_markInt64S (b : Option Nat) (cap room k0 : Nat) (cs : List A) (hk : k0 + cs.length ≤ 4611686018427387904) :
    Does Try.prog 44 [.os b cs.length cap, .int (k0 : Int)] [⟨b, 2, room, (cs.map fun a => [a]).flatten⟩] (fun v h' => v = .int ((k0 + cs.length : Nat) : Int) ∧ h' = [⟨b, 2, room, (((List.range cs.length).map fun i => A.int ((k0 + i : Nat) : Int)).map fun a => [a]).flatten⟩]) := by
  refine fn_of_runD tyOk ztOk mix Try.func44 rfl (by decide) Try.ntmps44 (fun w0 F => ?_)
  repeat' (first
      | (refine j_go ?_; first
        | refine j_op0 rfl rfl rfl rfl ?_)
      | refine j_nil ?_
      | (refine r_go ?_; first | refine run_seq ?_ | refine run_region ?_ | refine run_block ?_)
      | refine seqQ_normal ?_)
  refine run_loop (fun i : Nat => [(0, .os b cs.length cap), (1, .int ((k0 + i : Nat) : Int)), (5, .int (i : Int))]) (fun i => ⟨b, 2, room, ((((List.range i).map fun q => A.int ((k0 + q : Nat) : Int)) ++ cs.drop i).map fun a => [a]).flatten⟩ :: F)
      (fun i => i ≤ cs.length) (fun i => cs.length - i) 0 ⟨rfl, rfl, rfl, trivial⟩ (by simp) (by omega) ?_
  intro i g1
  by_cases hi : i < cs.length
  · refine run_some 0 rfl (by rw [sing_flat]; intro q; have := congrArg List.length q; simp at this; omega) (fun b' hb' => ?_)
    subst hb'
    repeat' (first
      | (refine j_go ?_; first
        | refine j_op0 rfl rfl rfl rfl ?_ | (refine j_kIdx rfl ?_; first | refine j_midx rfl rfl rfl rfl rfl (by first | omega | (simp only [List.length_append, List.length_cons, List.length_nil]; omega)) rfl rfl ?_) | (refine j_kLen rfl ?_; first | refine j_op rfl rfl rfl rfl ?_))
      | refine j_nil ?_
      | (refine r_go ?_; first | refine run_seq ?_ | refine run_region ?_ | (refine (run_if rfl (fun hb => ?_) (fun hb => ?_)) <;> first | (exfalso; omega) | skip) | refine run_block ?_ | refine run_skip ?_)
      | refine seqQ_normal ?_)
    refine j_storeE 0 i (g := fun a => [a]) (A.int ((k0 + i : Nat) : Int)) rfl rfl rfl rfl rfl rfl rfl rfl rfl (fun _ => rfl : ∀ y, ([y] : List A).length = 1) rfl (by simp; omega) ?_
    repeat' (first
      | (refine j_go ?_; first
        | refine j_op0 rfl rfl rfl rfl ?_ | (refine j_kBin rfl ?_; first | refine j_in rfl rfl ⟨by omega, by omega⟩ rfl rfl ?_))
      | refine j_nil ?_
      | (refine r_go ?_; first | refine run_region ?_)
      | refine seqQ_normal ?_ | refine blockQ_normal ?_)
    exact loopQ_next (i + 1) (by omega) (by omega) (by rw [← range_set (f := fun q => A.int ((k0 + q : Nat) : Int)) _ rfl hi]; rfl) ⟨rfl, nx (k0 + i), nx _, trivial⟩
  · repeat' (first
      | (refine j_go ?_; first
        | refine j_op0 rfl rfl rfl rfl ?_ | (refine j_kLen rfl ?_; first | refine j_op rfl rfl rfl rfl ?_))
      | refine j_nil ?_
      | (refine r_go ?_; first | refine run_seq ?_ | refine run_region ?_ | (refine (run_if rfl (fun hb => ?_) (fun hb => ?_)) <;> first | (exfalso; omega) | skip) | refine run_ret ?_ | refine run_exit ?_)
      | refine seqQ_normal ?_ | refine seqQ_exit ?_ | refine blockQ_eq ?_ | refine loopQ_exit ?_)
    have : i = cs.length := by omega
    subst this
    exact endD_ret (h1 := [_]) rfl (.cons (.tmp rfl) .nil) (Le.refl _) ⟨rfl, by rw [List.drop_length, List.append_nil]⟩ (.inl rfl)
theorem m_markInt64S (l : List Int) (a : A) (h : Heap) (k0 : Nat) (ho : OwnSl EI 2 1 l a h) (hk : k0 + l.length ≤ 4611686018427387904) : Does Try.prog 44 [a, .int (k0 : Int)] h (fun v h' => v = .int ((k0 + l.length : Nat) : Int) ∧ h' = []) := by
  obtain ⟨b, cs, rfl, hc, rfl⟩ := own_unflat (fun x => ⟨_, rfl⟩) ho
  have := x_markInt64S (some b) l.length (l.length * 1) k0 cs (by omega)
  rw [hc] at this
  exact this.drop fun v h' ⟨q1, q2⟩ => ⟨h', [], .refl _, List.nil_sublist _, q1, rfl⟩
theorem c_heldInt64S (L : List Int) (k0 : Nat) (hL : ∀ i (h : i < L.length), L[i] = ((k0 + i : Nat) : Int)) (hk : k0 + L.length ≤ 4611686018427387904) : Gives Try.prog 64 [.sl (L.map Go.AI.encI), .int (k0 : Int)] (.int ((k0 + L.length : Nat) : Int)) := by
  refine fn_of_run tyOk ztOk mix Try.func64 rfl (by decide) Try.ntmps64 (fun w0 h => ?_)
  repeat' (first
      | (refine j_go ?_; first
        | refine j_op0 rfl rfl rfl rfl ?_)
      | refine j_nil ?_
      | (refine r_go ?_; first | refine run_seq ?_ | refine run_region ?_ | refine run_block ?_)
      | refine seqQ_normal ?_)
  refine run_loop (fun i : Nat => [(0, .sl (L.map Go.AI.encI)), (1, .int ((k0 + i : Nat) : Int)), (5, .int (i : Int))]) (fun _ => h) (fun i => i ≤ L.length) (fun i => L.length - i) 0 ⟨rfl, rfl, rfl, trivial⟩ rfl (by omega) ?_
  intro i g1
  by_cases hi : i < L.length
  · have hLi := hL i hi
    repeat' (first
      | (refine j_go ?_; first
        | refine j_op0 rfl rfl rfl rfl ?_ | (refine j_kIdx rfl ?_; first | refine j_idx rfl rfl rfl rfl rfl (by omega) rfl rfl rfl ?_) | (refine j_kBin rfl ?_; first | refine j_in rfl rfl ⟨by omega, by omega⟩ rfl rfl ?_) | (refine j_kLen rfl ?_; first | refine j_len rfl rfl rfl rfl rfl rfl ?_))
      | refine j_nil ?_
      | (refine r_go ?_; first | refine run_seq ?_ | refine run_region ?_ | (refine (run_if rfl (fun hb => ?_) (fun hb => ?_)) <;> first | (exfalso; omega) | skip) | (refine (run_ifn rfl (fun hb => ?_) (fun hb => ?_)) <;> first | (exfalso; omega) | skip) | refine run_block ?_ | refine run_skip ?_)
      | refine seqQ_normal ?_ | refine blockQ_normal ?_)
    all_goals first | exact loopQ_next (i + 1) (by omega) (by omega) rfl ⟨rfl, nx (k0 + i), nx _, trivial⟩ | exact absurd hLi hb
  · repeat' (first
      | (refine j_go ?_; first
        | refine j_op0 rfl rfl rfl rfl ?_ | (refine j_kLen rfl ?_; first | refine j_len rfl rfl rfl rfl rfl rfl ?_))
      | refine j_nil ?_
      | (refine r_go ?_; first | refine run_seq ?_ | refine run_region ?_ | (refine (run_if rfl (fun hb => ?_) (fun hb => ?_)) <;> first | (exfalso; omega) | skip) | refine run_ret ?_ | refine run_exit ?_)
      | refine seqQ_normal ?_ | refine seqQ_exit ?_ | refine blockQ_eq ?_ | refine loopQ_exit ?_)
    have : i = L.length := by omega
    subst this
    exact end1 rfl (List.Sublist.refl _) rfl (.inl rfl)
def marked (k0 n : Nat) : List Int := (List.range n).map fun i => ((k0 + i : Nat) : Int)
theorem x_markI (b : Option Nat) (cap k0 : Nat) (r : List Int) (hk : k0 + r.length ≤ 4611686018427387904) :
    Does Try.prog 44 [.os b r.length cap, .int (k0 : Int)] [⟨b, 2, cap * 1, (r.map Go.AI.encI).flatten⟩] (fun v h' => v = .int ((k0 + r.length : Nat) : Int) ∧ h' = [⟨b, 2, cap * 1, ((marked k0 r.length).map Go.AI.encI).flatten⟩]) := by
  have := x_markInt64S b cap (cap * 1) k0 (r.map A.int) (by simpa using hk)
  have e1 : ((r.map A.int).map fun a => [a]) = r.map Go.AI.encI := by simp [Go.AI.encI]
  have e2 : (((List.range r.length).map fun i => A.int ((k0 + i : Nat) : Int)).map fun a => [a]) = (marked k0 r.length).map Go.AI.encI := by simp [Go.AI.encI, marked]
  rw [e1, List.length_map, e2] at this
  exact this
theorem n_toBoolS (l : List Bool) (hl : l.length ≤ 1048576) : Does Try.prog 55 [.sl (l.map encB)] [] (fun v h' => OwnSl EB 4 1 l v h') := by
  refine fn_of_runD tyOk ztOk mix Try.func55 rfl (by decide) Try.ntmps55 (fun w0 F => ?_)
  change Run _ _ _ _ _ F
  repeat' (first
      | (refine j_go ?_; first
        | refine j_op0 rfl rfl rfl rfl ?_ | (refine j_kLen rfl ?_; first | refine j_len rfl rfl rfl rfl rfl rfl ?_))
      | refine j_nil ?_
      | (refine r_go ?_; first | refine run_seq ?_ | refine run_region ?_)
      | refine seqQ_normal ?_)
  refine j_makeI (g := encB) false rfl rfl rfl rfl rfl rfl rfl rfl rfl (by omega) rfl rfl (fun b => ?_)
  repeat' (first
      | (refine j_go ?_; first
        | refine j_op0 rfl rfl rfl rfl ?_)
      | refine j_nil ?_
      | (refine r_go ?_; first | refine run_seq ?_ | refine run_region ?_ | refine run_block ?_)
      | refine seqQ_normal ?_)
  refine run_loop (fun k : Nat => [(0, .sl (l.map encB)), (3, .os (some b) l.length l.length), (4, .int (k : Int))]) (fun k => ⟨some b, 4, l.length * 1, ((l.take k ++ List.replicate (l.length - k) false).map encB).flatten⟩ :: F)
      (fun k => k ≤ l.length) (fun k => l.length - k) 0 ⟨rfl, rfl, rfl, trivial⟩ (by simp) (by omega) ?_
  intro k g1
  repeat' (first
      | (refine j_go ?_; first
        | refine j_op0 rfl rfl rfl rfl ?_ | (refine j_kIdx rfl ?_; first | refine j_idx rfl rfl rfl rfl rfl (by omega) rfl rfl rfl ?_ | refine j_midx rfl rfl rfl rfl rfl (by first | omega | (simp only [List.length_append, List.length_cons, List.length_nil]; omega)) rfl rfl ?_) | (refine j_kLen rfl ?_; first | refine j_len rfl rfl rfl rfl rfl rfl ?_))
      | refine j_nil ?_
      | (refine r_go ?_; first | refine run_seq ?_ | refine run_region ?_ | (refine (run_if rfl (fun hb => ?_) (fun hb => ?_)) <;> first | (exfalso; omega) | skip) | refine run_block ?_ | refine run_ret ?_ | refine run_exit ?_ | refine run_skip ?_)
      | refine seqQ_normal ?_ | refine seqQ_exit ?_ | refine blockQ_eq ?_ | refine loopQ_exit ?_)
  · have hk : k < l.length := by omega
    refine j_storeE 0 k (g := encB) l[k] rfl rfl rfl rfl rfl rfl rfl rfl rfl (fun _ => rfl : ∀ y, (encB y).length = 1) rfl (by simp; omega) ?_
    repeat' (first
      | (refine j_go ?_; first
        | refine j_op0 rfl rfl rfl rfl ?_ | (refine j_kBin rfl ?_; first | refine j_in rfl rfl ⟨by omega, by omega⟩ rfl rfl ?_))
      | refine j_nil ?_
      | (refine r_go ?_; first | refine run_region ?_)
      | refine seqQ_normal ?_ | refine blockQ_normal ?_)
    exact loopQ_next (k + 1) (by omega) (by omega) (by rw [← take_rep_set hk]; rfl) ⟨rfl, rfl, nx _, trivial⟩
  · have : k = l.length := by omega
    subst this
    refine endD_ret (h1 := [⟨some b, 4, l.length * 1, (l.map encB).flatten⟩]) (by simp) (.cons (.tmp rfl) .nil) (Le.refl _) (own_flat fun _ => rfl) (.inl rfl)
/-- .. whatever stood there. -/
theorem x_markBoolS (b : Option Nat) (cap room k0 : Nat) (cs : List A) (hk : k0 + cs.length ≤ 4611686018427387904) :
    Does Try.prog 62 [.os b cs.length cap, .int (k0 : Int)] [⟨b, 4, room, (cs.map fun a => [a]).flatten⟩] (fun v h' => v = .int ((k0 + cs.length : Nat) : Int) ∧ h' = [⟨b, 4, room, (((List.range cs.length).map fun i => A.raw (.bool (dec (((k0 + i : Nat) : Int) % 3 = 0)))).map fun a => [a]).flatten⟩]) := by
  refine fn_of_runD tyOk ztOk mix Try.func62 rfl (by decide) Try.ntmps62 (fun w0 F => ?_)
  repeat' (first
      | (refine j_go ?_; first
        | refine j_op0 rfl rfl rfl rfl ?_)
      | refine j_nil ?_
      | (refine r_go ?_; first | refine run_seq ?_ | refine run_region ?_ | refine run_block ?_)
      | refine seqQ_normal ?_)
  refine run_loop (fun i : Nat => [(0, .os b cs.length cap), (1, .int ((k0 + i : Nat) : Int)), (5, .int (i : Int))]) (fun i => ⟨b, 4, room, ((((List.range i).map fun q => A.raw (.bool (dec (((k0 + q : Nat) : Int) % 3 = 0)))) ++ cs.drop i).map fun a => [a]).flatten⟩ :: F)
      (fun i => i ≤ cs.length) (fun i => cs.length - i) 0 ⟨rfl, rfl, rfl, trivial⟩ (by simp) (by omega) ?_
  intro i g1
  by_cases hi : i < cs.length
  · refine run_some 0 rfl (by rw [sing_flat]; intro q; have := congrArg List.length q; simp at this; omega) (fun b' hb' => ?_)
    subst hb'
    repeat' (first
      | (refine j_go ?_; first
        | refine j_op0 rfl rfl rfl rfl ?_ | (refine j_kIdx rfl ?_; first | refine j_midx rfl rfl rfl rfl rfl (by first | omega | (simp only [List.length_append, List.length_cons, List.length_nil]; omega)) rfl rfl ?_) | (refine j_kBin rfl ?_; first | refine j_rem rfl rfl rfl rfl (by omega) rfl rfl ?_) | (refine j_kLen rfl ?_; first | refine j_op rfl rfl rfl rfl ?_))
      | refine j_nil ?_
      | (refine r_go ?_; first | refine run_seq ?_ | refine run_region ?_ | (refine (run_if rfl (fun hb => ?_) (fun hb => ?_)) <;> first | (exfalso; omega) | skip) | refine run_block ?_ | refine run_skip ?_)
      | refine seqQ_normal ?_)
    refine j_storeE 0 i (g := fun a => [a]) (A.raw (.bool (dec (((k0 + i : Nat) : Int) % 3 = 0)))) rfl rfl rfl rfl rfl rfl rfl rfl rfl (fun _ => rfl : ∀ y, ([y] : List A).length = 1) rfl (by simp; omega) ?_
    repeat' (first
      | (refine j_go ?_; first
        | refine j_op0 rfl rfl rfl rfl ?_ | (refine j_kBin rfl ?_; first | refine j_in rfl rfl ⟨by omega, by omega⟩ rfl rfl ?_))
      | refine j_nil ?_
      | (refine r_go ?_; first | refine run_region ?_)
      | refine seqQ_normal ?_ | refine blockQ_normal ?_)
    exact loopQ_next (i + 1) (by omega) (by omega) (by rw [← range_set (f := fun q => A.raw (.bool (dec (((k0 + q : Nat) : Int) % 3 = 0)))) _ rfl hi]; rfl) ⟨rfl, nx (k0 + i), nx _, trivial⟩
  · repeat' (first
      | (refine j_go ?_; first
        | refine j_op0 rfl rfl rfl rfl ?_ | (refine j_kLen rfl ?_; first | refine j_op rfl rfl rfl rfl ?_))
      | refine j_nil ?_
      | (refine r_go ?_; first | refine run_seq ?_ | refine run_region ?_ | (refine (run_if rfl (fun hb => ?_) (fun hb => ?_)) <;> first | (exfalso; omega) | skip) | refine run_ret ?_ | refine run_exit ?_)
      | refine seqQ_normal ?_ | refine seqQ_exit ?_ | refine blockQ_eq ?_ | refine loopQ_exit ?_)
    have : i = cs.length := by omega
    subst this
    exact endD_ret (h1 := [_]) rfl (.cons (.tmp rfl) .nil) (Le.refl _) ⟨rfl, by rw [List.drop_length, List.append_nil]⟩ (.inl rfl)
theorem m_markBoolS (l : List Bool) (a : A) (h : Heap) (k0 : Nat) (ho : OwnSl EB 4 1 l a h) (hk : k0 + l.length ≤ 4611686018427387904) : Does Try.prog 62 [a, .int (k0 : Int)] h (fun v h' => v = .int ((k0 + l.length : Nat) : Int) ∧ h' = []) := by
  obtain ⟨b, cs, rfl, hc, rfl⟩ := own_unflat (fun x => ⟨_, rfl⟩) ho
  have := x_markBoolS (some b) l.length (l.length * 1) k0 cs (by omega)
  rw [hc] at this
  exact this.drop fun v h' ⟨q1, q2⟩ => ⟨h', [], .refl _, List.nil_sublist _, q1, rfl⟩
theorem n_toInt64SS (l : List (List Int)) (hl : l.length ≤ 1048576) (hl2 : ∀ x ∈ l, (fun r : List Int => r.length ≤ 1048576) x) : Does Try.prog 57 [.sl (l.map (encS Go.AI.encI))] [] (fun v h' => OwnSl EII 22 1 l v h') := by
  refine fn_of_runD tyOk ztOk mix Try.func57 rfl (by decide) Try.ntmps57 (fun w0 F => ?_)
  change Run _ _ _ _ _ F
  repeat' (first
      | (refine j_go ?_; first
        | refine j_op0 rfl rfl rfl rfl ?_ | (refine j_kLen rfl ?_; first | refine j_len rfl rfl rfl rfl rfl rfl ?_))
      | refine j_nil ?_
      | (refine r_go ?_; first | refine run_seq ?_ | refine run_region ?_)
      | refine seqQ_normal ?_)
  refine j_makeI (g := Subtype.val) (⟨[.sl []], rfl⟩ : Cells 1) rfl rfl rfl rfl rfl rfl rfl rfl rfl (by omega) rfl rfl (fun b => ?_)
  repeat' (first
      | (refine j_go ?_; first
        | refine j_op0 rfl rfl rfl rfl ?_)
      | refine j_nil ?_
      | (refine r_go ?_; first | refine run_seq ?_ | refine run_region ?_ | refine run_block ?_)
      | refine seqQ_normal ?_)
  refine run_loop (fun s : Nat × List (Cells 1) × List Heap => [(0, .sl (l.map (encS Go.AI.encI))), (3, .os (some b) l.length l.length), (4, .int (s.1 : Int))])
      (fun s => ⟨some b, 22, l.length * 1, ((s.2.1 ++ List.replicate (l.length - s.1) (⟨[.sl []], rfl⟩ : Cells 1)).map Subtype.val).flatten⟩ :: (s.2.2.flatten ++ F))
      (fun s => s.1 ≤ l.length ∧ s.2.1.length = s.1 ∧ s.2.2.length = s.1 ∧ ∀ i (hi : i < l.length) (h1 : i < s.2.1.length) (h2 : i < s.2.2.length), EII l[i] s.2.1[i].1 s.2.2[i]) (fun s => l.length - s.1) (0, [], []) ⟨rfl, rfl, rfl, trivial⟩ (by simp) ⟨by simp, rfl, rfl, fun i _ h1 => absurd h1 (Nat.not_lt_zero _)⟩ ?_
  intro ⟨k, css, hs⟩ ⟨g1, g2, g3, g4⟩
  dsimp only at g1 g2 g3 g4 ⊢
  repeat' (first
      | (refine j_go ?_; first
        | refine j_op0 rfl rfl rfl rfl ?_ | (refine j_kIdx rfl ?_; first | refine j_idx rfl rfl rfl rfl rfl (by omega) rfl rfl rfl ?_) | (refine j_kLen rfl ?_; first | refine j_len rfl rfl rfl rfl rfl rfl ?_))
      | refine j_nil ?_
      | (refine r_go ?_; first | refine run_seq ?_ | refine run_region ?_ | (refine (run_if rfl (fun hb => ?_) (fun hb => ?_)) <;> first | (exfalso; omega) | skip) | refine run_block ?_ | refine run_ret ?_ | refine run_exit ?_ | refine run_skip ?_)
      | refine seqQ_normal ?_ | refine seqQ_exit ?_ | refine blockQ_eq ?_ | refine loopQ_exit ?_)
  · have hk : k < l.length := by omega
    refine j_kCall rfl rfl rfl rfl ?_
    refine jcp _ (n_toInt64S l[k] (hl2 _ (List.getElem_mem _))) (List.Perm.refl _) (LeL.refl _) rfl rfl (fun v h1 hR => ?_)
    have hE : EII l[k] [v] h1 := ⟨v, rfl, hR⟩
    obtain ⟨b1, rfl⟩ := hR.isos
    have hok : ([A.os (some b1) l[k].length l[k].length]).all okCell = true := rfl
    repeat' (first
      | (refine j_go ?_; first
        | (refine j_kIdx rfl ?_; first | refine j_midx rfl rfl rfl rfl rfl (by first | omega | (simp only [List.length_append, List.length_cons, List.length_nil]; omega)) rfl rfl ?_)))
    refine j_view (view_perm List.perm_middle) ?_
    refine j_storeE 0 k (g := Subtype.val) (⟨[A.os (some b1) l[k].length l[k].length], rfl⟩ : Cells 1) rfl rfl rfl rfl rfl rfl rfl rfl hok (fun y => y.2 : ∀ y : Cells 1, y.1.length = 1) rfl (by simp; omega) ?_
    repeat' (first
      | (refine j_go ?_; first
        | refine j_op0 rfl rfl rfl rfl ?_ | (refine j_kBin rfl ?_; first | refine j_in rfl rfl ⟨by omega, by omega⟩ rfl rfl ?_))
      | refine j_nil ?_
      | (refine r_go ?_; first | refine run_region ?_)
      | refine seqQ_normal ?_ | refine blockQ_normal ?_)
    refine loopQ_view (view_perm (h' := ⟨some b, 22, l.length * 1, (((css ++ [(⟨[A.os (some b1) l[k].length l[k].length], rfl⟩ : Cells 1)]) ++ List.replicate (l.length - (k + 1)) (⟨[.sl []], rfl⟩ : Cells 1)).map Subtype.val).flatten⟩ :: ((hs ++ [h1]).flatten ++ F)) (by rw [app_rep_set g2 hk]; exact .cons _ (by simp only [List.flatten_append, List.flatten_cons, List.flatten_nil, List.append_nil]; exact (by classical exact List.perm_iff_count.2 fun _ => by simp only [List.count_append, List.count_cons, List.count_nil, Nat.add_zero, Nat.zero_add]; first | done | ac_rfl | omega)))) ?_
    exact loopQ_next (k + 1, css ++ [(⟨[A.os (some b1) l[k].length l[k].length], rfl⟩ : Cells 1)], hs ++ [h1]) ⟨by dsimp only; omega, by simp [g2], by simp [g3], fun i hi h1' h2' => own_snoc g2 g3 (hl := hk) g4 hE i hi h1' h2'⟩ (by dsimp only; omega) rfl ⟨rfl, rfl, nx _, trivial⟩
  · have : k = l.length := by omega
    subst this
    exact endD_ret (h1 := ⟨some b, 22, l.length * 1, (css.map Subtype.val).flatten⟩ :: hs.flatten) (by simp) (.cons (.tmp rfl) .nil) (Le.refl _) ⟨b, css, hs, g2, g3, g4, rfl, rfl⟩ (.inl rfl)
theorem m_markInt64SS (l : List (List Int)) (a : A) (h : Heap) (k0 : Nat) (ho : OwnSl EII 22 1 l a h) (hk : k0 + mcnt List.length l ≤ 4611686018427387904) : Does Try.prog 18 [a, .int (k0 : Int)] h (fun v h' => v = .int ((k0 + mcnt List.length l : Nat) : Int) ∧ h' = []) := by
  obtain ⟨b, css, hs, l1, l2, hall, rfl, rfl⟩ := ho
  refine fn_of_runD tyOk ztOk mix Try.func18 rfl (by decide) Try.ntmps18 (fun w0 F => ?_)
  change Run _ _ _ _ _ (⟨some b, 22, l.length * 1, (css.map Subtype.val).flatten⟩ :: (hs.flatten ++ F))
  refine run_olen (t := 0) rfl (fun hol => ?_)
  repeat' (first
      | (refine j_go ?_; first
        | refine j_op0 rfl rfl rfl rfl ?_)
      | refine j_nil ?_
      | (refine r_go ?_; first | refine run_seq ?_ | refine run_region ?_ | refine run_block ?_)
      | refine seqQ_normal ?_)
  refine run_loop (fun s : Nat × Nat × List (Cells 1) => [(0, .os (some b) l.length l.length), (1, .int (s.2.1 : Int)), (5, .int (s.1 : Int))])
    (fun s => ⟨some b, 22, l.length * 1, (s.2.2.map Subtype.val).flatten⟩ :: ((hs.drop s.1).flatten ++ F))
    (fun s => s.1 ≤ l.length ∧ s.2.1 = k0 + mcnt List.length (l.take s.1) ∧ s.2.2.length = l.length ∧ ∀ i, s.1 ≤ i → s.2.2[i]? = css[i]?) (fun s => l.length - s.1) (0, k0, css) ⟨rfl, rfl, rfl, trivial⟩ (by simp) ⟨by simp, by simp [mcnt], l1, fun _ _ => rfl⟩ ?_
  intro ⟨k, kv, cc⟩ ⟨g1, g2, g3, g4⟩
  dsimp only at g1 g2 g3 g4 ⊢
  by_cases hkl : k < l.length
  · have hc1 : k < css.length := by omega
    have hc2 : k < hs.length := by omega
    have hc3 : k < cc.length := by omega
    have e1 : cc[k] = css[k] := by have := g4 k (Nat.le_refl _); simpa [hc1, hc3] using this
    have hsn := mcnt_take (f := List.length) hkl
    have hlt := mcnt_take_le (f := List.length) (k + 1) l
    have hd : (hs.drop k).flatten = hs[k] ++ (hs.drop (k + 1)).flatten := by rw [List.drop_eq_getElem_cons hc2]; rfl
    obtain ⟨a0, ea, o0⟩ := hall k hkl hc1 hc2
    have hcn : List.length l[k] = l[k].length := rfl
    have e0 : cc = cc.set k (⟨[a0], rfl⟩ : Cells 1) := set_own hc3 (by rw [e1, ea])
    obtain ⟨b0, eb0⟩ := o0.isos
    refine run_heq (h' := ⟨some b, 22, l.length * 1, ((cc.set k (⟨[a0], rfl⟩ : Cells 1)).map Subtype.val).flatten⟩ :: (hs[k] ++ ((hs.drop (k + 1)).flatten ++ F))) (by rw [← e0, hd]; simp only [List.append_assoc]) ?_
    subst eb0
    repeat' (first
      | (refine j_go ?_; first
        | refine j_op0 rfl rfl rfl rfl ?_ | (refine j_kIdx rfl ?_; first | refine j_midx rfl rfl rfl rfl rfl (by first | omega | (simp only [List.length_append, List.length_cons, List.length_nil]; omega)) rfl rfl ?_) | (refine j_kLen rfl ?_; first | refine j_op rfl rfl rfl rfl ?_))
      | refine j_nil ?_
      | (refine r_go ?_; first | refine run_seq ?_ | refine run_region ?_ | (refine (run_if rfl (fun hb => ?_) (fun hb => ?_)) <;> first | (exfalso; omega) | skip) | refine run_block ?_ | refine run_skip ?_)
      | refine seqQ_normal ?_)
    refine j_loadS 0 k 0 rfl rfl rfl rfl rfl hc3 rfl (fun rest => rfl) rfl rfl ?_
    repeat' (first
      | (refine j_go ?_; first
        | refine j_op0 rfl rfl rfl rfl ?_))
    refine j_kCall rfl rfl rfl rfl ?_
    refine jcp _ (m_markInt64S _ _ _ (kv) o0 (by first | omega | (simp only [List.length] at *; omega))) List.perm_middle.symm (LeL.refl _) rfl rfl (fun v h1 hR => ?_)
    obtain ⟨rfl, rfl⟩ := hR
    repeat' (first
      | (refine j_go ?_; first
        | refine j_op0 rfl rfl rfl rfl ?_ | (refine j_kBin rfl ?_; first | refine j_in rfl rfl ⟨by omega, by omega⟩ rfl rfl ?_))
      | refine j_nil ?_
      | (refine r_go ?_; first | refine run_region ?_)
      | refine seqQ_normal ?_ | refine blockQ_normal ?_)
    refine loopQ_nextS (c := ?c) (k + 1) (kv + l[k].length) cc k ?g1 ?g2 ?g3 ?g4
    case g3 => rfl
    case g4 => exact ⟨rfl, rfl, nx _, trivial⟩
    case g2 => dsimp only; omega
    case g1 => exact ⟨by dsimp only; omega, by dsimp only; rw [hsn, hcn]; omega, by dsimp only; rw [List.length_set]; omega, fun i hi => by dsimp only at hi ⊢; rw [List.getElem?_set_ne (by omega)]; exact g4 i (by omega)⟩
  · repeat' (first
      | (refine j_go ?_; first
        | refine j_op0 rfl rfl rfl rfl ?_ | (refine j_kLen rfl ?_; first | refine j_op rfl rfl rfl rfl ?_))
      | refine j_nil ?_
      | (refine r_go ?_; first | refine run_seq ?_ | refine run_region ?_ | (refine (run_if rfl (fun hb => ?_) (fun hb => ?_)) <;> first | (exfalso; omega) | skip) | refine run_ret ?_ | refine run_exit ?_)
      | refine seqQ_normal ?_ | refine seqQ_exit ?_ | refine blockQ_eq ?_ | refine loopQ_exit ?_)
    have : k = l.length := by omega
    subst this
    rw [List.take_length] at g2
    subst g2
    exact endD_view (view_sub (h0 := [] ++ F) (by simp)) (endD_ret (h1 := []) rfl (.cons (.tmp rfl) .nil) (Le.refl _) ⟨rfl, rfl⟩ (.inl rfl))
end Go.Proofs.Ytandldhceabdiaa
