/-
  Choices: what is left of the bags; IsChoice. No condition.
-/
import Derived.Test.YtkfmjjoalkoncaaGreatZS2e
import Derived.Test.YtkfmjjoalkoncaaGreatZJO
import Derived.Test.YtkfmjjoalkoncaaGreatZG2
import Derived.Test.YtkfmjjoalkoncaaGreatZSV
import Derived.Test.YtkfmjjoalkoncaaGreatZS2d
namespace Go.Proofs.YtkfmjjoalkoncaaGreat
open Go.AI
set_option maxRecDepth 8000
set_option maxHeartbeats 1600000

/-- The sum of a list and another one m times. -/
def plusL (a b : List Int) (m : Int) : List Int := List.zipWith (fun x y => x + y * m) a b
theorem plusL_comm (a b : List Int) (m : Int) : List.zipWith (fun x y => x + m * y) a b = plusL a b m := by
  unfold plusL; congr; funext x y; rw [Int.mul_comm]
def Fits (a b : List Int) (m : Int) : Prop := a.length ≤ b.length ∧ a.length ≤ 1000000 ∧ (∀ x ∈ a, -1000000000000 ≤ x ∧ x ≤ 1000000000000) ∧ ∀ y ∈ b, -1000000000000 ≤ y * m ∧ y * m ≤ 1000000000000

theorem c_l01Plus (a b : List Int) (m : Int) (hh : Fits a b m) : Gives Tryz.prog 113 [.sl (a.map Go.AI.encI), .sl (b.map Go.AI.encI), .int m] (.sl ((plusL a b m).map Go.AI.encI)) := by
  refine fn_of_run tyOk ztOk mix Tryz.func113 rfl (by decide) Tryz.ntmps113 (fun w0 h => ?_)
  obtain ⟨hl, hn, ha, hb0⟩ := hh
  have hz := zip_len (g := fun x y => x + y * m) hl
  repeat' (first
      | (refine j_go ?_; first
        | refine j_op0 rfl rfl rfl rfl ?_ | (refine j_kBsl rfl ?_; first | refine j_bs0 rfl rfl rfl rfl rfl rfl ?_))
      | refine j_nil ?_
      | (refine r_go ?_; first | refine run_seq ?_ | refine run_region ?_ | refine run_block ?_)
      | refine seqQ_normal ?_)
  refine run_view (view_none 2 0 rfl) ?_
  refine run_loop (fun s : Nat × Option Nat × Nat => [(0, .sl (a.map Go.AI.encI)), (1, .sl (b.map Go.AI.encI)), (2, .int m), (7, .os s.2.1 ((plusL a b m).take s.1).length s.2.2), (8, .int (s.1 : Int))]) (fun s => ⟨s.2.1, 2, s.2.2 * 1, (((plusL a b m).take s.1).map Go.AI.encI).flatten⟩ :: h) (fun s => s.1 ≤ a.length) (fun s => a.length - s.1) (0, none, 0) ⟨rfl, rfl, rfl, rfl, rfl, trivial⟩ rfl (Nat.zero_le _) (fun ⟨k, ob, cp⟩ kl => ?_)
  dsimp only at kl ⊢
  by_cases hk : k < a.length
  · have hkb : k < b.length := by omega
    have hz2 : ((plusL a b m).take k).length = k := by unfold plusL; rw [List.length_take]; omega
    have x1 := ha _ (List.getElem_mem hk)
    have x2 := hb0 _ (List.getElem_mem hkb)
    repeat' (first
      | (refine j_go ?_; first
        | refine j_op0 rfl rfl rfl rfl ?_ | (refine j_kLen rfl ?_; first | refine j_len rfl rfl rfl rfl rfl rfl ?_))
      | refine j_nil ?_
      | (refine j_goO ?_; first
        | refine j_op0O rfl rfl rfl rfl ?_ | (refine j_kIdxO rfl ?_; first | refine j_idxO rfl rfl rfl rfl rfl (by omega) rfl rfl rfl ?_) | (refine j_kBinO rfl ?_; first | refine j_inO rfl rfl ⟨by omega, by omega⟩ rfl rfl ?_) | (refine j_kBslO rfl ?_; first | refine j_bslO rfl rfl rfl rfl rfl rfl rfl rfl rfl rfl rfl ?_))
      | (refine r_go ?_; first | refine run_seq ?_ | refine run_region ?_ | (refine (run_if rfl (fun hb => ?_) (fun hb => ?_)) <;> first | (exfalso; omega) | skip) | refine run_block ?_ | refine run_skip ?_ | refine run_opn 5 [⟨0, true, false, 0⟩, ⟨1, true, false, 0⟩, ⟨2, true, false, 0⟩, ⟨3, true, false, 0⟩, ⟨4, true, false, 0⟩, ⟨5, true, false, 0⟩, ⟨6, true, false, 0⟩, ⟨7, true, false, 0⟩, ⟨8, true, false, 0⟩, ⟨9, true, false, 0⟩, ⟨10, true, false, 0⟩, ⟨11, true, false, 0⟩, ⟨12, true, false, 0⟩, ⟨13, false, true, 0⟩, ⟨14, true, false, 0⟩] rfl rfl (by kernel_rfl) ?_)
      | refine seqQ_normal ?_)
    refine j_appendO 0 (g := Go.AI.encI) [a[k] + b[k] * m] rfl (fun _ hk => nomatch hk) rfl rfl rfl rfl rfl rfl rfl rfl rfl rfl rfl rfl (fun _ => rfl) (fun _ _ => rfl) ⟨by rw [hz2]; simp only [List.length_cons, List.length_nil]; omega, by rw [hz2]; simp only [List.length_cons, List.length_nil]; omega⟩ rfl rfl (fun b' cap' => ?_)
    have es : (plusL a b m).take k ++ [a[k] + b[k] * m] = (plusL a b m).take (k + 1) := zip_succ (g := fun x y => x + y * m) hk hkb
    rw [es]
    repeat' (first
      | (refine j_go ?_; first
        | refine j_op0 rfl rfl rfl rfl ?_ | (refine j_kBin rfl ?_; first | refine j_in rfl rfl ⟨by omega, by omega⟩ rfl rfl ?_))
      | refine j_nil ?_
      | (refine j_goO ?_; first
        | refine j_op0O rfl rfl rfl rfl ?_)
      | refine j_nilO ?_
      | (refine r_go ?_; first | refine run_region ?_)
      | refine seqQ_normal ?_ | refine blockQ_normal ?_)
    exact loopQ_next (k + 1, b', cap') (by dsimp only; omega) (by dsimp only; omega) rfl ⟨rfl, rfl, rfl, rfl, nx _, trivial⟩
  · repeat' (first
      | (refine j_go ?_; first
        | refine j_op0 rfl rfl rfl rfl ?_ | (refine j_kLen rfl ?_; first | refine j_len rfl rfl rfl rfl rfl rfl ?_))
      | refine j_nil ?_
      | (refine r_go ?_; first | refine run_seq ?_ | refine run_region ?_ | (refine (run_if rfl (fun hb => ?_) (fun hb => ?_)) <;> first | (exfalso; omega) | skip) | refine run_ret ?_ | refine run_exit ?_)
      | refine seqQ_normal ?_ | refine seqQ_exit ?_ | refine blockQ_eq ?_ | refine loopQ_exit ?_)
    refine end_view (view_freeze (g := Go.AI.encI) (z := 1) (ys := (plusL a b m).take k) 0 6 rfl rfl rfl (fun _ => rfl) rfl rfl) ?_
    exact end1 rfl (List.Sublist.refl _) (by rw [List.take_of_length_le (by unfold plusL; omega)]) (.inl rfl)

theorem c_plus1 (m x y : Int) (h0 : (-1000000000000 ≤ x ∧ x ≤ 1000000000000) ∧ -1000000000000 ≤ m * y ∧ m * y ≤ 1000000000000) : Gives Tryz.prog 81 [.int x, .int y, .ip [.int m]] (.int (x + m * y)) := by
  refine fn_of_run tyOk ztOk mix Tryz.func81 rfl (by decide) Tryz.ntmps81 (fun w0 h => ?_)
  repeat' (first
      | (refine j_go ?_; first
        | refine j_op0 rfl rfl rfl rfl ?_ | (refine j_kBin rfl ?_; first | refine j_in rfl rfl ⟨by omega, by omega⟩ rfl rfl ?_))
      | refine j_nil ?_
      | (refine r_go ?_; first | refine run_seq ?_ | refine run_region ?_ | refine run_ret ?_)
      | refine seqQ_normal ?_)
  exact end1 rfl (List.Sublist.refl _) (rfl) (.inl rfl)
theorem c_plus (a b : List Int) (m : Int) (hh : Fits a b m) : Gives Tryz.prog 52 [.sl (a.map Go.AI.encI), .sl (b.map Go.AI.encI), .int m] (.sl ((plusL a b m).map Go.AI.encI)) := by
  refine fn_of_run tyOk ztOk mix Tryz.func52 rfl (by decide) Tryz.ntmps52 (fun w0 h => ?_)
  obtain ⟨hl, hn, ha, hb0⟩ := hh
  repeat' (first
      | (refine j_go ?_; first
        | refine j_op0 rfl rfl rfl rfl ?_ | (refine j_kCall rfl rfl rfl rfl ?_; first | refine jc (c_both _ _ (fun x y => x + m * y) _ _ (fun k h1 h2 => c_plus1 m _ _ ⟨ha _ (List.getElem_mem h1), by rw [Int.mul_comm]; exact hb0 _ (List.getElem_mem h2)⟩) hl hn) (LeL.refl _) rfl rfl ?_) | refine j_box rfl rfl rfl rfl rfl rfl ?_)
      | refine j_nil ?_
      | (refine r_go ?_; first | refine run_seq ?_ | refine run_region ?_ | refine run_ret ?_)
      | refine seqQ_normal ?_)
  exact end1 rfl (List.Sublist.refl _) (by rw [plusL_comm]) (.inl rfl)

theorem c_l00Own (l : List Int) (hn : l.length ≤ 1000000) : Gives Tryz.prog 41 [.sl (l.map Go.AI.encI)] (.sl (l.map Go.AI.encI)) := by
  refine fn_of_run tyOk ztOk mix Tryz.func41 rfl (by decide) Tryz.ntmps41 (fun w0 h => ?_)
  repeat' (first
      | (refine j_go ?_; first
        | refine j_op0 rfl rfl rfl rfl ?_ | (refine j_kBsl rfl ?_; first | refine j_bs0 rfl rfl rfl rfl rfl rfl ?_))
      | refine j_nil ?_
      | (refine r_go ?_; first | refine run_seq ?_ | refine run_region ?_)
      | refine seqQ_normal ?_)
  refine j_append0 (g := Go.AI.encI) l rfl rfl rfl rfl rfl rfl rfl rfl (fun _ => rfl) (fun _ _ => rfl) ⟨by omega, by omega⟩ rfl rfl (fun b' cap' => ?_)
  repeat' (first
      | (refine j_go ?_; first
        | refine j_op0 rfl rfl rfl rfl ?_)
      | refine j_nil ?_
      | (refine r_go ?_; first | refine run_ret ?_)
      | refine seqQ_normal ?_)
  refine end_view (view_freeze (g := Go.AI.encI) (z := 1) (ys := l) 0 2 rfl rfl rfl (fun _ => rfl) rfl rfl) ?_
  exact end1 rfl (List.Sublist.refl _) rfl (.inl rfl)

/-- What is left of all bags behind the first k counts. -/
def restK (s : System) (t : State) (cs : List Int) : Nat → List (List Int)
  | 0 => t.bags
  | k + 1 => (restK s t cs k).set (s.rules.getD k default).cell.toNat (plusL ((restK s t cs k).getD (s.rules.getD k default).cell.toNat []) (s.rules.getD k default).need (0 - cs.getD k 0))
theorem restK_len (s : System) (t : State) (cs : List Int) : ∀ k, (restK s t cs k).length = t.bags.length
  | 0 => rfl
  | k + 1 => by rw [restK, List.length_set, restK_len s t cs k]
theorem restK_succ {s : System} {t : State} {cs : List Int} {k : Nat} (hk : k < s.rules.length) (hk2 : k < cs.length) (hc : s.rules[k].cell.toNat < (restK s t cs k).length) : (restK s t cs k).set s.rules[k].cell.toNat (plusL ((restK s t cs k)[s.rules[k].cell.toNat]) s.rules[k].need (0 - cs[k])) = restK s t cs (k + 1) := by
  rw [restK, getD_get hk, getD_get hk2, getD_get hc]

def Cnts (s : System) (cs : List Int) : Prop := (∀ x ∈ cs, 0 ≤ x ∧ x ≤ 1000) ∧ (cs.length : Int) = s.rules.length
theorem neg_mul_bnd {x y : Int} (hx : 0 ≤ x ∧ x ≤ 1000) (hy : 0 ≤ y ∧ y ≤ 1000) : -1000000 ≤ x * (0 - y) ∧ x * (0 - y) ≤ 0 := by
  have h1 := Int.mul_le_mul_of_nonneg_left (show -1000 ≤ 0 - y by omega) hx.1
  have h2 := Int.mul_le_mul_of_nonneg_left (show 0 - y ≤ 0 by omega) hx.1
  omega
theorem restK_bnd {s : System} {t : State} {cs : List Int} (hv : s.Ok) (ht : s.StateOk t) (hc : Cnts s cs) : ∀ k, k ≤ s.rules.length → ∀ b ∈ restK s t cs k, (b.length : Int) = s.kinds ∧ ∀ x ∈ b, -1000000 * (k : Int) ≤ x ∧ x ≤ 1000
  | 0, _, b, hb => by
    obtain ⟨i, hi, rfl⟩ := List.getElem_of_mem hb
    have := (ht.2.2.2.2 i hi).1
    exact ⟨this.2, fun x hx => by have := this.1.1 x hx; omega⟩
  | k + 1, hk, b, hb => by
    have hk' : k < s.rules.length := by omega
    have hk2 : k < cs.length := by have := hc.2; omega
    have ih := restK_bnd hv ht hc k (by omega)
    have hr := (hv.2.2 k hk').1
    have hcl : s.rules[k].cell.toNat < (restK s t cs k).length := by rw [restK_len]; have := hr.1; have := ht.2.1; omega
    rw [← restK_succ hk' hk2 hcl] at hb
    rcases List.mem_or_eq_of_mem_set hb with q | q
    · have := ih b q
      exact ⟨this.1, fun x hx => by have := this.2 x hx; omega⟩
    · have h1 := ih _ (List.getElem_mem hcl)
      have hn := hr.2.2.2.2.1
      subst q
      refine ⟨by unfold plusL; rw [List.length_zipWith]; have := h1.1; have := hn.2; omega, fun x hx => ?_⟩
      unfold plusL at hx
      obtain ⟨i, hi, rfl⟩ := List.getElem_of_mem hx
      rw [List.length_zipWith] at hi
      rw [List.getElem_zipWith]
      have h2 := h1.2 _ (List.getElem_mem (n := i) (by omega))
      have h3 := neg_mul_bnd (hn.1.1 _ (List.getElem_mem (n := i) (by omega))) (hc.1 _ (List.getElem_mem hk2))
      omega
theorem rest_fits {s : System} {t : State} {cs : List Int} (hv : s.Ok) (ht : s.StateOk t) (hc : Cnts s cs) {k : Nat} (hk : k < s.rules.length) (hk2 : k < cs.length) (hcl : s.rules[k].cell.toNat < (restK s t cs k).length) : Fits (restK s t cs k)[s.rules[k].cell.toNat] s.rules[k].need (0 - cs[k]) := by
  have h1 := restK_bnd hv ht hc k (by omega) _ (List.getElem_mem hcl)
  have hn := (hv.2.2 k hk).1.2.2.2.2.1
  have h16 := hv.2.1
  refine ⟨by have := h1.1; have := hn.2; omega, by have := h1.1; have := hv.1.1; omega, fun x hx => by have := h1.2 x hx; omega, fun y hy => ?_⟩
  have := neg_mul_bnd (hn.1.1 y hy) (hc.1 _ (List.getElem_mem hk2))
  omega
theorem plus_zero {a b : List Int} (h : a.length ≤ b.length) : plusL a b 0 = a := by
  apply List.ext_getElem
  · unfold plusL; rw [List.length_zipWith]; omega
  · intro i h1 h2; simp only [plusL, List.getElem_zipWith]; omega
theorem restK_zero {s : System} {t : State} {cs : List Int} (hv : s.Ok) (ht : s.StateOk t) (hc : Cnts s cs) {k : Nat} (hk : k < s.rules.length) (hk2 : k < cs.length) (h0 : cs[k] = 0) : restK s t cs (k + 1) = restK s t cs k := by
  have hr := (hv.2.2 k hk).1
  have hcl : s.rules[k].cell.toNat < (restK s t cs k).length := by rw [restK_len]; have := hr.1; have := ht.2.1; omega
  rw [← restK_succ hk hk2 hcl, h0, Int.sub_self, plus_zero (rest_fits hv ht hc hk hk2 hcl).1, List.set_getElem_self]

/-- Counts are a choice. -/
def Ch (s : System) (t : State) (cs : List Int) : Prop := (∀ i (h : i < s.rules.length) (h2 : i < cs.length), 0 < cs[i] → App s t s.rules[i]) ∧ ∀ b ∈ restK s t cs s.rules.length, ∀ x ∈ b, 0 ≤ x
open Classical in
noncomputable def restA (s : System) (t : State) (cs : List Int) : A := if Ch s t cs then .sl ((restK s t cs s.rules.length).map (encS Go.AI.encI)) else .any (fun _ => True)
theorem Le.tup2 {a b c : A} (h : Le a c) : Le (.tup [a, b]) (.tup [c, b]) := fun S w x r => by
  cases r with
  | tup cs vs hl hr =>
    refine .tup _ vs hl (fun j hj hj' => ?_)
    cases j with
    | zero => exact h _ _ _ (hr 0 (by simp) hj')
    | succ j => exact hr (j + 1) (by simpa using hj) hj'
end Go.Proofs.YtkfmjjoalkoncaaGreat

/-
  Choices: what the program computes of them; IsChoice, IsMaximal. No condition.
-/
namespace Go.Proofs.YtkfmjjoalkoncaaGreat
open Go.AI
set_option maxRecDepth 8000
set_option maxHeartbeats 1600000

theorem view_freeze2 {e : Env} {h : Heap} {α : Type} {g : α → List A} {ys : List α} {z : Nat} (i t t2 : Nat) {b : Option Nat} {T room cap : Nat} {cs : List A} (ht : lk e t = some (.os b ys.length cap)) (ht2 : lk e t2 = some (.os b ys.length cap)) (hi : h[i]? = some ⟨b, T, room, cs⟩) (hcs : cs = (ys.map g).flatten)
    (hz : ∀ y, (g y).length = z) (hroom : room = cap * z) (hz0 : Nat.blt 0 z = true) : View e h ((t, .sl (ys.map g)) :: (t2, .sl (ys.map g)) :: e) (h.eraseIdx i) := fun C n a w hc =>
  conc_cons (view_freeze i t2 ht2 hi hcs hz hroom hz0 C n a w hc) ((view_freeze i t ht hi hcs hz hroom hz0 C n a w hc).env t _ (lk_cons_eq _ _ _))

theorem c_cloneSS (l : List (List Int)) (hne : l ≠ []) (hn : l.length ≤ 1000000) : Does Tryz.prog 50 [.sl (l.map (encS Go.AI.encI))] [] (fun v h1 => ∃ b cap, v = .os b l.length cap ∧ h1 = [⟨b, 24, cap * 1, (l.map (encS Go.AI.encI)).flatten⟩]) := by
  refine fn_of_runD tyOk ztOk mix Tryz.func50 rfl (by decide) Tryz.ntmps50 (fun w0 F => ?_)
  repeat' (first
      | (refine j_go ?_; first
        | refine j_op0 rfl rfl rfl rfl ?_)
      | refine j_nil ?_
      | (refine r_go ?_; first | refine run_seq ?_ | refine run_region ?_)
      | refine seqQ_normal ?_)
  refine j_slnil rfl rfl rfl rfl (by simpa using hne) rfl rfl ?_
  repeat' (first
      | (refine j_go ?_; first
        | refine j_op0 rfl rfl rfl rfl ?_ | (refine j_kBsl rfl ?_; first | refine j_bs0 rfl rfl rfl rfl rfl rfl ?_))
      | refine j_nil ?_
      | (refine r_go ?_; first | refine run_seq ?_ | refine run_region ?_ | refine run_cond_f rfl ?_ | refine run_skip ?_)
      | refine seqQ_normal ?_)
  refine j_append0 (g := encS Go.AI.encI) l rfl rfl rfl rfl rfl rfl rfl rfl (fun _ => rfl) (fun _ _ => rfl) ⟨by omega, by omega⟩ rfl rfl (fun b' cap' => ?_)
  repeat' (first
      | (refine j_go ?_; first
        | refine j_op0 rfl rfl rfl rfl ?_)
      | refine j_nil ?_
      | (refine r_go ?_; first | refine run_ret ?_)
      | refine seqQ_normal ?_)
  exact endD_ret (h1 := [⟨b', 24, cap' * 1, (l.map (encS Go.AI.encI)).flatten⟩]) rfl (vs := [_]) (.cons (.tmp rfl) .nil) (Le.refl _) ⟨_, _, rfl, rfl⟩ (.inl rfl)

/-- The least of some numbers. -/
def minF : List Int → Int
  | [] => 0
  | [x] => x
  | x :: y :: l => min x (minF (y :: l))
theorem minF_spec : ∀ (l : List Int), l ≠ [] → minF l ∈ l ∧ ∀ x ∈ l, minF l ≤ x
  | [], h => absurd rfl h
  | [x], _ => ⟨by simp [minF], fun y hy => by simp at hy; subst hy; exact Int.le_refl _⟩
  | x :: y :: l, _ => by
    have ⟨h1, h2⟩ := minF_spec (y :: l) (by simp)
    simp only [minF]
    refine ⟨?_, fun z hz => ?_⟩
    · by_cases hx : x ≤ minF (y :: l)
      · rw [Int.min_eq_left hx]; simp
      · rw [Int.min_eq_right (by omega)]; exact List.mem_cons_of_mem _ h1
    · rcases List.mem_cons.1 hz with rfl | hz
      · omega
      · have := h2 z hz; omega
theorem minF_eq {l : List Int} {m : Int} (h1 : m ∈ l) (h2 : ∀ x ∈ l, m ≤ x) : m = minF l := by
  have hne : l ≠ [] := fun q => by rw [q] at h1; cases h1
  have ⟨a, b⟩ := minF_spec l hne
  have := h2 _ a; have := b _ h1; omega

theorem first_le {l : List Int} (h : 0 < l.length) : ∀ i (hi : i < l.length), i < 1 → l[0] ≤ l[i] := fun i hi h1 => by
  have : i = 0 := by omega
  subst this; exact Int.le_refl _

theorem c_slMin (l : List Int) (hne : 1 ≤ l.length) (hn : l.length ≤ 1000000) : Gives Tryz.prog 58 [.sl (l.map Go.AI.encI)] (.int (minF l)) := by
  refine fn_of_run tyOk ztOk mix Tryz.func58 rfl (by decide) Tryz.ntmps58 (fun w0 h => ?_)
  repeat' (first
      | (refine j_go ?_; first
        | refine j_op0 rfl rfl rfl rfl ?_ | (refine j_kIdx rfl ?_; first | refine j_idxz rfl rfl rfl rfl rfl ⟨by omega, by omega⟩ rfl rfl rfl ?_) | (refine j_kLen rfl ?_; first | refine j_len rfl rfl rfl rfl rfl rfl ?_))
      | refine j_nil ?_
      | (refine r_go ?_; first | refine run_seq ?_ | refine run_region ?_ | (refine (run_if rfl (fun hb => ?_) (fun hb => ?_)) <;> first | (exfalso; omega) | skip) | refine run_block ?_ | refine run_skip ?_)
      | refine seqQ_normal ?_)
  refine run_loop (fun x : Nat × Int => [(0, .sl (l.map Go.AI.encI)), (3, .int x.2), (4, .int (x.1 : Int))]) (fun _ => _) (fun x => (1 ≤ x.1 ∧ x.1 ≤ l.length) ∧ x.2 ∈ l ∧ ∀ i (h : i < l.length), i < x.1 → x.2 ≤ l[i]) (fun x => l.length - x.1) (1, l[0]'(by omega)) ⟨rfl, rfl, rfl, trivial⟩ rfl ⟨⟨by omega, by omega⟩, List.getElem_mem _, first_le (by omega)⟩ (fun ⟨k, m⟩ ⟨kl, km, kp⟩ => ?_)
  dsimp only at kl km kp ⊢
  by_cases hk : k < l.length
  · repeat' (first
      | (refine j_go ?_; first
        | refine j_op0 rfl rfl rfl rfl ?_ | (refine j_kIdx rfl ?_; first | refine j_idx rfl rfl rfl rfl rfl (by omega) rfl rfl rfl ?_) | (refine j_kBin rfl ?_; first | refine j_in rfl rfl ⟨by omega, by omega⟩ rfl rfl ?_) | (refine j_kLen rfl ?_; first | refine j_len rfl rfl rfl rfl rfl rfl ?_))
      | refine j_nil ?_
      | (refine r_go ?_; first | refine run_seq ?_ | refine run_region ?_ | (refine (run_if rfl (fun hb => ?_) (fun hb => ?_)) <;> first | (exfalso; omega) | skip) | refine run_block ?_ | refine run_skip ?_)
      | refine seqQ_normal ?_ | refine blockQ_normal ?_)
    exact loopQ_nextD (k + 1, min m l[k]) ⟨⟨by dsimp only; omega, by dsimp only; omega⟩, by
      dsimp only
      by_cases hx : m ≤ l[k]
      · rw [Int.min_eq_left hx]; exact km
      · rw [Int.min_eq_right (by omega)]; exact List.getElem_mem hk, by
      dsimp only
      exact all_step (fun i h1 h2 => by have := kp i h1 h2; omega) (fun _ => by omega)⟩ (by dsimp only; omega) (List.Sublist.refl _) ⟨rfl, rfl, nx _, trivial⟩
  · repeat' (first
      | (refine j_go ?_; first
        | refine j_op0 rfl rfl rfl rfl ?_ | (refine j_kLen rfl ?_; first | refine j_len rfl rfl rfl rfl rfl rfl ?_))
      | refine j_nil ?_
      | (refine r_go ?_; first | refine run_seq ?_ | refine run_region ?_ | (refine (run_if rfl (fun hb => ?_) (fun hb => ?_)) <;> first | (exfalso; omega) | skip) | refine run_ret ?_ | refine run_exit ?_)
      | refine seqQ_normal ?_ | refine seqQ_exit ?_ | refine blockQ_eq ?_ | refine loopQ_exit ?_)
    exact end1 rfl (List.Sublist.refl _) (ai (minF_eq km (fun x hx => by obtain ⟨i, hi, rfl⟩ := List.getElem_of_mem hx; exact kp i hi (by omega)))) (.inl rfl)

theorem c_left1 (l : List Int) (hne : 1 ≤ l.length) (hn : l.length ≤ 1000000) : Gives Tryz.prog 57 [.sl (l.map Go.AI.encI)] (.raw (.bool (dec (∃ x ∈ l, x < 0)))) := by
  refine fn_of_run tyOk ztOk mix Tryz.func57 rfl (by decide) Tryz.ntmps57 (fun w0 h => ?_)
  repeat' (first
      | (refine j_go ?_; first
        | refine j_op0 rfl rfl rfl rfl ?_ | (refine j_kCall rfl rfl rfl rfl ?_; first | refine jc (c_slMin _ hne hn) (LeL.refl _) rfl rfl ?_))
      | refine j_nil ?_
      | (refine r_go ?_; first | refine run_seq ?_ | refine run_region ?_ | refine run_ret ?_)
      | refine seqQ_normal ?_)
  exact end1 rfl (List.Sublist.refl _) (rbD ⟨fun q => ⟨_, (minF_spec l (fun z => by rw [z] at hne; simp at hne)).1, q⟩, fun ⟨x, hx, q⟩ => by have := (minF_spec l (fun z => by rw [z] at hne; simp at hne)).2 x hx; omega⟩) (.inl rfl)

theorem c_slIndex (l : List Int) (x : Int) : Gives Tryz.prog 82 [.sl (l.map Go.AI.encI), .int x] (.int (fIdx (fun y => x = y) l)) := by
  refine fn_of_run tyOk ztOk mix Tryz.func82 rfl (by decide) Tryz.ntmps82 (fun w0 h => ?_)
  refine run_len (t := 0) rfl (fun hl => ?_)
  rw [List.length_map] at hl
  repeat' (first
      | (refine j_go ?_; first
        | refine j_op0 rfl rfl rfl rfl ?_ | (refine j_kLen rfl ?_; first | refine j_len rfl rfl rfl rfl rfl rfl ?_))
      | refine j_nil ?_
      | (refine r_go ?_; first | refine run_seq ?_ | refine run_region ?_ | refine run_block ?_)
      | refine seqQ_normal ?_)
  refine run_loop (fun k : Nat => [(0, .sl (l.map Go.AI.encI)), (1, .int x), (7, .int l.length), (8, .int (k : Int))]) (fun _ => _) (fun k => k ≤ l.length ∧ (∀ i (h : i < l.length), i < k → ¬ x = l[i])) (fun k => l.length - k) 0 ⟨rfl, rfl, rfl, rfl, trivial⟩ rfl ⟨Nat.zero_le _, by first | (intros; omega) | (simp; done) | rfl | trivial | exact ⟨by simp [sumF], by intros; omega⟩ | exact ⟨by omega, by simp⟩⟩ (fun k ⟨kl, kp⟩ => ?_)
  repeat' (first
      | (refine j_go ?_; first
        | refine j_op0 rfl rfl rfl rfl ?_ | (refine j_kIdx rfl ?_; first | refine j_idx rfl rfl rfl rfl rfl (by omega) rfl rfl rfl ?_) | (refine j_kBin rfl ?_; first | refine j_in rfl rfl ⟨by omega, by omega⟩ rfl rfl ?_))
      | refine j_nil ?_
      | (refine r_go ?_; first | refine run_seq ?_ | refine run_region ?_ | (refine (run_if rfl (fun hb => ?_) (fun hb => ?_)) <;> first | (exfalso; omega) | skip) | refine run_block ?_ | refine run_ret ?_ | refine run_exit ?_ | refine run_skip ?_)
      | refine seqQ_normal ?_ | refine seqQ_ret ?_ | refine seqQ_exit ?_ | refine blockQ_normal ?_ | refine blockQ_ret ?_ | refine blockQ_eq ?_ | refine loopQ_ret ?_ | refine loopQ_exit ?_)
  · exact end1 rfl (List.Sublist.refl _) (ai (fIdx_at (by omega) hb kp).symm) (.inl rfl)
  · exact loopQ_nextD (k + 1) ⟨by omega, all_step kp (fun _ => hb)⟩ (by omega) (by first | exact List.Sublist.refl _ | exact sub1 | exact sub2 | exact sub3) ⟨rfl, rfl, rfl, nx _, trivial⟩
  · exact end1 rfl (List.Sublist.refl _) (ai (fIdx_none (fun i h => kp i h (by omega))).symm) (.inl rfl)
theorem c_slContains (l : List Int) (x : Int) : Gives Tryz.prog 55 [.sl (l.map Go.AI.encI), .int x] (.raw (.bool (dec (x ∈ l)))) := by
  refine fn_of_run tyOk ztOk mix Tryz.func55 rfl (by decide) Tryz.ntmps55 (fun w0 h => ?_)
  repeat' (first
      | (refine j_go ?_; first
        | refine j_op0 rfl rfl rfl rfl ?_ | (refine j_kCall rfl rfl rfl rfl ?_; first | refine jc (c_slIndex _ _) (LeL.refl _) rfl rfl ?_))
      | refine j_nil ?_
      | (refine r_go ?_; first | refine run_seq ?_ | refine run_region ?_ | refine run_ret ?_)
      | refine seqQ_normal ?_)
  exact end1 rfl (List.Sublist.refl _) (rbD (by rw [fIdx_ex]; exact ⟨fun ⟨y, hy, e⟩ => e ▸ hy, fun q => ⟨x, q, rfl⟩⟩)) (.inl rfl)

/-- All rules that are counted are applicable. -/
def AllApp (s : System) (t : State) (cs : List Int) : Prop := ∀ i (h : i < s.rules.length) (h2 : i < cs.length), 0 < cs[i] → App s t s.rules[i]
open Classical in
noncomputable def restI (s : System) (t : State) (cs : List Int) : A := if AllApp s t cs then .sl ((restK s t cs s.rules.length).map (encS Go.AI.encI)) else .os none 0 0
theorem restI_yes {s : System} {t : State} {cs : List Int} (hn : AllApp s t cs) : restI s t cs = .sl ((restK s t cs s.rules.length).map (encS Go.AI.encI)) := by unfold restI; rw [if_pos hn]
theorem restI_no {s : System} {t : State} {cs : List Int} (hn : ¬ AllApp s t cs) : restI s t cs = .os none 0 0 := by unfold restI; rw [if_neg hn]

theorem c_left (s : System) (t : State) (cs : List Int) (hv : s.Ok) (ht : s.StateOk t) (hc : Cnts s cs) : Gives Tryz.prog 25 [.agg (encSystem s), .agg (encState t), .sl (cs.map Go.AI.encI)] (.tup [restI s t cs, .raw (.bool (dec (Ch s t cs)))]) := by
  refine fn_of_run tyOk ztOk mix Tryz.func25 rfl (by decide) Tryz.ntmps25 (fun w0 h => ?_)
  have hl := hv.1.2.1
  have h16 := hv.2.1
  have k8 := hv.1.1
  have h2 := ht.2.1
  have hcn := hc.2
  have hbne : t.bags ≠ [] := fun q => by rw [q] at h2; simp at h2; omega
  repeat' (first
      | (refine j_go ?_; first
        | refine j_op0 rfl rfl rfl rfl ?_ | refine j_box rfl rfl rfl rfl rfl rfl ?_)
      | refine j_nil ?_
      | (refine j_goO ?_; first
        | refine j_op0O rfl rfl rfl rfl ?_)
      | (refine r_go ?_; first | refine run_seq ?_ | refine run_region ?_ | refine run_opn 1 [⟨0, true, false, 0⟩, ⟨1, true, false, 0⟩, ⟨3, false, false, 0⟩, ⟨4, false, false, 0⟩, ⟨2, false, true, 0⟩, ⟨5, true, false, 0⟩, ⟨6, true, false, 0⟩, ⟨7, true, false, 0⟩] rfl rfl (by kernel_rfl) ?_)
      | refine seqQ_normal ?_)
  refine j_kCallO rfl rfl rfl rfl ?_
  refine jcdO 0 0 rfl (fun _ hk => nomatch hk) (c_cloneSS t.bags hbne (by omega)) rfl (LeL.refl _) rfl rfl (fun v h1 hR => ?_)
  obtain ⟨ob, cp, rfl, rfl⟩ := hR
  repeat' (first
      | (refine j_go ?_; first
        | refine j_op0 rfl rfl rfl rfl ?_ | (refine j_kLen rfl ?_; first | refine j_len rfl rfl rfl rfl rfl rfl ?_))
      | refine j_nil ?_
      | (refine j_goO ?_; first
        | refine j_op0O rfl rfl rfl rfl ?_ | (refine j_kCallO rfl rfl rfl rfl ?_; first | refine jcO (c_applicable _ _ hv ht) (LeL.refl _) rfl rfl ?_))
      | refine j_nilO ?_
      | (refine r_go ?_; first | refine run_seq ?_ | refine run_region ?_ | refine run_block ?_)
      | refine seqQ_normal ?_)
  refine run_loop (fun j : Nat => [(3, .ip (encSystem s)), (8, .os ob (restK s t cs j).length cp), (9, .sl ((idxL s t s.rules.length).map Go.AI.encI)), (19, .sl (cs.map Go.AI.encI)), (20, .int cs.length), (21, .int (j : Int))]) (fun j => ⟨ob, 24, cp * 1, ((restK s t cs j).map (encS Go.AI.encI)).flatten⟩ :: h)
    (fun j => j ≤ cs.length ∧ ∀ i (h : i < s.rules.length) (h2 : i < cs.length), i < j → 0 < cs[i] → App s t s.rules[i]) (fun j => cs.length - j) 0 ⟨rfl, rfl, rfl, rfl, rfl, rfl, trivial⟩ rfl ⟨Nat.zero_le _, by intros; omega⟩ (fun j ⟨jl, jp⟩ => ?_)
  have rl := restK_len s t cs j
  by_cases hj : j < cs.length
  · have hjr : j < s.rules.length := by omega
    have hcl : s.rules[j].cell.toNat < (restK s t cs j).length := by have := (hv.2.2 j hjr).1.1; omega
    have hcc := (hv.2.2 j hjr).1.1
    have hcj := hc.1 _ (List.getElem_mem hj)
    have hne : ((restK s t cs j).map (encS Go.AI.encI)).flatten ≠ [] := fun q => by
      have h3 : (((restK s t cs j).map (encS Go.AI.encI)).flatten).length = 0 := by rw [q]; rfl
      rw [flat_len (f := encS Go.AI.encI) (z := 1) (fun _ => rfl), rl] at h3
      omega
    refine run_some 0 rfl hne (fun b2 hb2 => ?_)
    subst hb2
    have mem : (j : Int) ∈ idxL s t s.rules.length ↔ App s t s.rules[j] := by
      rw [idxL_mem]
      refine ⟨fun ⟨i, e, _, hi, ha⟩ => ?_, fun ha => ⟨j, rfl, hjr, hjr, ha⟩⟩
      have : i = j := by omega
      subst this; exact ha
    repeat' (first
      | (refine j_go ?_; first
        | refine j_op0 rfl rfl rfl rfl ?_ | (refine j_kIdx rfl ?_; first | refine j_idx rfl rfl rfl rfl rfl (by omega) rfl rfl rfl ?_) | (refine j_kBin rfl ?_; first | refine j_in rfl rfl ⟨by omega, by omega⟩ rfl rfl ?_) | (refine j_kCall rfl rfl rfl rfl ?_; first | refine jc (c_slContains _ _) (LeL.refl _) rfl rfl ?_) | (refine j_kStore rfl ?_; first | refine j_storeN 0 rfl rfl rfl rfl rfl rfl rfl rfl rfl rfl rfl ?_) | refine j_alloc rfl rfl rfl rfl rfl (fun _ => ?_) | refine j_in rfl rfl ⟨by omega, by omega⟩ rfl rfl ?_)
      | refine j_nil ?_
      | (refine j_goO ?_; first
        | refine j_op0O rfl rfl rfl rfl ?_ | (refine j_kIdxO rfl ?_; first | refine j_midxzO rfl rfl rfl rfl rfl (by first | omega | (simp only [List.length_append, List.length_cons, List.length_nil]; omega)) rfl rfl ?_) | (refine j_kLoadO rfl ?_; first | refine j_mloadO 0 rfl rfl rfl rfl rfl rfl rfl rfl ?_))
      | (refine r_go ?_; first | refine run_seq ?_ | refine run_region ?_ | (refine (run_if rfl (fun hb => ?_) (fun hb => ?_)) <;> first | (exfalso; omega) | skip) | (refine (run_ifn rfl (fun hb => ?_) (fun hb => ?_)) <;> first | (exfalso; omega) | skip) | refine run_block ?_ | refine run_ret ?_ | refine run_exit ?_ | refine run_skip ?_ | refine run_opn 9 [⟨0, true, false, 0⟩, ⟨1, true, false, 0⟩, ⟨2, true, false, 0⟩, ⟨3, true, false, 0⟩, ⟨4, true, false, 0⟩, ⟨5, true, false, 0⟩, ⟨6, true, false, 0⟩, ⟨7, true, false, 0⟩, ⟨8, true, false, 0⟩, ⟨9, true, false, 0⟩, ⟨10, true, false, 0⟩, ⟨11, true, false, 0⟩, ⟨12, true, false, 0⟩, ⟨13, true, false, 0⟩, ⟨14, false, true, 0⟩] rfl rfl (by kernel_rfl) ?_)
      | refine seqQ_normal ?_ | refine seqQ_ret ?_ | refine seqQ_exit ?_ | refine blockQ_ret ?_ | refine blockQ_eq ?_ | refine loopQ_ret ?_)
    · exact loopQ_nextD (j + 1) ⟨by omega, fun i h1 h2 h3 h4 => by
        by_cases hi : i = j
        · subst hi; omega
        · exact jp i h1 h2 (by omega) h4⟩ (by omega) (by rw [restK_zero hv ht hc hjr hj (by assumption)]; exact List.Sublist.refl _) ⟨rfl, (by rw [restK_zero hv ht hc hjr hj (by assumption)]; rfl), rfl, rfl, rfl, nx _, trivial⟩
    · have hna : ¬ AllApp s t cs := fun q => hb (mem.2 (q j hjr hj (by omega)))
      exact end_le sub1 (vs := [_, _]) (.cons (.tmp rfl) (.cons (.tmp rfl) .nil)) (by rw [restI_no hna, dec_f (fun q : Ch s t cs => hna q.1)]; exact Le.refl _) (.inl rfl)
    · have hap : App s t s.rules[j] := mem.1 (by assumption)
      refine j_mloadEO 1 s.rules[j].cell.toNat (g := encS Go.AI.encI) (L := restK s t cs j) (z := 1) rfl rfl rfl rfl rfl (fun _ => rfl) rfl hcl (fun _ => rfl) rfl rfl ?_
      repeat' (first
      | (refine j_goO ?_; first
        | refine j_op0O rfl rfl rfl rfl ?_ | (refine j_kIdxO rfl ?_; first | refine j_midxzO rfl rfl rfl rfl rfl (by first | omega | (simp only [List.length_append, List.length_cons, List.length_nil]; omega)) rfl rfl ?_) | (refine j_kBinO rfl ?_; first | refine j_inO rfl rfl ⟨by omega, by omega⟩ rfl rfl ?_) | (refine j_kCallO rfl rfl rfl rfl ?_; first | refine jcO (c_plus _ _ _ (rest_fits hv ht hc hjr hj hcl)) (LeL.refl _) rfl rfl ?_) | (refine j_kLoadO rfl ?_; first | refine j_mloadO 0 rfl rfl rfl rfl rfl rfl rfl rfl ?_) | refine j_inO rfl rfl ⟨by omega, by omega⟩ rfl rfl ?_))
      refine j_storeEO 1 s.rules[j].cell.toNat (g := encS Go.AI.encI) (plusL (restK s t cs j)[s.rules[j].cell.toNat] s.rules[j].need (0 - cs[j])) rfl rfl rfl rfl rfl rfl rfl rfl rfl rfl (fun _ => rfl) rfl hcl (fun _ hk => nomatch hk) ?_
      rw [restK_succ hjr hj hcl]
      repeat' (first
      | (refine j_go ?_; first
        | refine j_op0 rfl rfl rfl rfl ?_ | (refine j_kBin rfl ?_; first | refine j_in rfl rfl ⟨by omega, by omega⟩ rfl rfl ?_) | refine j_in rfl rfl ⟨by omega, by omega⟩ rfl rfl ?_)
      | refine j_nil ?_
      | refine j_nilO ?_
      | (refine r_go ?_; first | refine run_region ?_)
      | refine seqQ_normal ?_ | refine blockQ_normal ?_)
      exact loopQ_nextD (j + 1) ⟨by omega, fun i h1 h2 h3 h4 => by
        by_cases hi : i = j
        · subst hi; exact hap
        · exact jp i h1 h2 (by omega) h4⟩ (by omega) (List.sublist_cons_self _ _) ⟨rfl, (by rw [restK_len, ← restK_len s t cs (j + 1)]; rfl), rfl, rfl, rfl, nx _, trivial⟩
  have hje : j = s.rules.length := by omega
  subst hje
  have hall : AllApp s t cs := fun i h1 h2 h3 => jp i h1 h2 (by omega) h3
  have bd := restK_bnd hv ht hc s.rules.length (Nat.le_refl _)
  repeat' (first
      | (refine j_go ?_; first
        | refine j_op0 rfl rfl rfl rfl ?_)
      | refine j_nil ?_
      | (refine r_go ?_; first | refine run_seq ?_ | refine run_region ?_ | (refine (run_if rfl (fun hb => ?_) (fun hb => ?_)) <;> first | (exfalso; omega) | skip) | refine run_exit ?_)
      | refine seqQ_normal ?_ | refine seqQ_exit ?_ | refine blockQ_eq ?_ | refine loopQ_exit ?_)
  refine j_view (view_freeze2 (g := encS Go.AI.encI) (z := 1) (ys := restK s t cs s.rules.length) 0 53 52 rfl rfl rfl rfl (fun _ => rfl) rfl rfl) ?_
  repeat' (first
      | (refine j_go ?_; first
        | refine j_op0 rfl rfl rfl rfl ?_ | (refine j_kCall rfl rfl rfl rfl ?_; first | refine jc (c_cfS _ _ (fun b => ∃ x ∈ b, x < 0) _ (fun b hb => c_left1 b (by have := (bd b hb).1; omega) (by have := (bd b hb).1; omega))) (LeL.refl _) rfl rfl ?_))
      | refine j_nil ?_
      | (refine r_go ?_; first | refine run_ret ?_)
      | refine seqQ_normal ?_)
  exact end_le (List.Sublist.refl _) (vs := [_, _]) (.cons (.tmp rfl) (.cons (.tmp rfl) .nil)) (by
    rw [restI_yes hall, dec_congr (p := Ch s t cs) (q := ¬ ∃ b ∈ restK s t cs s.rules.length, ∃ x ∈ b, x < 0) ⟨fun q ⟨b, hb, x, hx, hlt⟩ => by have := q.2 b hb x hx; omega, fun q => ⟨hall, fun b hb x hx => Classical.byContradiction fun r => q ⟨b, hb, x, hx, by omega⟩⟩⟩]
    rw [show (dec (¬ ∃ b ∈ restK s t cs s.rules.length, ∃ x ∈ b, x < 0)) = !dec (∃ b ∈ restK s t cs s.rules.length, ∃ x ∈ b, x < 0) from by
      by_cases hx : ∃ b ∈ restK s t cs s.rules.length, ∃ x ∈ b, x < 0
      · rw [dec_t hx, dec_f (fun q => q hx)]; rfl
      · rw [dec_f hx, dec_t hx]; rfl]
    exact Le.refl _) (.inl rfl)

end Go.Proofs.YtkfmjjoalkoncaaGreat

/-
  Copies of lists in memory of the call's own, their marks, and what is held. No condition but that the sizes are bounded.
-/
namespace Go.Proofs.YtkfmjjoalkoncaaGreat
open Go.AI
set_option maxRecDepth 8000
set_option maxHeartbeats 1600000
end Go.Proofs.YtkfmjjoalkoncaaGreat

/-
  Lists of numbers that hold what a condition picks, and answers in memory of the call's own. No condition.
-/
namespace Go.Proofs.YtkfmjjoalkoncaaGreat
open Go.AI

open Classical in
/-- A list where a condition holds, else the empty one. -/
noncomputable def lsP (p : Prop) (l : List Int) : List Int := if p then l else []
theorem ls_t {p : Prop} (h : p) (l : List Int) : lsP p l = l := by unfold lsP; rw [if_pos h]
theorem ls_f {p : Prop} (h : ¬p) (l : List Int) : lsP p l = [] := by unfold lsP; rw [if_neg h]
/-- What a call hands back that answers with a list of numbers in memory of its own, and a code. -/
def OwnI (l : List Int) (c : Int) : A → Heap → Prop := fun v h' => ∃ b cap, v = .tup [.os b l.length cap, .int c] ∧ h' = [⟨b, 2, cap * 1, (l.map Go.AI.encI).flatten⟩]
end Go.Proofs.YtkfmjjoalkoncaaGreat

/-
  Lists of rules and of cells, in memory of the call's own: ApplicableRules, KidsNow. No condition.
-/
namespace Go.Proofs.YtkfmjjoalkoncaaGreat
open Go.AI
set_option maxRecDepth 8000
set_option maxHeartbeats 1600000

end Go.Proofs.YtkfmjjoalkoncaaGreat

/-
  Plain facts: what is a choice stays one when objects are added, where no rule forbids objects and all have one rank. No program in sight.
-/
namespace Go.Proofs.YtkfmjjoalkoncaaGreat
open Go.AI
set_option maxRecDepth 8000

/-- No less, place by place. -/
def Big (a b : List Int) : Prop := a.length = b.length ∧ ∀ i (h : i < a.length) (h2 : i < b.length), a[i] ≤ b[i]
theorem Big.refl (a : List Int) : Big a a := ⟨rfl, fun _ _ _ => Int.le_refl _⟩
theorem Within.big {a b c : List Int} (h : Within a b) (q : Big b c) : Within a c := fun i ha hc => by
  have hb : i < b.length := by have := q.1; omega
  exact Int.le_trans (h i ha hb) (q.2 i hb hc)
theorem Big.plus {a b n : List Int} {m : Int} (q : Big a b) : Big (plusL a n m) (plusL b n m) := by
  have ql := q.1
  unfold plusL
  refine ⟨by rw [List.length_zipWith, List.length_zipWith]; omega, fun i h h2 => ?_⟩
  rw [List.length_zipWith] at h h2
  rw [List.getElem_zipWith, List.getElem_zipWith]
  have := q.2 i (by omega) (by omega)
  omega
/-- A state with more objects. -/
structure More (t u : State) : Prop where
  al : u.alive = t.alive
  n : u.bags.length = t.bags.length
  b : ∀ c, Big (t.bags.getD c []) (u.bags.getD c [])
theorem getD_set {L : List (List Int)} {i : Nat} {v : List Int} {c : Nat} : (L.set i v).getD c [] = if i = c ∧ i < L.length then v else L.getD c [] := by
  rw [List.getD_eq_getElem?_getD, List.getD_eq_getElem?_getD, List.getElem?_set]
  by_cases h : i = c
  · subst h
    by_cases q : i < L.length
    · simp [q]
    · simp [q]
  · simp [h]
theorem restK_more {s : System} {t u : State} (h : More t u) (cs : List Int) : ∀ k c, Big ((restK s t cs k).getD c []) ((restK s u cs k).getD c [])
  | 0, c => h.b c
  | k + 1, c => by
    have ih := restK_more (s := s) h cs k
    rw [restK, restK, getD_set, getD_set, restK_len, restK_len, h.n]
    split
    · exact (ih _).plus
    · exact ih c
theorem pnow_more {s : System} {t u : State} (h : More t u) (c : Int) : pnow s u c = pnow s t c := by unfold pnow; rw [h.al]
theorem EnP.more {s : System} {t u : State} (h : More t u) {r : Rule} (hl : tot r.lack = 0) (q : EnP s t r) : EnP s u r := by
  obtain ⟨q1, q2, q3, q4, q5⟩ := q
  refine ⟨by unfold State.Lives at *; rw [h.al]; exact q1, q2.big (h.b _), q3.big (h.b _), fun z => by omega, fun i hi => ?_⟩
  have := q5 i hi
  unfold IntoNow at *
  rw [pnow_more h]
  exact ⟨by have := this.1; unfold State.Lives at *; rw [h.al]; exact this, this.2⟩
/-- Rules of one rank that forbid nothing. -/
def Easy (s : System) : Prop := ∀ r ∈ s.rules, r.rank = 0 ∧ tot r.lack = 0
theorem App.more {s : System} {t u : State} (h : More t u) (he : Easy s) {r : Rule} (hr : r ∈ s.rules) (q : App s t r) : App s u r :=
  ⟨q.1.more h (he r hr).2, fun x hx _ _ => by rw [(he x hx).1, (he r hr).1]; exact Int.le_refl _⟩
theorem Ch.more {s : System} {t u : State} (h : More t u) (he : Easy s) {cs : List Int} (q : Ch s t cs) : Ch s u cs := by
  refine ⟨fun i h1 h2 h3 => (q.1 i h1 h2 h3).more h he (List.getElem_mem _), fun b hb x hx => ?_⟩
  obtain ⟨c, hc, rfl⟩ := List.getElem_of_mem hb
  obtain ⟨i, hi, rfl⟩ := List.getElem_of_mem hx
  have hc2 : c < (restK s t cs s.rules.length).length := by rw [restK_len] at hc ⊢; rw [← h.n]; exact hc
  have := restK_more (s := s) h cs s.rules.length c
  rw [getD_get hc, getD_get hc2] at this
  have hi2 : i < (restK s t cs s.rules.length)[c].length := by have := this.1; omega
  have h0 := q.2 _ (List.getElem_mem hc2) _ (List.getElem_mem hi2)
  have := this.2 i hi2 hi
  omega
/-! #### the system without ranks and without objects that must not be there -/
/-! #### a state to which objects are added -/
end Go.Proofs.YtkfmjjoalkoncaaGreat

/-
  Choices: IsChoice, IsMaximal of the reference and of the program. No condition.
-/
namespace Go.Proofs.YtkfmjjoalkoncaaGreat
open Go.AI
set_option maxRecDepth 8000
set_option maxHeartbeats 1600000



theorem c_countsCode1 (x : Int) : Gives Tryz.prog 53 [.int x] (.raw (.bool (dec (¬ (0 ≤ x ∧ x ≤ 1000))))) := by
  refine fn_of_run tyOk ztOk mix Tryz.func53 rfl (by decide) Tryz.ntmps53 (fun w0 h => ?_)
  repeat' (first
      | (refine j_go ?_; first
        | refine j_op0 rfl rfl rfl rfl ?_ | (refine j_kCall rfl rfl rfl rfl ?_; first | refine jc (c_inRange _ _ _) (LeL.refl _) rfl rfl ?_))
      | refine j_nil ?_
      | (refine r_go ?_; first | refine run_seq ?_ | refine run_region ?_ | refine run_ret ?_)
      | refine seqQ_normal ?_)
  exact end1 rfl (List.Sublist.refl _) (rbN Iff.rfl) (.inl rfl)
theorem c_countsCode (s : System) (t : State) (cs : List Int) : Gives Tryz.prog 24 [.agg (encSystem s), .agg (encState t), .sl (cs.map Go.AI.encI)] (.int (cd2 (s.WP t) (Cnts s cs))) := by
  refine fn_of_run tyOk ztOk mix Tryz.func24 rfl (by decide) Tryz.ntmps24 (fun w0 h => ?_)
  repeat' (first
      | (refine j_go ?_; first
        | refine j_op0 rfl rfl rfl rfl ?_ | refine j_off rfl rfl rfl ?_ | (refine j_kLen rfl ?_; first | refine j_len rfl rfl rfl rfl rfl rfl ?_) | (refine j_kCall rfl rfl rfl rfl ?_; first | refine jc (c_iValidState _ _) (LeL.refl _) rfl rfl ?_ | refine jc (c_cfI _ _ (fun x => ¬ (0 ≤ x ∧ x ≤ 1000)) _ (fun x _ => c_countsCode1 x)) (LeL.refl _) rfl rfl ?_) | (refine j_kGuard rfl ?_; first | (refine (j_ifn rfl rfl rfl (fun hb => ?_) (fun hb => ?_)) <;> first | (exfalso; omega) | skip)) | refine j_box rfl rfl rfl rfl rfl rfl ?_)
      | refine j_nil ?_
      | (refine r_go ?_; first | refine run_seq ?_ | refine run_region ?_ | refine run_cond_t rfl ?_ | (refine (run_if rfl (fun hb => ?_) (fun hb => ?_)) <;> first | (exfalso; omega) | skip) | (refine (run_ifn rfl (fun hb => ?_) (fun hb => ?_)) <;> first | (exfalso; omega) | skip) | refine run_block ?_ | refine run_ret ?_ | refine run_skip ?_)
      | refine seqQ_normal ?_ | refine seqQ_ret ?_ | refine blockQ_normal ?_ | refine blockQ_ret ?_)
  all_goals first
    | exact end1 rfl (List.Sublist.refl _) (ai (cd2_f (p := s.WP t) (by assumption)).symm) (.inl rfl)
    | skip
  all_goals have hv : s.WP t := by assumption
  all_goals first
    | exact end1 rfl (List.Sublist.refl _) (ai (cd2_t (p := s.WP t) (q := Cnts s cs) hv (fun q => by first | exact absurd q.2 (by assumption) | (obtain ⟨x, hx, r⟩ := ‹∃ x ∈ cs, ¬ (0 ≤ x ∧ x ≤ 1000)›; exact r (q.1 x hx)))).symm) (.inl rfl)
    | exact end1 rfl (List.Sublist.refl _) (ai (cd2_o (p := s.WP t) (q := Cnts s cs) hv ⟨fun x hx => Classical.byContradiction fun r => absurd (show ∃ x ∈ cs, ¬ (0 ≤ x ∧ x ≤ 1000) from ⟨x, hx, r⟩) (by assumption), by assumption⟩).symm) (.inl rfl)
    | trace_state

theorem c_iIsChoice (s : System) (t : State) (cs : List Int) : Gives Tryz.prog 11 [.agg (encSystem s), .agg (encState t), .sl (cs.map Go.AI.encI)] (.tup [.raw (.bool (dec ((s.WP t ∧ Cnts s cs) ∧ Ch s t cs))), .int (cd2 (s.WP t) (Cnts s cs))]) := by
  refine fn_of_run tyOk ztOk mix Tryz.func11 rfl (by decide) Tryz.ntmps11 (fun w0 h => ?_)
  repeat' (first
      | (refine j_go ?_; first
        | refine j_op0 rfl rfl rfl rfl ?_ | (refine j_kCall rfl rfl rfl rfl ?_; first | refine jc (c_countsCode _ _ _) (LeL.refl _) rfl rfl ?_) | refine j_box rfl rfl rfl rfl rfl rfl ?_)
      | refine j_nil ?_
      | (refine r_go ?_; first | refine run_seq ?_ | refine run_region ?_ | (refine (run_ifn rfl (fun hb => ?_) (fun hb => ?_)) <;> first | (exfalso; omega) | skip) | refine run_ret ?_ | refine run_skip ?_)
      | refine seqQ_normal ?_ | refine seqQ_ret ?_)
  · exact end2 rfl rfl (List.Sublist.refl _) (by rw [dec_f (fun q => hb (cd2_z.2 q.1))]; rfl) (.inl rfl)
  · have hz := hb
    have ⟨hv, hc⟩ := cd2_z.1 hb
    repeat' (first
      | (refine j_go ?_; first
        | refine j_op0 rfl rfl rfl rfl ?_ | (refine j_kCall rfl rfl rfl rfl ?_; first | refine jc (c_left _ _ _ hv.1 hv.2 hc) (LeL.refl _) rfl rfl ?_))
      | refine j_nil ?_
      | (refine r_go ?_; first | refine run_seq ?_ | refine run_region ?_ | refine run_ret ?_)
      | refine seqQ_normal ?_)
    exact end2 rfl rfl (List.Sublist.refl _) (by rw [hz, dec_congr (p := (s.WP t ∧ Cnts s cs) ∧ Ch s t cs) (q := Ch s t cs) ⟨fun q => q.2, fun q => ⟨⟨hv, hc⟩, q⟩⟩]; rfl) (.inl rfl)

/-- Counts are a choice to which nothing can be added. -/
def Most (s : System) (t : State) (cs : List Int) : Prop := Ch s t cs ∧ ∀ i (h : i < s.rules.length), App s t s.rules[i] → ¬ Within s.rules[i].need ((restK s t cs s.rules.length).getD s.rules[i].cell.toNat [])
theorem rest_at {s : System} {t : State} {cs : List Int} (hv : s.Ok) (ht : s.StateOk t) (hc : Cnts s cs) {i : Nat} (hi : i < s.rules.length) : ∃ hcl : s.rules[i].cell.toNat < (restK s t cs s.rules.length).length, s.rules[i].need.length ≤ ((restK s t cs s.rules.length)[s.rules[i].cell.toNat]).length ∧ s.rules[i].need.length ≤ 1000000 := by
  have hr := (hv.2.2 i hi).1
  have hcl : s.rules[i].cell.toNat < (restK s t cs s.rules.length).length := by rw [restK_len]; have := hr.1; have := ht.2.1; omega
  refine ⟨hcl, ?_⟩
  have h1 := (restK_bnd hv ht hc s.rules.length (Nat.le_refl _) _ (List.getElem_mem hcl)).1
  have h2 := hr.2.2.2.2.1.2
  have := hv.1.1
  omega


end Go.Proofs.YtkfmjjoalkoncaaGreat
