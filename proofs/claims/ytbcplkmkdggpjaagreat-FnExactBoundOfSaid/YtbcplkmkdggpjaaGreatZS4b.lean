/-
  Sorting short lists of the call's own. No condition but that the list has at most twelve elements.
-/
import Derived.Test.YtbcplkmkdggpjaaGreatZS3e
import Derived.Test.YtbcplkmkdggpjaaGreatZE4
namespace Go.Proofs.YtbcplkmkdggpjaaGreat
open Go.AI
set_option maxRecDepth 8000
set_option maxHeartbeats 1600000

theorem c_isNaN2 (x : Int) : Gives Tryz.prog 106 [.int x] (.raw (.bool false)) := by
  refine fn_of_run tyOk ztOk mix Tryz.func106 rfl (by decide) Tryz.ntmps106 (fun w0 h => ?_)
  repeat' (first
      | (refine j_go ?_; first
        | refine j_op0 rfl rfl rfl rfl ?_)
      | refine j_nil ?_
      | (refine r_go ?_; first | refine run_seq ?_ | refine run_region ?_ | refine run_ret ?_)
      | refine seqQ_normal ?_)
  exact end1 rfl (List.Sublist.refl _) (rb (by rw [dec_t rfl]; rfl)) (.inl rfl)
theorem c_cmpLess2 (x y : Int) : Gives Tryz.prog 96 [.int x, .int y] (.raw (.bool (dec (x < y)))) := by
  refine fn_of_run tyOk ztOk mix Tryz.func96 rfl (by decide) Tryz.ntmps96 (fun w0 h => ?_)
  repeat' (first
      | (refine j_go ?_; first
        | refine j_op0 rfl rfl rfl rfl ?_ | refine j_off rfl rfl rfl ?_ | (refine j_kCall rfl rfl rfl rfl ?_; first | refine jc (c_isNaN2 _) (LeL.refl _) rfl rfl ?_))
      | refine j_nil ?_
      | (refine r_go ?_; first | refine run_seq ?_ | refine run_region ?_ | refine run_ret ?_)
      | refine seqQ_normal ?_)
  all_goals exact end1 rfl (List.Sublist.refl _) (rfl) (.inl rfl)

theorem c_bitsLen64 (m : Int) (h0 : 0 ≤ m ∧ m ≤ 12) : Gives Tryz.prog 100 [.raw (.int .u64 m)] (.any (fun _ => True)) := by
  refine fn_of_run tyOk ztOk mix Tryz.func100 rfl (by decide) Tryz.ntmps100 (fun w0 h => ?_)
  repeat' (first
      | (refine j_go ?_; first
        | refine j_op0 rfl rfl rfl rfl ?_)
      | refine j_nil ?_
      | (refine r_go ?_; first | refine run_seq ?_ | refine run_region ?_)
      | refine seqQ_normal ?_)
  refine j_rge rfl rfl rfl rfl rfl rfl ?_
  repeat' (first
      | (refine j_go ?_; first
        | refine j_op0 rfl rfl rfl rfl ?_)
      | refine j_nil ?_
      | (refine r_go ?_; first | refine run_seq ?_ | refine run_region ?_ | (refine (run_if rfl (fun hb => ?_) (fun hb => ?_)) <;> first | (exfalso; omega) | skip) | refine run_skip ?_)
      | refine seqQ_normal ?_)
  refine j_rge rfl rfl rfl rfl rfl rfl ?_
  repeat' (first
      | (refine j_go ?_; first
        | refine j_op0 rfl rfl rfl rfl ?_)
      | refine j_nil ?_
      | (refine r_go ?_; first | refine run_seq ?_ | refine run_region ?_ | (refine (run_if rfl (fun hb => ?_) (fun hb => ?_)) <;> first | (exfalso; omega) | skip) | refine run_skip ?_)
      | refine seqQ_normal ?_)
  refine j_rge rfl rfl rfl rfl rfl rfl ?_
  repeat' (first
      | (refine j_go ?_; first
        | refine j_op0 rfl rfl rfl rfl ?_)
      | refine j_nil ?_
      | (refine r_go ?_; first | refine run_seq ?_ | refine run_region ?_ | (refine (run_if rfl (fun hb => ?_) (fun hb => ?_)) <;> first | (exfalso; omega) | skip) | refine run_skip ?_)
      | refine seqQ_normal ?_)
  refine j_convR rfl rfl rfl rfl rfl (by omega) rfl rfl ?_
  refine j_siu rfl rfl rfl rfl ?_ rfl rfl (fun cc hlt => ?_)
  · rw [UInt8.toNat_ofNat_of_lt' (by simp; omega)]
    exact Nat.lt_of_le_of_lt (by omega : m.toNat ≤ 12) (by decide +kernel)
  repeat' (first
      | (refine j_go ?_; first
        | refine j_op0 rfl rfl rfl rfl ?_ | (refine j_kBin rfl ?_; first | refine j_in rfl rfl ⟨by omega, by omega⟩ rfl rfl ?_))
      | refine j_nil ?_
      | (refine r_go ?_; first | refine run_ret ?_)
      | refine seqQ_normal ?_)
  exact end_le (List.Sublist.refl _) (vs := [_]) (.cons (.tmp rfl) .nil) (le_any _) (.inl rfl)

theorem c_bitsLen (m : Int) (h0 : 0 ≤ m ∧ m ≤ 12) : Gives Tryz.prog 89 [.raw (.int .u64 m)] (.any (fun _ => True)) := by
  refine fn_of_run tyOk ztOk mix Tryz.func89 rfl (by decide) Tryz.ntmps89 (fun w0 h => ?_)
  repeat' (first
      | (refine j_go ?_; first
        | refine j_op0 rfl rfl rfl rfl ?_ | (refine j_kCall rfl rfl rfl rfl ?_; first | refine jc (c_bitsLen64 _ h0) (LeL.refl _) rfl rfl ?_))
      | refine j_nil ?_
      | (refine r_go ?_; first | refine run_seq ?_ | refine run_region ?_ | refine run_cond_f rfl ?_ | refine run_ret ?_ | refine run_skip ?_)
      | refine seqQ_normal ?_)
  exact end1 rfl (List.Sublist.refl _) (rfl) (.inl rfl)

/-- The first i numbers do not fall, but that the one at j may be too far to the right. -/
def Srt (l : List Int) (i j : Nat) : Prop := ∀ p q (h : q < l.length), q < i → (hpq : p < q) → q ≠ j → l[p]'(by omega) ≤ l[q]
theorem srt_in {l : List Int} {i j : Nat} (h : Srt l i j) (hj : i ≤ j) : Srt l (i + 1) i := fun p q hq hi hpq hne => h p q hq (by omega) hpq (by omega)
theorem srt_out {l : List Int} {i j k : Nat} (h : Srt l i j) (hj : j = 0 ∨ ∃ (a : j < l.length) (b : j - 1 < l.length), 0 < j ∧ ¬ l[j] < l[j-1]) : Srt l i k := fun p q hq hi hpq _ => by
  by_cases e : q = j
  · subst e
    rcases hj with hj | ⟨a, b, h0, hj⟩
    · omega
    · by_cases e2 : p = q - 1
      · subst e2; omega
      · have := h p (q - 1) b (by omega) (by omega) (by omega); omega
  · exact h p q hq hi hpq e
theorem srt_swap {l : List Int} {i j m : Nat} (h : Srt l i j) (hj : j < l.length) (hm : m < l.length) (e : j = m + 1) (hlt : l[j] < l[m]) : Srt ((l.set j l[m]).set m l[j]) i m := fun p q hq hi hpq hne => by
  have hq2 : q < l.length := by simpa only [List.length_set] using hq
  subst e
  simp only [List.getElem_set]
  by_cases c1 : q = m + 1
  · subst c1
    by_cases c2 : p = m
    · subst c2
      simp only [if_pos, if_neg (show ¬ p = p + 1 by omega)]
      omega
    · have h1 := h p m hm (by omega) (by omega) (by omega)
      simp only [if_pos, if_neg (show ¬ m = m + 1 by omega), if_neg (show ¬ m = p by omega), if_neg (show ¬ m + 1 = p by omega)]
      exact h1
  · simp only [if_neg (show ¬ m = q by omega), if_neg (show ¬ m + 1 = q by omega)]
    by_cases c2 : p = m
    · subst c2
      simp only [if_pos]
      exact h (p + 1) q hq2 hi (by omega) c1
    · by_cases c3 : p = m + 1
      · subst c3
        simp only [if_pos, if_neg (show ¬ m = m + 1 by omega)]
        exact h m q hq2 hi (by omega) c1
      · simp only [if_neg (show ¬ m = p by omega), if_neg (show ¬ m + 1 = p by omega)]
        exact h p q hq2 hi hpq c1
def Sorted (l : List Int) : Prop := Srt l l.length l.length
/-- The list with the same elements that does not fall. -/
def PermR (ob : Option Nat) (cap : Nat) (L : List Int) : A → Heap → Prop := fun v h1 => v = .tup [] ∧ ∃ L' : List Int, (L'.Perm L ∧ Sorted L') ∧ h1 = [⟨ob, 2, cap * 1, (L'.map encI).flatten⟩]

theorem c_insSort (ob : Option Nat) (cap : Nat) (L : List Int) (hn : L.length ≤ 12) : Does Tryz.prog 90 [.os ob L.length cap, .int 0, .int L.length] [⟨ob, 2, cap * 1, (L.map encI).flatten⟩] (PermR ob cap L) := by
  refine fn_of_runD tyOk ztOk mix Tryz.func90 rfl (by decide) Tryz.ntmps90 (fun w0 F => ?_)
  repeat' (first
      | (refine j_go ?_; first
        | refine j_op0 rfl rfl rfl rfl ?_ | (refine j_kBin rfl ?_; first | refine j_in rfl rfl ⟨by omega, by omega⟩ rfl rfl ?_))
      | refine j_nil ?_
      | (refine r_go ?_; first | refine run_seq ?_ | refine run_region ?_ | refine run_block ?_)
      | refine seqQ_normal ?_)
  refine run_loop (fun x : Nat × List Int => [(0, .os ob L.length cap), (1, .int 0), (2, .int L.length), (6, .int (x.1 : Int))]) (fun x => ⟨ob, 2, cap * 1, (x.2.map encI).flatten⟩ :: F) (fun x => x.2.Perm L ∧ (1 ≤ x.1 ∧ x.1 ≤ L.length + 1) ∧ Srt x.2 x.1 x.1) (fun x => L.length + 1 - x.1) (1, L) ⟨rfl, rfl, rfl, rfl, trivial⟩ rfl ⟨List.Perm.refl _, by dsimp only; omega, fun p q _ h1 h2 _ => absurd (show q < 1 from h1) (by omega)⟩ (fun ⟨i, l⟩ ⟨hp, hi, hs⟩ => ?_)
  dsimp only at hp hi hs ⊢
  by_cases hil : i < L.length
  · repeat' (first
      | (refine j_go ?_; first
        | refine j_op0 rfl rfl rfl rfl ?_)
      | refine j_nil ?_
      | (refine r_go ?_; first | refine run_seq ?_ | refine run_region ?_ | (refine (run_if rfl (fun hb => ?_) (fun hb => ?_)) <;> first | (exfalso; omega) | skip) | refine run_block ?_ | refine run_skip ?_)
      | refine seqQ_normal ?_)
    refine run_loop (fun y : Nat × List Int => [(0, .os ob L.length cap), (1, .int 0), (2, .int L.length), (6, .int (i : Int)), (7, .int (y.1 : Int))]) (fun y => ⟨ob, 2, cap * 1, (y.2.map encI).flatten⟩ :: F) (fun y => y.2.Perm L ∧ y.1 ≤ i ∧ Srt y.2 (i + 1) y.1) (fun y => y.1) (i, l) ⟨rfl, rfl, rfl, rfl, rfl, trivial⟩ rfl ⟨hp, Nat.le_refl _, srt_in hs (Nat.le_refl _)⟩ (fun ⟨j, l2⟩ ⟨hp2, hj, hs2⟩ => ?_)
    dsimp only at hp2 hj hs2 ⊢
    have hll := hp2.length_eq
    by_cases hj0 : 0 < j
    · have hne : (l2.map encI).flatten ≠ [] := fun q => by
        have h3 : ((l2.map encI).flatten).length = 0 := by rw [q]; rfl
        rw [flat_len (f := encI) (z := 1) (fun _ => rfl)] at h3
        omega
      refine run_some 0 rfl hne (fun b2 hb2 => ?_)
      subst hb2
      have hjj : j < l2.length := by omega
      have hjm : ((j : Int) - 1).toNat < l2.length := by omega
      have ejm : ((j : Int) - 1).toNat = j - 1 := by omega
      repeat' (first
      | (refine j_go ?_; first
        | refine j_op0 rfl rfl rfl rfl ?_ | (refine j_kIdx rfl ?_; first | refine j_midx rfl rfl rfl rfl rfl (by first | omega | (simp only [List.length_append, List.length_cons, List.length_nil]; omega)) rfl rfl ?_) | (refine j_kGuard rfl ?_; first | (refine (j_if rfl rfl rfl (fun hb => ?_) (fun hb => ?_)) <;> first | (exfalso; omega) | skip)))
      | (refine r_go ?_; first | refine run_seq ?_ | refine run_regionD (by kernel_rfl) ?_))
      refine j_mloadE 0 j (g := encI) (L := l2) (z := 1) rfl rfl rfl rfl (fun _ => rfl) rfl hjj (fun _ => rfl) rfl rfl ?_
      repeat' (first
      | (refine j_go ?_; first
        | refine j_op0 rfl rfl rfl rfl ?_ | (refine j_kIdx rfl ?_; first | refine j_midxz rfl rfl rfl rfl rfl (by first | omega | (simp only [List.length_append, List.length_cons, List.length_nil]; omega)) rfl rfl ?_) | (refine j_kBin rfl ?_; first | refine j_in rfl rfl ⟨by omega, by omega⟩ rfl rfl ?_)))
      refine j_mloadE 0 ((j : Int) - 1).toNat (g := encI) (L := l2) (z := 1) rfl rfl rfl rfl (fun _ => rfl) rfl hjm (fun _ => rfl) rfl rfl ?_
      repeat' (first
      | (refine j_go ?_; first
        | refine j_op0 rfl rfl rfl rfl ?_ | (refine j_kBin rfl ?_; first | refine j_in rfl rfl ⟨by omega, by omega⟩ rfl rfl ?_) | (refine j_kCall rfl rfl rfl rfl ?_; first | refine jc (c_cmpLess2 _ _) (LeL.refl _) rfl rfl ?_))
      | refine j_nil ?_
      | (refine j_goO ?_; first
        | refine j_op0O rfl rfl rfl rfl ?_ | (refine j_kIdxO rfl ?_; first | refine j_midxzO rfl rfl rfl rfl rfl (by first | omega | (simp only [List.length_append, List.length_cons, List.length_nil]; omega)) rfl rfl ?_) | (refine j_kBinO rfl ?_; first | refine j_inO rfl rfl ⟨by omega, by omega⟩ rfl rfl ?_))
      | (refine r_go ?_; first | refine run_seq ?_ | refine run_region ?_ | (refine (run_if rfl (fun hb => ?_) (fun hb => ?_)) <;> first | (exfalso; omega) | skip) | refine run_block ?_ | refine run_exit ?_ | refine run_skip ?_ | refine run_opn 6 [⟨0, true, false, false⟩, ⟨1, true, false, false⟩, ⟨2, false, false, false⟩, ⟨3, false, false, false⟩, ⟨4, false, false, false⟩, ⟨5, true, false, false⟩, ⟨6, true, false, false⟩, ⟨7, true, false, false⟩, ⟨8, true, false, false⟩, ⟨9, true, false, false⟩, ⟨10, true, false, false⟩, ⟨11, true, false, false⟩, ⟨12, true, false, false⟩, ⟨13, true, false, false⟩, ⟨14, true, false, false⟩, ⟨15, false, true, false⟩, ⟨16, true, false, false⟩, ⟨17, false, true, false⟩] rfl rfl (by kernel_rfl) ?_)
      | refine seqQ_normal ?_ | refine seqQ_exit ?_ | refine blockQ_normal ?_ | refine blockQ_eq ?_ | refine loopQ_exit ?_)
      · refine j_mloadEO 0 ((j : Int) - 1).toNat (g := encI) (L := l2) (z := 1) rfl rfl rfl rfl rfl (fun _ => rfl) rfl hjm (fun _ => rfl) rfl rfl ?_
        repeat' (first
      | (refine j_goO ?_; first
        | refine j_op0O rfl rfl rfl rfl ?_ | (refine j_kIdxO rfl ?_; first | refine j_midxO rfl rfl rfl rfl rfl (by first | omega | (simp only [List.length_append, List.length_cons, List.length_nil]; omega)) rfl rfl ?_)))
        refine j_mloadEO 0 j (g := encI) (L := l2) (z := 1) rfl rfl rfl rfl rfl (fun _ => rfl) rfl hjj (fun _ => rfl) rfl rfl ?_
        repeat' (first
      | (refine j_goO ?_; first
        | (refine j_kIdxO rfl ?_; first | refine j_midxO rfl rfl rfl rfl rfl (by first | omega | (simp only [List.length_append, List.length_cons, List.length_nil]; omega)) rfl rfl ?_)))
        refine j_storeEO 0 j (g := encI) l2[((j : Int) - 1).toNat] rfl rfl rfl rfl rfl rfl rfl rfl rfl rfl (fun _ => rfl) rfl hjj (fun _ hk => nomatch hk) ?_
        repeat' (first
      | (refine j_goO ?_; first
        | (refine j_kIdxO rfl ?_; first | refine j_midxzO rfl rfl rfl rfl rfl (by first | omega | (simp only [List.length_append, List.length_cons, List.length_nil]; omega)) rfl rfl ?_)))
        refine j_storeEO 0 ((j : Int) - 1).toNat (g := encI) l2[j] rfl rfl rfl rfl rfl rfl rfl rfl rfl rfl (fun _ => rfl) rfl (by rw [List.length_set]; exact hjm) (fun _ hk => nomatch hk) ?_
        repeat' (first
      | (refine j_go ?_; first
        | refine j_op0 rfl rfl rfl rfl ?_ | (refine j_kBin rfl ?_; first | refine j_in rfl rfl ⟨by omega, by omega⟩ rfl rfl ?_))
      | refine j_nil ?_
      | refine j_nilO ?_
      | (refine r_go ?_; first | refine run_region ?_)
      | refine seqQ_normal ?_ | refine blockQ_normal ?_)
        exact loopQ_nextD (j - 1, (l2.set j l2[((j : Int) - 1).toNat]).set ((j : Int) - 1).toNat l2[j]) ⟨(List.set_set_perm hjj hjm).trans hp2, by dsimp only; omega, by dsimp only; rw [← ejm]; exact srt_swap hs2 hjj hjm (by omega) (by assumption)⟩ (by dsimp only; omega) (List.Sublist.refl _) ⟨rfl, rfl, rfl, rfl, si (by dsimp only; omega), trivial⟩
      · exact loopQ_nextD (i + 1, l2) ⟨hp2, by dsimp only; omega, srt_out hs2 (.inr ⟨hjj, ejm ▸ hjm, hj0, by simp only [ejm] at hb; exact hb⟩)⟩ (by dsimp only; omega) (List.Sublist.refl _) ⟨rfl, rfl, rfl, nx _, trivial⟩
    · repeat' (first
      | (refine j_go ?_; first
        | refine j_op0 rfl rfl rfl rfl ?_ | refine j_off rfl rfl rfl ?_ | (refine j_kBin rfl ?_; first | refine j_in rfl rfl ⟨by omega, by omega⟩ rfl rfl ?_) | (refine j_kGuard rfl ?_; first | (refine (j_if rfl rfl rfl (fun hb => ?_) (fun hb => ?_)) <;> first | (exfalso; omega) | skip)))
      | refine j_nil ?_
      | (refine r_go ?_; first | refine run_seq ?_ | refine run_region ?_ | refine run_cond_f rfl ?_ | refine run_exit ?_ | refine run_regionD (by kernel_rfl) ?_)
      | refine seqQ_normal ?_ | refine seqQ_exit ?_ | refine blockQ_normal ?_ | refine blockQ_eq ?_ | refine loopQ_exit ?_)
      exact loopQ_nextD (i + 1, l2) ⟨hp2, by dsimp only; omega, srt_out hs2 (.inl (by omega))⟩ (by dsimp only; omega) (List.Sublist.refl _) ⟨rfl, rfl, rfl, nx _, trivial⟩
  · repeat' (first
      | (refine j_go ?_; first
        | refine j_op0 rfl rfl rfl rfl ?_)
      | refine j_nil ?_
      | (refine r_go ?_; first | refine run_seq ?_ | refine run_region ?_ | (refine (run_if rfl (fun hb => ?_) (fun hb => ?_)) <;> first | (exfalso; omega) | skip) | refine run_exit ?_)
      | refine seqQ_normal ?_ | refine seqQ_exit ?_ | refine blockQ_eq ?_ | refine loopQ_exit ?_)
    exact endD_ret (h1 := [⟨ob, 2, cap * 1, (l.map encI).flatten⟩]) rfl (vs := []) .nil (Le.refl _) ⟨rfl, _, ⟨hp, by have := hp.length_eq; exact fun p q h1 h2 h3 h4 => hs p q h1 (by omega) h3 (by omega)⟩, rfl⟩ (.inr rfl)

theorem c_pdq (ob : Option Nat) (cap : Nat) (L : List Int) (hn : L.length ≤ 12) : Does Tryz.prog 88 [.os ob L.length cap, .int 0, .int L.length, .any (fun _ => True)] [⟨ob, 2, cap * 1, (L.map encI).flatten⟩] (PermR ob cap L) := by
  refine fn_of_runD tyOk ztOk mix Tryz.func88 rfl (by decide) Tryz.ntmps88 (fun w0 F => ?_)
  repeat' (first
      | (refine j_go ?_; first
        | refine j_op0 rfl rfl rfl rfl ?_)
      | refine j_nil ?_
      | (refine r_go ?_; first | refine run_seq ?_ | refine run_region ?_ | refine run_block ?_)
      | refine seqQ_normal ?_)
  refine run_loop (fun _ : Unit => [(0, .os ob L.length cap), (1, .int 0), (2, .int L.length), (3, .any (fun _ => True)), (8, .raw (.bool true)), (9, .raw (.bool true))]) (fun _ => ⟨ob, 2, cap * 1, (L.map encI).flatten⟩ :: F) (fun _ => True) (fun _ => 0) () ⟨rfl, rfl, rfl, rfl, rfl, rfl, trivial⟩ rfl trivial (fun _ _ => ?_)
  repeat' (first
      | (refine j_go ?_; first
        | refine j_op0 rfl rfl rfl rfl ?_ | (refine j_kBin rfl ?_; first | refine j_in rfl rfl ⟨by omega, by omega⟩ rfl rfl ?_))
      | refine j_nil ?_
      | (refine r_go ?_; first | refine run_seq ?_ | refine run_region ?_ | (refine (run_if rfl (fun hb => ?_) (fun hb => ?_)) <;> first | (exfalso; omega) | skip) | refine run_block ?_)
      | refine seqQ_normal ?_)
  refine j_kCall rfl rfl rfl rfl ?_
  refine jcd 0 1 (c_insSort ob cap L hn) rfl (LeL.refl _) rfl rfl (fun v h1 hR => ?_)
  obtain ⟨_, L', hp, rfl⟩ := hR
  repeat' (first
      | refine j_nil ?_
      | (refine r_go ?_; first | refine run_ret ?_)
      | refine seqQ_normal ?_ | refine seqQ_ret ?_ | refine blockQ_ret ?_ | refine loopQ_ret ?_)
  exact endD_ret (h1 := [⟨ob, 2, cap * 1, (L'.map encI).flatten⟩]) rfl (vs := []) .nil (Le.refl _) ⟨rfl, L', hp, rfl⟩ (.inl rfl)
theorem c_slSort (ob : Option Nat) (cap : Nat) (L : List Int) (hn : L.length ≤ 12) : Does Tryz.prog 84 [.os ob L.length cap] [⟨ob, 2, cap * 1, (L.map encI).flatten⟩] (PermR ob cap L) := by
  refine fn_of_runD tyOk ztOk mix Tryz.func84 rfl (by decide) Tryz.ntmps84 (fun w0 F => ?_)
  repeat' (first
      | (refine j_go ?_; first
        | refine j_op0 rfl rfl rfl rfl ?_ | (refine j_kLen rfl ?_; first | refine j_op rfl rfl rfl rfl ?_) | (refine j_kCall rfl rfl rfl rfl ?_; first | refine jc (c_bitsLen _ ⟨by omega, by omega⟩) (LeL.refl _) rfl rfl ?_) | refine j_conv rfl rfl rfl rfl rfl (wrap_u64 (by omega) (by omega)) rfl rfl ?_)
      | refine j_nil ?_
      | (refine r_go ?_; first | refine run_seq ?_ | refine run_region ?_)
      | refine seqQ_normal ?_)
  refine j_kCall rfl rfl rfl rfl ?_
  refine jcd 0 1 (c_pdq ob cap L hn) rfl (LeL.refl _) rfl rfl (fun v h1 hR => ?_)
  obtain ⟨_, L', hp, rfl⟩ := hR
  repeat' (first
      | refine j_nil ?_)
  exact endD_ret (h1 := [⟨ob, 2, cap * 1, (L'.map encI).flatten⟩]) rfl (vs := []) .nil (Le.refl _) ⟨rfl, L', hp, rfl⟩ (.inr rfl)

end Go.Proofs.YtbcplkmkdggpjaaGreat

/-
  The possible parents of a cell: what the reference and the program compute. No condition.
-/
namespace Go.Proofs.YtbcplkmkdggpjaaGreat
open Go.AI
set_option maxRecDepth 8000
set_option maxHeartbeats 1600000

/-- A cell has a rule that melts it. -/
def Melts (s : System) (c : Int) : Prop := ∃ r ∈ s.rules, r.cell = c ∧ r.melts = true
theorem bool_dec {p : Prop} {b : Bool} (h : p) : b = dec (p ∧ b = true) := by
  cases b
  · rw [dec_f (fun q => by cases q.2)]
  · rw [dec_t ⟨h, rfl⟩]

theorem c_canMelt1 (r : Rule) (c : Int) : Gives Tryz.prog 83 [.agg (encRule r), .ip [.int c]] (.raw (.bool (dec (r.cell = c ∧ r.melts = true)))) := by
  refine fn_of_run tyOk ztOk mix Tryz.func83 rfl (by decide) Tryz.ntmps83 (fun w0 h => ?_)
  repeat' (first
      | (refine j_go ?_; first
        | refine j_op0 rfl rfl rfl rfl ?_ | refine j_off rfl rfl rfl ?_ | (refine j_kGuard rfl ?_; first | (refine (j_if rfl rfl rfl (fun hb => ?_) (fun hb => ?_)) <;> first | (exfalso; omega) | skip)) | refine j_box rfl rfl rfl rfl rfl rfl ?_)
      | refine j_nil ?_
      | (refine r_go ?_; first | refine run_seq ?_ | refine run_region ?_ | refine run_ret ?_)
      | refine seqQ_normal ?_)
  · exact end1 rfl (List.Sublist.refl _) (rb (bool_dec hb)) (.inl rfl)
  · exact end1 rfl (by first | exact List.Sublist.refl _ | exact sub1 | exact sub2 | exact sub3) (rbF (fun q => hb q.1)) (.inl rfl)
theorem c_canMelt (s : System) (c : Int) : Gives Tryz.prog 66 [.agg (encSystem s), .int c] (.raw (.bool (dec (Melts s c)))) := by
  refine fn_of_run tyOk ztOk mix Tryz.func66 rfl (by decide) Tryz.ntmps66 (fun w0 h => ?_)
  repeat' (first
      | (refine j_go ?_; first
        | refine j_op0 rfl rfl rfl rfl ?_ | (refine j_kCall rfl rfl rfl rfl ?_; first | refine jc (c_cfR _ _ (fun r => r.cell = c ∧ r.melts = true) _ (fun r _ => c_canMelt1 r c)) (LeL.refl _) rfl rfl ?_) | refine j_box rfl rfl rfl rfl rfl rfl ?_)
      | refine j_nil ?_
      | (refine r_go ?_; first | refine run_seq ?_ | refine run_region ?_ | refine run_ret ?_)
      | refine seqQ_normal ?_)
  exact end1 rfl (List.Sublist.refl _) (rfl) (.inl rfl)
theorem c_l04Melts (s : System) (c : Int) (h16 : s.rules.length ≤ 16) : Gives Tryz.prog 37 [.ip (encSystem s), .int c] (.raw (.bool (dec (Melts s c)))) := by
  refine fn_of_run tyOk ztOk mix Tryz.func37 rfl (by decide) Tryz.ntmps37 (fun w0 h => ?_)
  repeat' (first
      | (refine j_go ?_; first
        | refine j_op0 rfl rfl rfl rfl ?_)
      | refine j_nil ?_
      | (refine r_go ?_; first | refine run_seq ?_ | refine run_region ?_ | refine run_block ?_)
      | refine seqQ_normal ?_)
  refine run_loop (fun k : Nat => [(0, .ip (encSystem s)), (1, .int c), (5, .int (k : Int))]) (fun _ => _) (fun k => k ≤ s.rules.length ∧ (∀ i (h : i < s.rules.length), i < k → ¬ (s.rules[i].cell = c ∧ s.rules[i].melts = true))) (fun k => s.rules.length - k) 0 ⟨rfl, rfl, rfl, trivial⟩ rfl ⟨Nat.zero_le _, by first | (intros; omega) | (simp; done) | rfl | trivial | exact ⟨by simp [sumF], by intros; omega⟩ | exact ⟨by omega, by simp⟩⟩ (fun k ⟨kl, kp⟩ => ?_)
  repeat' (first
      | (refine j_go ?_; first
        | refine j_op0 rfl rfl rfl rfl ?_ | refine j_off rfl rfl rfl ?_ | (refine j_kIdx rfl ?_; first | refine j_idx rfl rfl rfl rfl rfl (by omega) rfl rfl rfl ?_) | (refine j_kBin rfl ?_; first | refine j_in rfl rfl ⟨by omega, by omega⟩ rfl rfl ?_) | (refine j_kLen rfl ?_; first | refine j_len rfl rfl rfl rfl rfl rfl ?_) | (refine j_kGuard rfl ?_; first | (refine (j_if rfl rfl rfl (fun hb => ?_) (fun hb => ?_)) <;> first | (exfalso; omega) | skip)))
      | refine j_nil ?_
      | (refine r_go ?_; first | refine run_seq ?_ | refine run_region ?_ | refine run_cond_f rfl ?_ | (refine (run_if rfl (fun hb => ?_) (fun hb => ?_)) <;> first | (exfalso; omega) | skip) | refine run_block ?_ | refine run_ret ?_ | refine run_exit ?_ | refine run_skip ?_ | refine run_cond rfl (fun hb => ?_) (fun hb => ?_))
      | refine seqQ_normal ?_ | refine seqQ_ret ?_ | refine seqQ_exit ?_ | refine blockQ_normal ?_ | refine blockQ_ret ?_ | refine blockQ_eq ?_ | refine loopQ_ret ?_ | refine loopQ_exit ?_)
  all_goals first
    | exact loopQ_nextD (k + 1) ⟨by omega, all_step kp (fun _ q => by first | exact absurd q.1 (by assumption) | (have := q.2; simp_all))⟩ (by omega) (by first | exact List.Sublist.refl _ | exact sub1 | exact sub2 | exact sub3) ⟨rfl, rfl, nx _, trivial⟩
    | (refine end1 rfl (by first | exact List.Sublist.refl _ | exact sub1 | exact sub2 | exact sub3) ?_ (.inl rfl); first | exact rbT ⟨_, List.getElem_mem _, by assumption, by assumption⟩ | exact rbF (fun ⟨r, hr, q⟩ => by obtain ⟨i, hi, rfl⟩ := List.getElem_of_mem hr; exact kp i hi (by omega) q))
    | trace_state

open Classical in
/-- The cells that can be around a cell, from p on. -/
noncomputable def chainF (s : System) : Nat → Int → List Int
  | 0, _ => []
  | n + 1, p => if 0 ≤ p then p :: (if Melts s p then chainF s n (s.parents.getD p.toNat (-1)) else []) else []
noncomputable def pars (s : System) (c : Int) : List Int := chainF s 7 (s.parents.getD c.toNat (-1))
theorem chainF_len (s : System) : ∀ (n : Nat) (p : Int), (chainF s n p).length ≤ n
  | 0, _ => Nat.le_refl _
  | n + 1, p => by
    unfold chainF
    split
    · split
      · have := chainF_len s n (s.parents.getD p.toNat (-1)); simp only [List.length_cons]; omega
      · simp
    · simp
theorem chainF_neg {s : System} {n : Nat} {p : Int} (h : ¬ 0 ≤ p) : chainF s n p = [] := by
  cases n with
  | zero => rfl
  | succ n => unfold chainF; rw [if_neg h]
theorem chainF_go {s : System} {n : Nat} {p : Int} (h : 0 ≤ p) (hm : Melts s p) (hl : p.toNat < s.parents.length) : chainF s (n + 1) p = p :: chainF s n s.parents[p.toNat] := by
  rw [chainF, if_pos h, if_pos hm, getD_get hl]
theorem chainF_stop {s : System} {n : Nat} {p : Int} (h : 0 ≤ p) (hm : ¬ Melts s p) : chainF s (n + 1) p = [p] := by
  rw [chainF, if_pos h, if_neg hm]
theorem chainF_mem {s : System} (hf : s.Frame) : ∀ (n : Nat) (p : Int), p ≤ (s.parents.length : Int) - 1 → ∀ x ∈ chainF s n p, 0 ≤ x ∧ x ≤ (s.parents.length : Int) - 1
  | 0, _, _, x, hx => by cases hx
  | n + 1, p, hp, x, hx => by
    unfold chainF at hx
    split at hx
    · rename_i h0
      rcases List.mem_cons.1 hx with rfl | hx
      · exact ⟨h0, hp⟩
      · split at hx
        · have := hf.par h0 hp
          rw [getD_get (by omega)] at hx
          exact chainF_mem hf n _ (by omega) x hx
        · cases hx
    · cases hx
theorem pars_mem {s : System} (hf : s.Frame) {c : Int} (h0 : 0 ≤ c ∧ c ≤ (s.parents.length : Int) - 1) : ∀ x ∈ pars s c, 0 ≤ x ∧ x ≤ (s.parents.length : Int) - 1 := by
  have := hf.par h0.1 h0.2
  unfold pars
  rw [getD_get (by omega)]
  exact chainF_mem hf _ _ (by omega)

theorem c_possPar (s : System) (c : Int) (hv : s.Ok) (h0 : 0 ≤ c ∧ c ≤ (s.parents.length : Int) - 1) : Does Tryz.prog 67 [.agg (encSystem s), .int c] [] (fun v h1 => ∃ L' : List Int, L'.Perm (pars s c) ∧ v = .sl (L'.map encI) ∧ h1 = []) := by
  refine fn_of_runD tyOk ztOk mix Tryz.func67 rfl (by decide) Tryz.ntmps67 (fun w0 F => ?_)
  have hf := hv.1
  have hl := hf.2.1
  have hp0 := hf.par h0.1 h0.2
  have hpl : (pars s c).length ≤ 7 := chainF_len s 7 _
  repeat' (first
      | (refine j_go ?_; first
        | refine j_op0 rfl rfl rfl rfl ?_ | (refine j_kIdx rfl ?_; first | refine j_idxz rfl rfl rfl rfl rfl ⟨by omega, by omega⟩ rfl rfl rfl ?_) | (refine j_kBsl rfl ?_; first | refine j_bs0 rfl rfl rfl rfl rfl rfl ?_) | refine j_box rfl rfl rfl rfl rfl rfl ?_)
      | refine j_nil ?_
      | (refine r_go ?_; first | refine run_seq ?_ | refine run_region ?_ | refine run_block ?_)
      | refine seqQ_normal ?_)
  refine run_view (view_none 2 0 rfl) ?_
  refine run_loop (fun x : Int × List Int × Option Nat × Nat => [(2, .ip (encSystem s)), (5, .os x.2.2.1 x.2.1.length x.2.2.2), (6, .int x.1)]) (fun x => ⟨x.2.2.1, 2, x.2.2.2 * 1, (x.2.1.map encI).flatten⟩ :: F) (fun x => (-1 ≤ x.1 ∧ x.1 ≤ (s.parents.length : Int) - 1) ∧ ∃ n : Nat, x.1 < n ∧ x.2.1 ++ chainF s n x.1 = pars s c) (fun x => (x.1 + 1).toNat) (s.parents[c.toNat]'(by omega), [], none, 0) ⟨rfl, rfl, rfl, trivial⟩ rfl ⟨⟨by dsimp only; omega, by dsimp only; omega⟩, 7, by dsimp only; omega, by unfold pars; rw [getD_get (by omega)]; rfl⟩ (fun ⟨p, l, ob, cp⟩ ⟨pl, n, pn, pe⟩ => ?_)
  dsimp only at pl pn pe ⊢
  have hll : l.length ≤ 7 := by have := congrArg List.length pe; rw [List.length_append] at this; omega
  have fin : ∀ (ob2 : Option Nat) (cp2 : Nat) (l2 : List Int), l2 = pars s c → l2.length ≤ 12 := fun _ _ l2 e => by rw [e]; omega
  by_cases hp : 0 ≤ p
  · obtain ⟨n, rfl⟩ : ∃ m, n = m + 1 := ⟨n - 1, by omega⟩
    have hpp := hf.par hp pl.2
    repeat' (first
      | (refine j_go ?_; first
        | refine j_op0 rfl rfl rfl rfl ?_ | (refine j_kBsl rfl ?_; first | refine j_bsl rfl rfl rfl rfl rfl rfl rfl rfl rfl rfl rfl ?_))
      | refine j_nil ?_
      | (refine r_go ?_; first | refine run_seq ?_ | refine run_region ?_ | (refine (run_if rfl (fun hb => ?_) (fun hb => ?_)) <;> first | (exfalso; omega) | skip) | refine run_block ?_ | refine run_skip ?_)
      | refine seqQ_normal ?_)
    refine j_append 0 (g := encI) [p] rfl rfl rfl rfl rfl rfl rfl rfl rfl rfl rfl rfl (fun _ => rfl) (fun _ _ => rfl) ⟨by simp only [List.length_cons, List.length_nil]; omega, by simp only [List.length_cons, List.length_nil]; omega⟩ rfl rfl (fun b' cap' => ?_)
    repeat' (first
      | (refine j_go ?_; first
        | refine j_op0 rfl rfl rfl rfl ?_ | (refine j_kIdx rfl ?_; first | refine j_idxz rfl rfl rfl rfl rfl ⟨by omega, by omega⟩ rfl rfl rfl ?_) | (refine j_kCall rfl rfl rfl rfl ?_; first | refine jc (c_canMelt _ _) (LeL.refl _) rfl rfl ?_))
      | refine j_nil ?_
      | (refine r_go ?_; first | refine run_seq ?_ | refine run_region ?_ | (refine (run_ifn rfl (fun hb => ?_) (fun hb => ?_)) <;> first | (exfalso; omega) | skip) | refine run_exit ?_ | refine run_skip ?_)
      | refine seqQ_normal ?_ | refine seqQ_exit ?_ | refine blockQ_normal ?_ | refine blockQ_eq ?_ | refine blockQ_ne rfl ?_ | refine loopQ_exit ?_)
    · have e : l ++ [p] = pars s c := by rw [← pe, chainF_stop hp (by assumption)]
      refine j_kCall rfl rfl rfl rfl ?_
      refine jcd 0 1 (c_slSort b' cap' (l ++ [p]) (by rw [e]; omega)) rfl (LeL.refl _) rfl rfl (fun v h1 hR => ?_)
      obtain ⟨_, L', ⟨hq, _⟩, rfl⟩ := hR
      repeat' (first
      | (refine j_go ?_; first
        | refine j_op0 rfl rfl rfl rfl ?_)
      | refine j_nil ?_
      | (refine r_go ?_; first | refine run_seq ?_ | refine run_region ?_ | refine run_ret ?_)
      | refine seqQ_normal ?_)
      refine endD_view (view_freeze (g := encI) (z := 1) (ys := L') 0 4 (by rw [hq.length_eq]; rfl) rfl rfl (fun _ => rfl) rfl rfl) ?_
      exact endD_ret (h1 := []) rfl (vs := [_]) (.cons (.tmp rfl) .nil) (Le.refl _) ⟨L', by rw [← e]; exact hq, rfl, rfl⟩ (.inl rfl)
    · exact loopQ_nextD (s.parents[p.toNat]'(by omega), l ++ [p], b', cap') ⟨⟨by dsimp only; omega, by dsimp only; omega⟩, n, by dsimp only; omega, by dsimp only; rw [← pe, chainF_go hp (by assumption) (by omega), List.append_assoc]; rfl⟩ (by dsimp only; omega) (List.Sublist.refl _) ⟨rfl, rfl, rfl, trivial⟩
  · have e : l = pars s c := by rw [← pe, chainF_neg hp, List.append_nil]
    repeat' (first
      | (refine j_go ?_; first
        | refine j_op0 rfl rfl rfl rfl ?_)
      | refine j_nil ?_
      | (refine r_go ?_; first | refine run_seq ?_ | refine run_region ?_ | (refine (run_if rfl (fun hb => ?_) (fun hb => ?_)) <;> first | (exfalso; omega) | skip) | refine run_exit ?_)
      | refine seqQ_normal ?_ | refine seqQ_exit ?_ | refine blockQ_eq ?_ | refine loopQ_exit ?_)
    refine j_kCall rfl rfl rfl rfl ?_
    refine jcd 0 1 (c_slSort ob cp l (by omega)) rfl (LeL.refl _) rfl rfl (fun v h1 hR => ?_)
    obtain ⟨_, L', ⟨hq, _⟩, rfl⟩ := hR
    repeat' (first
      | (refine j_go ?_; first
        | refine j_op0 rfl rfl rfl rfl ?_)
      | refine j_nil ?_
      | (refine r_go ?_; first | refine run_seq ?_ | refine run_region ?_ | refine run_ret ?_)
      | refine seqQ_normal ?_)
    refine endD_view (view_freeze (g := encI) (z := 1) (ys := L') 0 4 (by rw [hq.length_eq]; rfl) rfl rfl (fun _ => rfl) rfl rfl) ?_
    exact endD_ret (h1 := []) rfl (vs := [_]) (.cons (.tmp rfl) .nil) (Le.refl _) ⟨L', by rw [← e]; exact hq, rfl, rfl⟩ (.inl rfl)

def outP (n : Int) (l : List Int) : Nat → List Int
  | 0 => []
  | k + 1 => n :: l.take (k + 1)
theorem outP_len {n : Int} {l : List Int} {k : Nat} (h : k ≤ l.length) : (outP n l k).length ≤ k + 1 := by
  cases k with
  | zero => simp [outP]
  | succ k => simp only [outP, List.length_cons, List.length_take]; omega

theorem c_l00Put (l : List Int) (n : Int) (hlt : ∀ x ∈ l, n < x) (hn : l.length ≤ 100) : Gives Tryz.prog 56 [.sl (l.map encI), .int n] (.sl ((n :: l).map encI)) := by
  refine fn_of_run tyOk ztOk mix Tryz.func56 rfl (by decide) Tryz.ntmps56 (fun w0 h => ?_)
  repeat' (first
      | (refine j_go ?_; first
        | refine j_op0 rfl rfl rfl rfl ?_ | (refine j_kBsl rfl ?_; first | refine j_bs0 rfl rfl rfl rfl rfl rfl ?_))
      | refine j_nil ?_
      | (refine r_go ?_; first | refine run_seq ?_ | refine run_region ?_ | refine run_block ?_)
      | refine seqQ_normal ?_)
  refine run_view (view_none 2 0 rfl) ?_
  refine run_loop (fun s : Nat × Option Nat × Nat => [(0, .sl (l.map encI)), (1, .int n), (5, .os s.2.1 (outP n l s.1).length s.2.2), (6, .raw (.bool (dec (0 < s.1)))), (7, .int (s.1 : Int))]) (fun s => ⟨s.2.1, 2, s.2.2 * 1, ((outP n l s.1).map encI).flatten⟩ :: h) (fun s => s.1 ≤ l.length) (fun s => l.length - s.1) (0, none, 0) ⟨rfl, rfl, rfl, raw_f (by dsimp only; omega), rfl, trivial⟩ rfl (Nat.zero_le _) (fun ⟨k, ob, cp⟩ kl => ?_)
  dsimp only at kl ⊢
  have ol := outP_len (n := n) kl
  by_cases hk : k < l.length
  · have hx := hlt _ (List.getElem_mem hk)
    by_cases hk0 : k = 0
    · subst hk0
      repeat' (first
      | (refine j_go ?_; first
        | refine j_op0 rfl rfl rfl rfl ?_ | (refine j_kIdx rfl ?_; first | refine j_idx rfl rfl rfl rfl rfl (by omega) rfl rfl rfl ?_) | (refine j_kLen rfl ?_; first | refine j_len rfl rfl rfl rfl rfl rfl ?_) | (refine j_kBsl rfl ?_; first | refine j_bsl rfl rfl rfl rfl rfl rfl rfl rfl rfl rfl rfl ?_) | (refine j_kGuard rfl ?_; first | (refine (j_ifn rfl rfl rfl (fun hb => ?_) (fun hb => ?_)) <;> first | (exfalso; omega) | skip)))
      | refine j_nil ?_
      | (refine r_go ?_; first | refine run_seq ?_ | refine run_region ?_ | (refine (run_if rfl (fun hb => ?_) (fun hb => ?_)) <;> first | (exfalso; omega) | skip) | refine run_block ?_ | refine run_skip ?_)
      | refine seqQ_normal ?_)
      refine j_append 0 (g := encI) [n] rfl rfl rfl rfl rfl rfl rfl rfl rfl rfl rfl rfl (fun _ => rfl) (fun _ _ => rfl) ⟨by simp only [List.length_cons, List.length_nil]; omega, by simp only [List.length_cons, List.length_nil]; omega⟩ rfl rfl (fun b1 cap1 => ?_)
      repeat' (first
      | (refine j_go ?_; first
        | refine j_op0 rfl rfl rfl rfl ?_ | (refine j_kIdx rfl ?_; first | refine j_idx rfl rfl rfl rfl rfl (by omega) rfl rfl rfl ?_) | (refine j_kBsl rfl ?_; first | refine j_bsl rfl rfl rfl rfl rfl rfl rfl rfl rfl rfl rfl ?_))
      | refine j_nil ?_
      | (refine r_go ?_; first | refine run_region ?_)
      | refine seqQ_normal ?_)
      refine j_append 0 (g := encI) [l[0]] rfl rfl rfl rfl rfl rfl rfl rfl rfl rfl rfl rfl (fun _ => rfl) (fun _ _ => rfl) ⟨by simp only [outP, List.length_cons, List.length_nil, List.length_append]; omega, by simp only [outP, List.length_cons, List.length_nil, List.length_append]; omega⟩ rfl rfl (fun b' cap' => ?_)
      have e : outP n l 0 ++ [n] ++ [l[0]] = outP n l (0 + 1) := by
        simp only [outP]; rw [List.take_succ_eq_append_getElem hk]; rfl
      rw [e]
      repeat' (first
      | (refine j_go ?_; first
        | refine j_op0 rfl rfl rfl rfl ?_ | (refine j_kBin rfl ?_; first | refine j_in rfl rfl ⟨by omega, by omega⟩ rfl rfl ?_))
      | refine j_nil ?_
      | (refine r_go ?_; first | refine run_region ?_)
      | refine seqQ_normal ?_ | refine blockQ_normal ?_)
      exact loopQ_next (0 + 1, b', cap') (by dsimp only; omega) (by dsimp only; omega) rfl ⟨rfl, rfl, rfl, raw_t (by dsimp only; omega), nx _, trivial⟩
    · repeat' (first
      | (refine j_go ?_; first
        | refine j_op0 rfl rfl rfl rfl ?_ | refine j_off rfl rfl rfl ?_ | (refine j_kIdx rfl ?_; first | refine j_idx rfl rfl rfl rfl rfl (by omega) rfl rfl rfl ?_) | (refine j_kLen rfl ?_; first | refine j_len rfl rfl rfl rfl rfl rfl ?_) | (refine j_kBsl rfl ?_; first | refine j_bsl rfl rfl rfl rfl rfl rfl rfl rfl rfl rfl rfl ?_) | (refine j_kGuard rfl ?_; first | (refine (j_ifn rfl rfl rfl (fun hb => ?_) (fun hb => ?_)) <;> first | (exfalso; omega) | skip)))
      | refine j_nil ?_
      | (refine r_go ?_; first | refine run_seq ?_ | refine run_region ?_ | refine run_cond_f rfl ?_ | (refine (run_if rfl (fun hb => ?_) (fun hb => ?_)) <;> first | (exfalso; omega) | skip) | refine run_block ?_ | refine run_skip ?_)
      | refine seqQ_normal ?_)
      refine j_append 0 (g := encI) [l[k]] rfl rfl rfl rfl rfl rfl rfl rfl rfl rfl rfl rfl (fun _ => rfl) (fun _ _ => rfl) ⟨by simp only [List.length_cons, List.length_nil]; omega, by simp only [List.length_cons, List.length_nil]; omega⟩ rfl rfl (fun b' cap' => ?_)
      have e : outP n l k ++ [l[k]] = outP n l (k + 1) := by
        cases k with
        | zero => exact absurd rfl hk0
        | succ k => simp only [outP]; rw [List.take_succ_eq_append_getElem hk]; rfl
      rw [e]
      repeat' (first
      | (refine j_go ?_; first
        | refine j_op0 rfl rfl rfl rfl ?_ | (refine j_kBin rfl ?_; first | refine j_in rfl rfl ⟨by omega, by omega⟩ rfl rfl ?_))
      | refine j_nil ?_
      | (refine r_go ?_; first | refine run_region ?_)
      | refine seqQ_normal ?_ | refine blockQ_normal ?_)
      exact loopQ_next (k + 1, b', cap') (by dsimp only; omega) (by dsimp only; omega) rfl ⟨rfl, rfl, rfl, raw_d ⟨fun _ => by dsimp only; omega, fun _ => by omega⟩, nx _, trivial⟩
  · have hke : k = l.length := by omega
    by_cases hk0 : k = 0
    · have hl0 : l = [] := List.eq_nil_of_length_eq_zero (by omega)
      subst hk0
      repeat' (first
      | (refine j_go ?_; first
        | refine j_op0 rfl rfl rfl rfl ?_ | (refine j_kLen rfl ?_; first | refine j_len rfl rfl rfl rfl rfl rfl ?_) | (refine j_kBsl rfl ?_; first | refine j_bsl rfl rfl rfl rfl rfl rfl rfl rfl rfl rfl rfl ?_))
      | refine j_nil ?_
      | (refine r_go ?_; first | refine run_seq ?_ | refine run_region ?_ | (refine (run_if rfl (fun hb => ?_) (fun hb => ?_)) <;> first | (exfalso; omega) | skip) | (refine (run_ifn rfl (fun hb => ?_) (fun hb => ?_)) <;> first | (exfalso; omega) | skip) | refine run_exit ?_)
      | refine seqQ_normal ?_ | refine seqQ_exit ?_ | refine blockQ_eq ?_ | refine loopQ_exit ?_)
      refine j_append 0 (g := encI) [n] rfl rfl rfl rfl rfl rfl rfl rfl rfl rfl rfl rfl (fun _ => rfl) (fun _ _ => rfl) ⟨by simp only [List.length_cons, List.length_nil]; omega, by simp only [List.length_cons, List.length_nil]; omega⟩ rfl rfl (fun b1 cap1 => ?_)
      repeat' (first
      | (refine j_go ?_; first
        | refine j_op0 rfl rfl rfl rfl ?_)
      | refine j_nil ?_
      | (refine r_go ?_; first | refine run_seq ?_ | refine run_region ?_ | refine run_ret ?_)
      | refine seqQ_normal ?_)
      refine end_view (view_freeze (g := encI) (z := 1) (ys := outP n l 0 ++ [n]) 0 4 rfl rfl rfl (fun _ => rfl) rfl rfl) ?_
      exact end1 rfl (List.Sublist.refl _) (by rw [hl0]; rfl) (.inl rfl)
    · repeat' (first
      | (refine j_go ?_; first
        | refine j_op0 rfl rfl rfl rfl ?_ | (refine j_kLen rfl ?_; first | refine j_len rfl rfl rfl rfl rfl rfl ?_))
      | refine j_nil ?_
      | (refine r_go ?_; first | refine run_seq ?_ | refine run_region ?_ | (refine (run_if rfl (fun hb => ?_) (fun hb => ?_)) <;> first | (exfalso; omega) | skip) | (refine (run_ifn rfl (fun hb => ?_) (fun hb => ?_)) <;> first | (exfalso; omega) | skip) | refine run_ret ?_ | refine run_exit ?_ | refine run_skip ?_)
      | refine seqQ_normal ?_ | refine seqQ_exit ?_ | refine blockQ_eq ?_ | refine loopQ_exit ?_)
      refine end_view (view_freeze (g := encI) (z := 1) (ys := outP n l k) 0 4 rfl rfl rfl (fun _ => rfl) rfl rfl) ?_
      have e : outP n l k = n :: l := by
        cases k with
        | zero => exact absurd rfl hk0
        | succ k => simp only [outP]; rw [List.take_of_length_le (by omega)]
      exact end1 rfl (List.Sublist.refl _) (by rw [e]) (.inl rfl)

theorem c_l04Parents (s : System) (c : Int) (hv : s.Ok) (h0 : 0 ≤ c ∧ c ≤ (s.parents.length : Int) - 1) : Gives Tryz.prog 36 [.ip (encSystem s), .int c] (.sl ((pars s c).reverse.map encI)) := by
  refine fn_of_run tyOk ztOk mix Tryz.func36 rfl (by decide) Tryz.ntmps36 (fun w0 h => ?_)
  have hf := hv.1
  have hl := hf.2.1
  have h16 := hv.2.1
  have hp0 := hf.par h0.1 h0.2
  have hpl : (pars s c).length ≤ 7 := chainF_len s 7 _
  repeat' (first
      | (refine j_go ?_; first
        | refine j_op0 rfl rfl rfl rfl ?_ | (refine j_kIdx rfl ?_; first | refine j_idxz rfl rfl rfl rfl rfl ⟨by omega, by omega⟩ rfl rfl rfl ?_) | (refine j_kCall rfl rfl rfl rfl ?_; first | refine jc (c_l00Put [] _ (fun _ q => by cases q) (by decide)) (by repeat' (first | exact LeL.nil | refine LeL.cons ?_ ?_ | exact Le.refl _ | exact Le.nilm _ _ | exact Le.nil _ | refine Le.agg ?_)) rfl rfl ?_) | (refine j_kBsl rfl ?_; first | refine j_bs0 rfl rfl rfl rfl rfl rfl ?_))
      | refine j_nil ?_
      | (refine r_go ?_; first | refine run_seq ?_ | refine run_region ?_ | (refine (run_if rfl (fun hb => ?_) (fun hb => ?_)) <;> first | (exfalso; omega) | skip) | refine run_block ?_ | refine run_ret ?_ | refine run_skip ?_)
      | refine seqQ_normal ?_ | refine seqQ_ret ?_)
  · have e : pars s c = [] := by unfold pars; rw [getD_get (by omega)]; exact chainF_neg (by omega)
    exact end_le (List.Sublist.refl _) (vs := [_]) (.cons (.tmp rfl) .nil) (by rw [e]; exact Le.nil _) (.inl rfl)
  · refine run_loop (fun x : Int × List Int => [(0, .ip (encSystem s)), (5, .sl ((x.1 :: x.2).map encI)), (6, .int x.1)]) (fun _ => _) (fun x => (0 ≤ x.1 ∧ x.1 ≤ (s.parents.length : Int) - 1) ∧ (∀ y ∈ x.2, x.1 < y) ∧ ∃ n : Nat, x.1 < n ∧ x.2.reverse ++ chainF s n x.1 = pars s c) (fun x => x.1.toNat) (s.parents[c.toNat]'(by omega), []) ⟨rfl, rfl, rfl, trivial⟩ rfl ⟨⟨by dsimp only; omega, by dsimp only; omega⟩, (fun _ q => by cases q), 7, by dsimp only; omega, by unfold pars; rw [getD_get (by omega)]; rfl⟩ (fun ⟨p, m⟩ ⟨pl, pm, n, pn, pe⟩ => ?_)
    dsimp only at pl pm pn pe ⊢
    obtain ⟨n, rfl⟩ : ∃ q, n = q + 1 := ⟨n - 1, by omega⟩
    have hpp := hf.par pl.1 pl.2
    have hml : m.length ≤ 7 := by have := congrArg List.length pe; rw [List.length_append, List.length_reverse] at this; omega
    repeat' (first
      | (refine j_go ?_; first
        | refine j_op0 rfl rfl rfl rfl ?_ | refine j_off rfl rfl rfl ?_ | (refine j_kIdx rfl ?_; first | refine j_idxz rfl rfl rfl rfl rfl ⟨by omega, by omega⟩ rfl rfl rfl ?_) | (refine j_kCall rfl rfl rfl rfl ?_; first | refine jc (c_l04Melts _ _ h16) (LeL.refl _) rfl rfl ?_ | (refine jc (c_l00Put (p :: m) _ (fun y hy => by rcases List.mem_cons.1 hy with rfl | hy <;> first | omega | (have := pm y hy; omega)) (by simp; omega)) (LeL.refl _) rfl rfl ?_)) | (refine j_kGuard rfl ?_; first | (refine (j_if rfl rfl rfl (fun hb => ?_) (fun hb => ?_)) <;> first | (exfalso; omega) | skip)))
      | refine j_nil ?_
      | (refine r_go ?_; first | refine run_seq ?_ | refine run_region ?_ | refine run_cond_f rfl ?_ | (refine (run_if rfl (fun hb => ?_) (fun hb => ?_)) <;> first | (exfalso; omega) | skip) | refine run_block ?_ | refine run_ret ?_ | refine run_exit ?_ | refine run_skip ?_)
      | refine seqQ_normal ?_ | refine seqQ_exit ?_ | refine blockQ_normal ?_ | refine blockQ_eq ?_ | refine loopQ_exit ?_)
    · exact loopQ_nextD (s.parents[p.toNat]'(by omega), p :: m) ⟨⟨by dsimp only; omega, by dsimp only; omega⟩, (fun y hy => by dsimp only at hy ⊢; rcases List.mem_cons.1 hy with rfl | hy <;> first | omega | (have := pm y hy; omega)), n, by dsimp only; omega, by dsimp only; rw [← pe, chainF_go pl.1 (by assumption) (by omega), List.reverse_cons, List.append_assoc]; rfl⟩ (by dsimp only; omega) (List.Sublist.refl _) ⟨rfl, rfl, rfl, trivial⟩
    all_goals
      have e : (pars s c).reverse = p :: m := by
        rw [← pe]
        first
          | (rw [chainF_stop pl.1 (by assumption)]; simp)
          | (have hz : p = 0 := by omega
             have hq : ¬ 0 ≤ s.parents[p.toNat]'(by omega) := by omega
             by_cases hm : Melts s p
             · rw [chainF_go pl.1 hm (by omega), chainF_neg hq]; simp
             · rw [chainF_stop pl.1 hm]; simp)
      exact end1 rfl (List.Sublist.refl _) (by rw [e]) (.inl rfl)

end Go.Proofs.YtbcplkmkdggpjaaGreat
