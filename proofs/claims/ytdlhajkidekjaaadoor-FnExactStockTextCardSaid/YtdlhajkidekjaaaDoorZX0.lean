/-
  Numbers and words as texts: strconv.FormatInt, strings.Join, decimal. No condition.
-/
import Derived.Test.YtdlhajkidekjaaaDoorZT
import Derived.Test.YtdlhajkidekjaaaDoorZTM
import Derived.Test.YtdlhajkidekjaaaDoorZSh
import Derived.Test.YtdlhajkidekjaaaDoorZS0
import Derived.Lib.AppendIntMem
namespace Go.Proofs.YtdlhajkidekjaaaDoor
open Go.AI Go.RowKit
set_option maxRecDepth 8000
set_option maxHeartbeats 1600000
/-- The table of powers of ten. -/
def KT : Blk := tabK 0
theorem c_FormatInt (n : Int) (h0 : -9223372036854775808 ≤ n ∧ n ≤ 9223372036854775807) : GivesT Tryd.prog KT 105 [.int n, .int 10] (.str (dcm n)) := by
  refine ⟨⟨Tryd.f105, Tryd.func105, by decide, by rfl⟩, fun h hK w vs hrel hh => ?_⟩
  obtain ⟨v1, us, rfl, h1, h2⟩ := hrel.uncons
  obtain ⟨v2, us2, rfl, h3, h4⟩ := h2.uncons
  have hnl : us2 = [] := List.eq_nil_of_length_eq_zero h4.1
  subst hnl
  obtain ⟨rfl, _⟩ := h1.int_inv
  obtain ⟨rfl, _⟩ := h3.int_inv
  refine (Tryd.strconv_FormatInt_10 n h0.1 h0.2 w (tab_is (by kernel_rfl) hK hh)).mono fun e w' ⟨e1, k, os, e2⟩ => ⟨_, e1, ?_, .str _ ?_⟩
  · subst e2
    exact Chg.ofBelow hh (Lib.below_grow _ w (Nat.le_refl _) k os)
  · have := dcm_len h0
    exact Nat.le_trans this (by decide)
theorem c_decimal (n : Int) (h0 : -9223372036854775808 ≤ n ∧ n ≤ 9223372036854775807) : GivesT Tryd.prog KT 53 [.int n] (.str (dcm n)) := by
  refine fn_of_runT tyOk ztOk mix Tryd.func53 rfl (by decide) Tryd.ntmps53 (fun w0 h hK => ?_)
  repeat' (first
      | (refine j_go ?_; first
        | refine j_op0 rfl rfl rfl rfl ?_ | (refine j_kCall rfl rfl rfl rfl ?_; first | refine jcT (by first | exact hK | exact List.mem_cons_of_mem _ hK | exact List.mem_cons_of_mem _ (List.mem_cons_of_mem _ hK) | simp [hK]) (c_FormatInt _ h0) (LeL.refl _) rfl rfl ?_ | refine jcT (by first | exact hK | exact List.mem_cons_of_mem _ hK | exact List.mem_cons_of_mem _ (List.mem_cons_of_mem _ hK) | simp [hK]) (c_FormatInt _ h0) (by repeat' (first | exact LeL.nil | refine LeL.cons ?_ ?_ | exact Le.refl _ | exact Le.nilm _ _ | exact Le.nil _ | refine Le.agg ?_)) rfl rfl ?_))
      | refine j_nil ?_
      | (refine r_go ?_; first | refine run_seq ?_ | refine run_region ?_ | refine run_cond_t rfl ?_ | refine run_cond_f rfl ?_ | (refine (run_if rfl (fun hb => ?_) (fun hb => ?_)) <;> first | (exfalso; omega) | skip) | (refine (run_ifn rfl (fun hb => ?_) (fun hb => ?_)) <;> first | (exfalso; omega) | skip) | refine run_block ?_ | refine run_ret ?_ | refine run_exit ?_ | refine run_skip ?_ | refine run_regionD (by kernel_rfl) ?_ | refine run_condn rfl (fun hb => ?_) (fun hb => ?_) | refine run_cond rfl (fun hb => ?_) (fun hb => ?_))
      | refine seqQ_normal ?_ | refine seqQ_ret ?_ | refine seqQ_exit ?_ | refine blockQ_normal ?_ | refine blockQ_ret ?_ | refine blockQ_eq ?_ | refine blockQ_ne rfl ?_ | refine loopQ_ret ?_ | refine loopQ_exit ?_)
  exact end1 rfl (List.Sublist.refl _) (rfl) (.inl rfl)
def encW (w : List UInt8) : List A := [.str w]
theorem c_Join (ws : List (List UInt8)) (sep : List UInt8) (hN : ws.length ≤ 1000000) (hl : (Lib.join ws sep).length ≤ 100000000) : Gives Tryd.prog 114 [.sl (ws.map encW), .str sep] (.str (Lib.join ws sep)) := by
  refine ⟨⟨Tryd.f114, Tryd.func114, by decide, by rfl⟩, fun h w vs hrel hh => ?_⟩
  obtain ⟨v1, us, rfl, h1, h2⟩ := hrel.uncons
  obtain ⟨v2, us2, rfl, h3, h4⟩ := h2.uncons
  have hnl : us2 = [] := List.eq_nil_of_length_eq_zero h4.1
  subst hnl
  obtain ⟨rfl, _⟩ := h3.str_inv
  cases ws with
  | nil =>
    have q : ∃ a c, v1 = .slice a 0 c := by
      cases h1 with
      | nil a c => exact ⟨a, c, rfl⟩
      | sl xs b off cap sz V hS hlen hcap hsz hc hr => exact ⟨_, _, rfl⟩
    obtain ⟨a, c, rfl⟩ := q
    exact (Tryd.strings_Join_none a c _ w).mono fun e w' ⟨e1, e2⟩ => ⟨_, e1, by subst e2; exact Chg.refl hh, .str [] (by decide)⟩
  | cons x ws =>
    have q : ∃ b off cap, v1 = .slice (some ⟨b, off, none⟩) (x :: ws).length cap ∧ (x :: ws).length ≤ cap ∧ b < w.heap.size ∧ ∀ (j : Nat) (y : ByteArray), (((x :: ws).map fun z => (⟨z.toArray⟩ : ByteArray)))[j]? = some y → w.cell? ⟨b, off + j, none⟩ = some (.string y) := by
      generalize hL : (x :: ws).map encW = L at h1
      cases h1 with
      | nil a c => simp at hL
      | sl xs b off cap sz V hS hlen hcap hsz hc hr =>
        subst hL
        refine ⟨b, off, cap, by simp, by simpa using hcap, hS.1, fun j y hy => ?_⟩
        have hj : j < (x :: ws).length := by
          have := (List.getElem?_eq_some_iff.1 hy).1
          simpa using this
        have hj2 : j < ((x :: ws).map encW).length := by simpa using hj
        have hs1 : sz = 1 := by
          have := hsz 0 (by simp)
          simpa [encW] using this.symm
        subst hs1
        have h5 := hc j 0 hj2 (by decide)
        have h6 := hr j 0 hj2 (by rw [hsz j hj2]; decide)
        simp only [List.getElem_map, encW, List.getElem_cons_zero] at h6
        have h7 := h6.str_inv.1
        rw [Nat.mul_one, Nat.add_zero] at h5
        rw [h5, h7]
        rw [List.getElem?_map, List.getElem?_eq_getElem hj] at hy
        simp only [Option.map_some, Option.some.injEq] at hy
        rw [hy]
    obtain ⟨b, off, cap, rfl, hcap, hb, hcells⟩ := q
    have em : (((x :: ws).map fun z => (⟨z.toArray⟩ : ByteArray)).map (·.data.toList)) = x :: ws := by simp [Function.comp_def]
    have hlen : (((x :: ws).map fun z => (⟨z.toArray⟩ : ByteArray))).length = (x :: ws).length := by simp
    have := Tryd.strings_Join b off cap ((x :: ws).map fun z => (⟨z.toArray⟩ : ByteArray)) ⟨sep.toArray⟩ w hcells hb (by rw [hlen]; omega) (by rw [hlen]; exact hcap) (by rw [em]; exact Nat.le_trans hl (by decide))
    rw [hlen, em] at this
    exact this.mono fun e w' ⟨e1, e2⟩ => ⟨_, e1, Chg.ofBelow hh e2, .str _ (Nat.le_trans hl (by decide))⟩
theorem c_Decimal : ∀ (k : Nat) (n : Int), 0 ≤ n → n < (k : Int) → n ≤ 9223372036854775807 → Gives Tryd.prog 89 [.int n] (.str (dcm n))
  | 0, n, h0, h1, _ => absurd h1 (by omega)
  | k + 1, n, h0, h1, h9 => by
    refine fn_of_run tyOk ztOk mix Tryd.func89 rfl (by decide) Tryd.ntmps89 (fun w0 h => ?_)
    by_cases hn : 10 ≤ n
    · have ih := c_Decimal k (n / 10) (by omega) (by omega) (by omega)
      have hl := dcm_len (n := n / 10) ⟨by omega, by omega⟩
      repeat' (first
      | (refine j_go ?_; first
        | refine j_op0 rfl rfl rfl rfl ?_ | (refine j_kBin rfl ?_; first | refine j_in rfl rfl ⟨by omega, by omega⟩ rfl rfl ?_ | refine j_quo rfl rfl rfl rfl (by omega) rfl rfl ?_ | refine j_rem rfl rfl rfl rfl (by omega) rfl rfl ?_ | refine j_cat rfl rfl rfl rfl (by first | omega | (simp only [List.length_append, List.length_cons, List.length_nil]; omega)) rfl rfl ?_) | (refine j_kCall rfl rfl rfl rfl ?_; first | refine jc (ih) (LeL.refl _) rfl rfl ?_ | refine jc (ih) (by repeat' (first | exact LeL.nil | refine LeL.cons ?_ ?_ | exact Le.refl _ | exact Le.nilm _ _ | exact Le.nil _ | refine Le.agg ?_)) rfl rfl ?_) | (refine j_kBsl rfl ?_; first | refine j_bs0 rfl rfl rfl rfl rfl rfl ?_ | refine j_bsl rfl rfl rfl rfl rfl rfl rfl rfl rfl rfl rfl ?_) | refine j_conv rfl rfl rfl rfl rfl (wrap_u64 (by omega) (by omega)) rfl rfl ?_ | refine j_convB rfl rfl rfl rfl rfl (by omega) rfl rfl ?_ | refine j_b2s rfl rfl rfl rfl rfl rfl rfl rfl ?_ | refine j_b2s1 rfl rfl rfl rfl rfl rfl rfl rfl ?_)
      | refine j_nil ?_
      | (refine r_go ?_; first | refine run_seq ?_ | refine run_region ?_ | refine run_cond_t rfl ?_ | refine run_cond_f rfl ?_ | (refine (run_if rfl (fun hb => ?_) (fun hb => ?_)) <;> first | (exfalso; omega) | skip) | (refine (run_ifn rfl (fun hb => ?_) (fun hb => ?_)) <;> first | (exfalso; omega) | skip) | refine run_block ?_ | refine run_ret ?_ | refine run_exit ?_ | refine run_skip ?_ | refine run_regionD (by kernel_rfl) ?_ | refine run_condn rfl (fun hb => ?_) (fun hb => ?_) | refine run_cond rfl (fun hb => ?_) (fun hb => ?_))
      | refine seqQ_normal ?_ | refine seqQ_ret ?_ | refine seqQ_exit ?_ | refine blockQ_normal ?_ | refine blockQ_ret ?_ | refine blockQ_eq ?_ | refine blockQ_ne rfl ?_ | refine loopQ_ret ?_ | refine loopQ_exit ?_)
      exact end1 rfl (List.Sublist.refl _) (by rw [dcm_big hn]) (.inl rfl)
    · repeat' (first
      | (refine j_go ?_; first
        | refine j_op0 rfl rfl rfl rfl ?_ | (refine j_kBin rfl ?_; first | refine j_in rfl rfl ⟨by omega, by omega⟩ rfl rfl ?_ | refine j_quo rfl rfl rfl rfl (by omega) rfl rfl ?_ | refine j_rem rfl rfl rfl rfl (by omega) rfl rfl ?_ | refine j_cat rfl rfl rfl rfl (by first | omega | (simp only [List.length_append, List.length_cons, List.length_nil]; omega)) rfl rfl ?_) | (refine j_kBsl rfl ?_; first | refine j_bs0 rfl rfl rfl rfl rfl rfl ?_ | refine j_bsl rfl rfl rfl rfl rfl rfl rfl rfl rfl rfl rfl ?_) | refine j_conv rfl rfl rfl rfl rfl (wrap_u64 (by omega) (by omega)) rfl rfl ?_ | refine j_convB rfl rfl rfl rfl rfl (by omega) rfl rfl ?_ | refine j_b2s rfl rfl rfl rfl rfl rfl rfl rfl ?_ | refine j_b2s1 rfl rfl rfl rfl rfl rfl rfl rfl ?_)
      | refine j_nil ?_
      | (refine r_go ?_; first | refine run_seq ?_ | refine run_region ?_ | refine run_cond_t rfl ?_ | refine run_cond_f rfl ?_ | (refine (run_if rfl (fun hb => ?_) (fun hb => ?_)) <;> first | (exfalso; omega) | skip) | (refine (run_ifn rfl (fun hb => ?_) (fun hb => ?_)) <;> first | (exfalso; omega) | skip) | refine run_block ?_ | refine run_ret ?_ | refine run_exit ?_ | refine run_skip ?_ | refine run_regionD (by kernel_rfl) ?_ | refine run_condn rfl (fun hb => ?_) (fun hb => ?_) | refine run_cond rfl (fun hb => ?_) (fun hb => ?_))
      | refine seqQ_normal ?_ | refine seqQ_ret ?_ | refine seqQ_exit ?_ | refine blockQ_normal ?_ | refine blockQ_ret ?_ | refine blockQ_eq ?_ | refine blockQ_ne rfl ?_ | refine loopQ_ret ?_ | refine loopQ_exit ?_)
      exact end1 rfl (List.Sublist.refl _) (by rw [dcm_small ⟨h0, by omega⟩]) (.inl rfl)
theorem c_dec (n : Int) (h0 : 0 ≤ n ∧ n ≤ 1000000000) : Gives Tryd.prog 89 [.int n] (.str (dcm n)) := c_Decimal (n.toNat + 1) n h0.1 (by omega) (by omega)

theorem bag_in {b : List Int} (hb : Bag b) : ∀ x ∈ b, 0 ≤ x ∧ x ≤ 1000 := hb.1
theorem kind_big {k : Nat} {n : Int} (h : 1 < n) : kindW k n = [UInt8.ofNat (97 + (k : Int)).toNat] ++ dcm n := by
  unfold kindW; rw [if_pos h]
  have : (97 + (k : Int)).toNat = 97 + k := by omega
  rw [this]; rfl
theorem kind_one {k : Nat} {n : Int} (h : ¬ 1 < n) : kindW k n = [UInt8.ofNat (97 + (k : Int)).toNat] := by
  unfold kindW; rw [if_neg h]
  have : (97 + (k : Int)).toNat = 97 + k := by omega
  rw [this]
theorem sa {a b : List UInt8} (h : a = b) : some (A.str a) = some (A.str b) := by rw [h]
theorem st {a b : List UInt8} (h : a = b) : A.str a = A.str b := by rw [h]
theorem c_l01Text (b : List Int) (hb0 : Bag b) : Gives Tryd.prog 99 [.sl (b.map encI)] (.str (bagT b)) := by
  refine fn_of_run tyOk ztOk mix Tryd.func99 rfl (by decide) Tryd.ntmps99 (fun w0 h => ?_)
  have hb1 := bag_in hb0
  have hb8 := hb0.2
  repeat' (first
      | (refine j_go ?_; first
        | refine j_op0 rfl rfl rfl rfl ?_ | (refine j_kIdx rfl ?_; first | refine j_idx rfl rfl rfl rfl rfl (by omega) rfl rfl rfl ?_ | refine j_idxz rfl rfl rfl rfl rfl ⟨by omega, by omega⟩ rfl rfl rfl ?_) | (refine j_kBin rfl ?_; first | refine j_in rfl rfl ⟨by omega, by omega⟩ rfl rfl ?_ | refine j_cat rfl rfl rfl rfl (by first | omega | (simp only [List.length_append, List.length_cons, List.length_nil]; omega)) rfl rfl ?_) | (refine j_kLen rfl ?_; first | refine j_len rfl rfl rfl rfl rfl rfl ?_ | refine j_op rfl rfl rfl rfl ?_) | (refine j_kBsl rfl ?_; first | refine j_bs0 rfl rfl rfl rfl rfl rfl ?_ | refine j_bsl rfl rfl rfl rfl rfl rfl rfl rfl rfl rfl rfl ?_) | refine j_conv rfl rfl rfl rfl rfl (wrap_u64 (by omega) (by omega)) rfl rfl ?_ | refine j_convB rfl rfl rfl rfl rfl (by omega) rfl rfl ?_ | refine j_b2s rfl rfl rfl rfl rfl rfl rfl rfl ?_ | refine j_b2s1 rfl rfl rfl rfl rfl rfl rfl rfl ?_)
      | refine j_nil ?_
      | (refine r_go ?_; first | refine run_seq ?_ | refine run_region ?_ | refine run_cond_t rfl ?_ | refine run_cond_f rfl ?_ | (refine (run_if rfl (fun hb => ?_) (fun hb => ?_)) <;> first | (exfalso; omega) | skip) | (refine (run_ifn rfl (fun hb => ?_) (fun hb => ?_)) <;> first | (exfalso; omega) | skip) | refine run_block ?_ | refine run_ret ?_ | refine run_exit ?_ | refine run_skip ?_ | refine run_regionD (by kernel_rfl) ?_ | refine run_condn rfl (fun hb => ?_) (fun hb => ?_) | refine run_cond rfl (fun hb => ?_) (fun hb => ?_))
      | refine seqQ_normal ?_ | refine seqQ_ret ?_ | refine seqQ_exit ?_ | refine blockQ_normal ?_ | refine blockQ_ret ?_ | refine blockQ_eq ?_ | refine blockQ_ne rfl ?_ | refine loopQ_ret ?_ | refine loopQ_exit ?_)
  refine run_loop (fun k : Nat => [(0, .sl (b.map encI)), (3, .str (bagTk b k)), (4, .int (k : Int))]) (fun _ => _) (fun k => k ≤ b.length ∧ (True)) (fun k => b.length - k) 0 ⟨rfl, (by first | rfl | exact si (by first | omega | (simp; done) | (simp [sumF]; done) | (simp; omega)) | exact raw_f (by simp) | exact raw_t (by simp) | exact sa (by first | (rw [catK_zero]; rfl) | (rw [catK_zero, List.append_nil]; rfl) | (rw [catK_zero, List.append_nil]) | (rw [joinK_zero, List.append_nil]; rfl) | (rw [joinK_zero, List.append_nil]) | (simp [catK]; done))), rfl, trivial⟩ rfl ⟨Nat.zero_le _, by first | (intros; omega) | (simp; done) | rfl | trivial | exact ⟨by simp [sumF], by intros; omega⟩ | exact ⟨by omega, by simp⟩⟩ (fun k ⟨kl, kp⟩ => ?_)
  have tl := bagTk_len hb1 kl
  by_cases hk : k < b.length
  · have hx := hb1 _ (List.getElem_mem hk)
    have dl := dcm_len (n := b[k]) ⟨by omega, by omega⟩
    by_cases h0 : 0 < b[k]
    · have es := bagTk_pos hb1 hk h0
      repeat' (first
      | (refine j_go ?_; first
        | refine j_op0 rfl rfl rfl rfl ?_ | (refine j_kIdx rfl ?_; first | refine j_idx rfl rfl rfl rfl rfl (by omega) rfl rfl rfl ?_ | refine j_idxz rfl rfl rfl rfl rfl ⟨by omega, by omega⟩ rfl rfl rfl ?_) | (refine j_kBin rfl ?_; first | refine j_in rfl rfl ⟨by omega, by omega⟩ rfl rfl ?_ | refine j_cat rfl rfl rfl rfl (by first | omega | (simp only [List.length_append, List.length_cons, List.length_nil]; omega)) rfl rfl ?_) | (refine j_kLen rfl ?_; first | refine j_len rfl rfl rfl rfl rfl rfl ?_ | refine j_op rfl rfl rfl rfl ?_) | (refine j_kCall rfl rfl rfl rfl ?_; first | refine jc (c_dec _ ⟨by omega, by omega⟩) (LeL.refl _) rfl rfl ?_ | refine jc (c_dec _ ⟨by omega, by omega⟩) (by repeat' (first | exact LeL.nil | refine LeL.cons ?_ ?_ | exact Le.refl _ | exact Le.nilm _ _ | exact Le.nil _ | refine Le.agg ?_)) rfl rfl ?_) | (refine j_kBsl rfl ?_; first | refine j_bs0 rfl rfl rfl rfl rfl rfl ?_ | refine j_bsl rfl rfl rfl rfl rfl rfl rfl rfl rfl rfl rfl ?_) | refine j_conv rfl rfl rfl rfl rfl (wrap_u64 (by omega) (by omega)) rfl rfl ?_ | refine j_convB rfl rfl rfl rfl rfl (by omega) rfl rfl ?_ | refine j_b2s rfl rfl rfl rfl rfl rfl rfl rfl ?_ | refine j_b2s1 rfl rfl rfl rfl rfl rfl rfl rfl ?_)
      | refine j_nil ?_
      | (refine r_go ?_; first | refine run_seq ?_ | refine run_region ?_ | refine run_cond_t rfl ?_ | refine run_cond_f rfl ?_ | (refine (run_if rfl (fun hb => ?_) (fun hb => ?_)) <;> first | (exfalso; omega) | skip) | (refine (run_ifn rfl (fun hb => ?_) (fun hb => ?_)) <;> first | (exfalso; omega) | skip) | refine run_block ?_ | refine run_ret ?_ | refine run_exit ?_ | refine run_skip ?_ | refine run_regionD (by kernel_rfl) ?_ | refine run_condn rfl (fun hb => ?_) (fun hb => ?_) | refine run_cond rfl (fun hb => ?_) (fun hb => ?_))
      | refine seqQ_normal ?_ | refine seqQ_ret ?_ | refine seqQ_exit ?_ | refine blockQ_normal ?_ | refine blockQ_ret ?_ | refine blockQ_eq ?_ | refine blockQ_ne rfl ?_ | refine loopQ_ret ?_ | refine loopQ_exit ?_)
      all_goals first
        | exact loopQ_nextD (k + 1) ⟨by omega, trivial⟩ (by omega) (by first | exact List.Sublist.refl _ | exact sub1 | exact sub2 | exact sub3) ⟨rfl, (by first | rfl | (exact sa (by rw [es, if_neg (show ¬ bagTk b k = [] from by assumption), kind_big (by assumption)]; simp only [List.append_assoc])) | exact si (by omega)), nx _, trivial⟩
        | exact loopQ_nextD (k + 1) ⟨by omega, trivial⟩ (by omega) (by first | exact List.Sublist.refl _ | exact sub1 | exact sub2 | exact sub3) ⟨rfl, (by first | rfl | (exact sa (by rw [es, if_neg (show ¬ bagTk b k = [] from by assumption), kind_one (by assumption)])) | exact si (by omega)), nx _, trivial⟩
        | exact loopQ_nextD (k + 1) ⟨by omega, trivial⟩ (by omega) (by first | exact List.Sublist.refl _ | exact sub1 | exact sub2 | exact sub3) ⟨rfl, (by first | rfl | (exact sa (by rw [es, if_pos (show bagTk b k = [] from by assumption), kind_big (by assumption), show bagTk b k = [] from by assumption]; simp only [List.append_assoc])) | exact si (by omega)), nx _, trivial⟩
        | exact loopQ_nextD (k + 1) ⟨by omega, trivial⟩ (by omega) (by first | exact List.Sublist.refl _ | exact sub1 | exact sub2 | exact sub3) ⟨rfl, (by first | rfl | (exact sa (by rw [es, if_pos (show bagTk b k = [] from by assumption), kind_one (by assumption), show bagTk b k = [] from by assumption])) | exact si (by omega)), nx _, trivial⟩
        | trace_state
    · have es := bagTk_zero hk h0
      repeat' (first
      | (refine j_go ?_; first
        | refine j_op0 rfl rfl rfl rfl ?_ | (refine j_kIdx rfl ?_; first | refine j_idx rfl rfl rfl rfl rfl (by omega) rfl rfl rfl ?_ | refine j_idxz rfl rfl rfl rfl rfl ⟨by omega, by omega⟩ rfl rfl rfl ?_) | (refine j_kBin rfl ?_; first | refine j_in rfl rfl ⟨by omega, by omega⟩ rfl rfl ?_ | refine j_cat rfl rfl rfl rfl (by first | omega | (simp only [List.length_append, List.length_cons, List.length_nil]; omega)) rfl rfl ?_) | (refine j_kLen rfl ?_; first | refine j_len rfl rfl rfl rfl rfl rfl ?_ | refine j_op rfl rfl rfl rfl ?_) | (refine j_kCall rfl rfl rfl rfl ?_; first | refine jc (c_dec _ ⟨by omega, by omega⟩) (LeL.refl _) rfl rfl ?_ | refine jc (c_dec _ ⟨by omega, by omega⟩) (by repeat' (first | exact LeL.nil | refine LeL.cons ?_ ?_ | exact Le.refl _ | exact Le.nilm _ _ | exact Le.nil _ | refine Le.agg ?_)) rfl rfl ?_) | (refine j_kBsl rfl ?_; first | refine j_bs0 rfl rfl rfl rfl rfl rfl ?_ | refine j_bsl rfl rfl rfl rfl rfl rfl rfl rfl rfl rfl rfl ?_) | refine j_conv rfl rfl rfl rfl rfl (wrap_u64 (by omega) (by omega)) rfl rfl ?_ | refine j_convB rfl rfl rfl rfl rfl (by omega) rfl rfl ?_ | refine j_b2s rfl rfl rfl rfl rfl rfl rfl rfl ?_ | refine j_b2s1 rfl rfl rfl rfl rfl rfl rfl rfl ?_)
      | refine j_nil ?_
      | (refine r_go ?_; first | refine run_seq ?_ | refine run_region ?_ | refine run_cond_t rfl ?_ | refine run_cond_f rfl ?_ | (refine (run_if rfl (fun hb => ?_) (fun hb => ?_)) <;> first | (exfalso; omega) | skip) | (refine (run_ifn rfl (fun hb => ?_) (fun hb => ?_)) <;> first | (exfalso; omega) | skip) | refine run_block ?_ | refine run_ret ?_ | refine run_exit ?_ | refine run_skip ?_ | refine run_regionD (by kernel_rfl) ?_ | refine run_condn rfl (fun hb => ?_) (fun hb => ?_) | refine run_cond rfl (fun hb => ?_) (fun hb => ?_))
      | refine seqQ_normal ?_ | refine seqQ_ret ?_ | refine seqQ_exit ?_ | refine blockQ_normal ?_ | refine blockQ_ret ?_ | refine blockQ_eq ?_ | refine blockQ_ne rfl ?_ | refine loopQ_ret ?_ | refine loopQ_exit ?_)
      all_goals first
        | (exfalso; omega)
        | exact loopQ_nextD (k + 1) ⟨by omega, trivial⟩ (by omega) (by first | exact List.Sublist.refl _ | exact sub1 | exact sub2 | exact sub3) ⟨rfl, (by first | rfl | (exact sa es.symm) | exact si (by omega)), nx _, trivial⟩
        | trace_state
  · have hke : k = b.length := by omega
    subst hke
    repeat' (first
      | (refine j_go ?_; first
        | refine j_op0 rfl rfl rfl rfl ?_ | (refine j_kIdx rfl ?_; first | refine j_idx rfl rfl rfl rfl rfl (by omega) rfl rfl rfl ?_ | refine j_idxz rfl rfl rfl rfl rfl ⟨by omega, by omega⟩ rfl rfl rfl ?_) | (refine j_kBin rfl ?_; first | refine j_in rfl rfl ⟨by omega, by omega⟩ rfl rfl ?_ | refine j_cat rfl rfl rfl rfl (by first | omega | (simp only [List.length_append, List.length_cons, List.length_nil]; omega)) rfl rfl ?_) | (refine j_kLen rfl ?_; first | refine j_len rfl rfl rfl rfl rfl rfl ?_ | refine j_op rfl rfl rfl rfl ?_) | (refine j_kBsl rfl ?_; first | refine j_bs0 rfl rfl rfl rfl rfl rfl ?_ | refine j_bsl rfl rfl rfl rfl rfl rfl rfl rfl rfl rfl rfl ?_) | refine j_conv rfl rfl rfl rfl rfl (wrap_u64 (by omega) (by omega)) rfl rfl ?_ | refine j_convB rfl rfl rfl rfl rfl (by omega) rfl rfl ?_ | refine j_b2s rfl rfl rfl rfl rfl rfl rfl rfl ?_ | refine j_b2s1 rfl rfl rfl rfl rfl rfl rfl rfl ?_)
      | refine j_nil ?_
      | (refine r_go ?_; first | refine run_seq ?_ | refine run_region ?_ | refine run_cond_t rfl ?_ | refine run_cond_f rfl ?_ | (refine (run_if rfl (fun hb => ?_) (fun hb => ?_)) <;> first | (exfalso; omega) | skip) | (refine (run_ifn rfl (fun hb => ?_) (fun hb => ?_)) <;> first | (exfalso; omega) | skip) | refine run_block ?_ | refine run_ret ?_ | refine run_exit ?_ | refine run_skip ?_ | refine run_regionD (by kernel_rfl) ?_ | refine run_condn rfl (fun hb => ?_) (fun hb => ?_) | refine run_cond rfl (fun hb => ?_) (fun hb => ?_))
      | refine seqQ_normal ?_ | refine seqQ_ret ?_ | refine seqQ_exit ?_ | refine blockQ_normal ?_ | refine blockQ_ret ?_ | refine blockQ_eq ?_ | refine blockQ_ne rfl ?_ | refine loopQ_ret ?_ | refine loopQ_exit ?_)
    · exact end1 rfl (List.Sublist.refl _) (st (by rw [bagT_eq hb1, if_pos (show bagTk b b.length = [] from by assumption)])) (.inl rfl)
    · exact end1 rfl (List.Sublist.refl _) (st (by rw [bagT_eq hb1, if_neg (show ¬ bagTk b b.length = [] from by assumption)])) (.inl rfl)

theorem c_bagText (b : List Int) (hb0 : Bag b) : GivesT Tryd.prog KT 71 [.sl (b.map encI)] (.str (bagT b)) := by
  refine fn_of_runT tyOk ztOk mix Tryd.func71 rfl (by decide) Tryd.ntmps71 (fun w0 h hK => ?_)
  have hb1 := bag_in hb0
  have hb8 := hb0.2
  repeat' (first
      | (refine j_go ?_; first
        | refine j_op0 rfl rfl rfl rfl ?_ | (refine j_kIdx rfl ?_; first | refine j_idx rfl rfl rfl rfl rfl (by omega) rfl rfl rfl ?_ | refine j_midx rfl rfl rfl rfl rfl (by first | omega | (simp only [List.length_append, List.length_cons, List.length_nil]; omega)) rfl rfl ?_ | refine j_idxz rfl rfl rfl rfl rfl ⟨by omega, by omega⟩ rfl rfl rfl ?_ | refine j_midxz rfl rfl rfl rfl rfl (by first | omega | (simp only [List.length_append, List.length_cons, List.length_nil]; omega)) rfl rfl ?_ | refine j_aidx rfl rfl rfl rfl rfl (by omega) rfl rfl ?_ | refine j_aidxz rfl rfl rfl rfl rfl (by omega) rfl rfl ?_) | (refine j_kBin rfl ?_; first | refine j_in rfl rfl ⟨by omega, by omega⟩ rfl rfl ?_ | refine j_cat rfl rfl rfl rfl (by first | omega | (simp only [List.length_append, List.length_cons, List.length_nil]; omega)) rfl rfl ?_) | (refine j_kLen rfl ?_; first | refine j_len rfl rfl rfl rfl rfl rfl ?_ | refine j_op rfl rfl rfl rfl ?_) | (refine j_kLoad rfl ?_; first | refine j_mload 0 rfl rfl rfl rfl rfl rfl rfl ?_ | refine j_mload 1 rfl rfl rfl rfl rfl rfl rfl ?_ | refine j_mload 2 rfl rfl rfl rfl rfl rfl rfl ?_) | (refine j_kBsl rfl ?_; first | refine j_bs0 rfl rfl rfl rfl rfl rfl ?_ | refine j_bsl rfl rfl rfl rfl rfl rfl rfl rfl rfl rfl rfl ?_) | refine j_conv rfl rfl rfl rfl rfl (wrap_u64 (by omega) (by omega)) rfl rfl ?_ | refine j_convB rfl rfl rfl rfl rfl (by omega) rfl rfl ?_ | refine j_b2s rfl rfl rfl rfl rfl rfl rfl rfl ?_ | refine j_b2s1 rfl rfl rfl rfl rfl rfl rfl rfl ?_)
      | refine j_nil ?_
      | (refine r_go ?_; first | refine run_seq ?_ | refine run_region ?_ | refine run_cond_t rfl ?_ | refine run_cond_f rfl ?_ | (refine (run_if rfl (fun hb => ?_) (fun hb => ?_)) <;> first | (exfalso; omega) | skip) | (refine (run_ifn rfl (fun hb => ?_) (fun hb => ?_)) <;> first | (exfalso; omega) | skip) | refine run_block ?_ | refine run_ret ?_ | refine run_exit ?_ | refine run_skip ?_ | refine run_regionD (by kernel_rfl) ?_ | refine run_condn rfl (fun hb => ?_) (fun hb => ?_) | refine run_cond rfl (fun hb => ?_) (fun hb => ?_))
      | refine seqQ_normal ?_ | refine seqQ_ret ?_ | refine seqQ_exit ?_ | refine blockQ_normal ?_ | refine blockQ_ret ?_ | refine blockQ_eq ?_ | refine blockQ_ne rfl ?_ | refine loopQ_ret ?_ | refine loopQ_exit ?_)
  refine run_view (view_none 9 0 rfl) ?_
  refine run_loop (fun x : Nat × Option Nat × Nat => [(8, .sl (b.map encI)), (9, .int b.length), (3, .os x.2.1 (bagWs b x.1).length x.2.2), (10, .int (x.1 : Int))]) (fun x => ⟨x.2.1, 9, x.2.2 * 1, ((bagWs b x.1).map encW).flatten⟩ :: h) (fun x => x.1 ≤ b.length) (fun x => b.length - x.1) (0, none, 0) ⟨rfl, rfl, rfl, rfl, trivial⟩ rfl (Nat.zero_le _) (fun ⟨k, ob, cp⟩ kl => ?_)
  dsimp only at kl ⊢
  have wl := bagWs_len b k
  by_cases hk : k < b.length
  · have hx := hb1 _ (List.getElem_mem hk)
    have dl := dcm_len (n := b[k]) ⟨by omega, by omega⟩
    by_cases h0 : 0 < b[k]
    · have es := bagWs_pos hk h0
      repeat' (first
      | (refine j_go ?_; first
        | refine j_op0 rfl rfl rfl rfl ?_ | (refine j_kIdx rfl ?_; first | refine j_idx rfl rfl rfl rfl rfl (by omega) rfl rfl rfl ?_ | refine j_midx rfl rfl rfl rfl rfl (by first | omega | (simp only [List.length_append, List.length_cons, List.length_nil]; omega)) rfl rfl ?_ | refine j_idxz rfl rfl rfl rfl rfl ⟨by omega, by omega⟩ rfl rfl rfl ?_ | refine j_midxz rfl rfl rfl rfl rfl (by first | omega | (simp only [List.length_append, List.length_cons, List.length_nil]; omega)) rfl rfl ?_ | refine j_aidx rfl rfl rfl rfl rfl (by omega) rfl rfl ?_ | refine j_aidxz rfl rfl rfl rfl rfl (by omega) rfl rfl ?_) | (refine j_kBin rfl ?_; first | refine j_in rfl rfl ⟨by omega, by omega⟩ rfl rfl ?_ | refine j_cat rfl rfl rfl rfl (by first | omega | (simp only [List.length_append, List.length_cons, List.length_nil]; omega)) rfl rfl ?_) | (refine j_kLen rfl ?_; first | refine j_len rfl rfl rfl rfl rfl rfl ?_ | refine j_op rfl rfl rfl rfl ?_) | (refine j_kCall rfl rfl rfl rfl ?_; first | refine jcT (by first | exact hK | exact List.mem_cons_of_mem _ hK | exact List.mem_cons_of_mem _ (List.mem_cons_of_mem _ hK) | simp [hK]) (c_decimal _ ⟨by omega, by omega⟩) (LeL.refl _) rfl rfl ?_ | refine jcT (by first | exact hK | exact List.mem_cons_of_mem _ hK | exact List.mem_cons_of_mem _ (List.mem_cons_of_mem _ hK) | simp [hK]) (c_decimal _ ⟨by omega, by omega⟩) (by repeat' (first | exact LeL.nil | refine LeL.cons ?_ ?_ | exact Le.refl _ | exact Le.nilm _ _ | exact Le.nil _ | refine Le.agg ?_)) rfl rfl ?_) | (refine j_kLoad rfl ?_; first | refine j_mload 0 rfl rfl rfl rfl rfl rfl rfl ?_ | refine j_mload 1 rfl rfl rfl rfl rfl rfl rfl ?_ | refine j_mload 2 rfl rfl rfl rfl rfl rfl rfl ?_) | (refine j_kBsl rfl ?_; first | refine j_bs0 rfl rfl rfl rfl rfl rfl ?_ | refine j_bsl rfl rfl rfl rfl rfl rfl rfl rfl rfl rfl rfl ?_) | refine j_conv rfl rfl rfl rfl rfl (wrap_u64 (by omega) (by omega)) rfl rfl ?_ | refine j_convB rfl rfl rfl rfl rfl (by omega) rfl rfl ?_ | refine j_b2s rfl rfl rfl rfl rfl rfl rfl rfl ?_ | refine j_b2s1 rfl rfl rfl rfl rfl rfl rfl rfl ?_)
      | refine j_nil ?_
      | (refine r_go ?_; first | refine run_seq ?_ | refine run_region ?_ | refine run_cond_t rfl ?_ | refine run_cond_f rfl ?_ | (refine (run_if rfl (fun hb => ?_) (fun hb => ?_)) <;> first | (exfalso; omega) | skip) | (refine (run_ifn rfl (fun hb => ?_) (fun hb => ?_)) <;> first | (exfalso; omega) | skip) | refine run_block ?_ | refine run_ret ?_ | refine run_exit ?_ | refine run_skip ?_ | refine run_regionD (by kernel_rfl) ?_ | refine run_condn rfl (fun hb => ?_) (fun hb => ?_) | refine run_cond rfl (fun hb => ?_) (fun hb => ?_))
      | refine seqQ_normal ?_ | refine seqQ_ret ?_ | refine seqQ_exit ?_ | refine blockQ_normal ?_ | refine blockQ_ret ?_ | refine blockQ_eq ?_ | refine blockQ_ne rfl ?_ | refine loopQ_ret ?_ | refine loopQ_exit ?_)
      · refine j_append 0 (g := encW) [[UInt8.ofNat (97 + (k : Int)).toNat] ++ dcm b[k]] rfl rfl rfl rfl rfl rfl rfl rfl rfl rfl rfl rfl (fun _ => rfl) (fun _ _ => rfl) ⟨by simp only [List.length_cons, List.length_nil]; omega, by simp only [List.length_cons, List.length_nil]; omega⟩ rfl rfl (fun b' cap' => ?_)
        rw [← kind_big (by assumption), ← es]
        repeat' (first
      | (refine j_go ?_; first
        | refine j_op0 rfl rfl rfl rfl ?_ | (refine j_kIdx rfl ?_; first | refine j_idx rfl rfl rfl rfl rfl (by omega) rfl rfl rfl ?_ | refine j_midx rfl rfl rfl rfl rfl (by first | omega | (simp only [List.length_append, List.length_cons, List.length_nil]; omega)) rfl rfl ?_ | refine j_idxz rfl rfl rfl rfl rfl ⟨by omega, by omega⟩ rfl rfl rfl ?_ | refine j_midxz rfl rfl rfl rfl rfl (by first | omega | (simp only [List.length_append, List.length_cons, List.length_nil]; omega)) rfl rfl ?_ | refine j_aidx rfl rfl rfl rfl rfl (by omega) rfl rfl ?_ | refine j_aidxz rfl rfl rfl rfl rfl (by omega) rfl rfl ?_) | (refine j_kBin rfl ?_; first | refine j_in rfl rfl ⟨by omega, by omega⟩ rfl rfl ?_ | refine j_cat rfl rfl rfl rfl (by first | omega | (simp only [List.length_append, List.length_cons, List.length_nil]; omega)) rfl rfl ?_) | (refine j_kLen rfl ?_; first | refine j_len rfl rfl rfl rfl rfl rfl ?_ | refine j_op rfl rfl rfl rfl ?_) | (refine j_kLoad rfl ?_; first | refine j_mload 0 rfl rfl rfl rfl rfl rfl rfl ?_ | refine j_mload 1 rfl rfl rfl rfl rfl rfl rfl ?_ | refine j_mload 2 rfl rfl rfl rfl rfl rfl rfl ?_) | (refine j_kBsl rfl ?_; first | refine j_bs0 rfl rfl rfl rfl rfl rfl ?_ | refine j_bsl rfl rfl rfl rfl rfl rfl rfl rfl rfl rfl rfl ?_) | refine j_conv rfl rfl rfl rfl rfl (wrap_u64 (by omega) (by omega)) rfl rfl ?_ | refine j_convB rfl rfl rfl rfl rfl (by omega) rfl rfl ?_ | refine j_b2s rfl rfl rfl rfl rfl rfl rfl rfl ?_ | refine j_b2s1 rfl rfl rfl rfl rfl rfl rfl rfl ?_)
      | refine j_nil ?_
      | (refine r_go ?_; first | refine run_seq ?_ | refine run_region ?_ | refine run_cond_t rfl ?_ | refine run_cond_f rfl ?_ | (refine (run_if rfl (fun hb => ?_) (fun hb => ?_)) <;> first | (exfalso; omega) | skip) | (refine (run_ifn rfl (fun hb => ?_) (fun hb => ?_)) <;> first | (exfalso; omega) | skip) | refine run_block ?_ | refine run_ret ?_ | refine run_exit ?_ | refine run_skip ?_ | refine run_regionD (by kernel_rfl) ?_ | refine run_condn rfl (fun hb => ?_) (fun hb => ?_) | refine run_cond rfl (fun hb => ?_) (fun hb => ?_))
      | refine seqQ_normal ?_ | refine seqQ_ret ?_ | refine seqQ_exit ?_ | refine blockQ_normal ?_ | refine blockQ_ret ?_ | refine blockQ_eq ?_ | refine blockQ_ne rfl ?_ | refine loopQ_ret ?_ | refine loopQ_exit ?_)
        exact loopQ_next (k + 1, b', cap') (by dsimp only; omega) (by dsimp only; omega) rfl ⟨rfl, rfl, rfl, nx _, trivial⟩
      · refine j_append 0 (g := encW) [[UInt8.ofNat (97 + (k : Int)).toNat]] rfl rfl rfl rfl rfl rfl rfl rfl rfl rfl rfl rfl (fun _ => rfl) (fun _ _ => rfl) ⟨by simp only [List.length_cons, List.length_nil]; omega, by simp only [List.length_cons, List.length_nil]; omega⟩ rfl rfl (fun b' cap' => ?_)
        rw [← kind_one (by assumption), ← es]
        repeat' (first
      | (refine j_go ?_; first
        | refine j_op0 rfl rfl rfl rfl ?_ | (refine j_kIdx rfl ?_; first | refine j_idx rfl rfl rfl rfl rfl (by omega) rfl rfl rfl ?_ | refine j_midx rfl rfl rfl rfl rfl (by first | omega | (simp only [List.length_append, List.length_cons, List.length_nil]; omega)) rfl rfl ?_ | refine j_idxz rfl rfl rfl rfl rfl ⟨by omega, by omega⟩ rfl rfl rfl ?_ | refine j_midxz rfl rfl rfl rfl rfl (by first | omega | (simp only [List.length_append, List.length_cons, List.length_nil]; omega)) rfl rfl ?_ | refine j_aidx rfl rfl rfl rfl rfl (by omega) rfl rfl ?_ | refine j_aidxz rfl rfl rfl rfl rfl (by omega) rfl rfl ?_) | (refine j_kBin rfl ?_; first | refine j_in rfl rfl ⟨by omega, by omega⟩ rfl rfl ?_ | refine j_cat rfl rfl rfl rfl (by first | omega | (simp only [List.length_append, List.length_cons, List.length_nil]; omega)) rfl rfl ?_) | (refine j_kLen rfl ?_; first | refine j_len rfl rfl rfl rfl rfl rfl ?_ | refine j_op rfl rfl rfl rfl ?_) | (refine j_kLoad rfl ?_; first | refine j_mload 0 rfl rfl rfl rfl rfl rfl rfl ?_ | refine j_mload 1 rfl rfl rfl rfl rfl rfl rfl ?_ | refine j_mload 2 rfl rfl rfl rfl rfl rfl rfl ?_) | (refine j_kBsl rfl ?_; first | refine j_bs0 rfl rfl rfl rfl rfl rfl ?_ | refine j_bsl rfl rfl rfl rfl rfl rfl rfl rfl rfl rfl rfl ?_) | refine j_conv rfl rfl rfl rfl rfl (wrap_u64 (by omega) (by omega)) rfl rfl ?_ | refine j_convB rfl rfl rfl rfl rfl (by omega) rfl rfl ?_ | refine j_b2s rfl rfl rfl rfl rfl rfl rfl rfl ?_ | refine j_b2s1 rfl rfl rfl rfl rfl rfl rfl rfl ?_)
      | refine j_nil ?_
      | (refine r_go ?_; first | refine run_seq ?_ | refine run_region ?_ | refine run_cond_t rfl ?_ | refine run_cond_f rfl ?_ | (refine (run_if rfl (fun hb => ?_) (fun hb => ?_)) <;> first | (exfalso; omega) | skip) | (refine (run_ifn rfl (fun hb => ?_) (fun hb => ?_)) <;> first | (exfalso; omega) | skip) | refine run_block ?_ | refine run_ret ?_ | refine run_exit ?_ | refine run_skip ?_ | refine run_regionD (by kernel_rfl) ?_ | refine run_condn rfl (fun hb => ?_) (fun hb => ?_) | refine run_cond rfl (fun hb => ?_) (fun hb => ?_))
      | refine seqQ_normal ?_ | refine seqQ_ret ?_ | refine seqQ_exit ?_ | refine blockQ_normal ?_ | refine blockQ_ret ?_ | refine blockQ_eq ?_ | refine blockQ_ne rfl ?_ | refine loopQ_ret ?_ | refine loopQ_exit ?_)
        exact loopQ_next (k + 1, b', cap') (by dsimp only; omega) (by dsimp only; omega) rfl ⟨rfl, rfl, rfl, nx _, trivial⟩
    · have es := bagWs_zero hk h0
      repeat' (first
      | (refine j_go ?_; first
        | refine j_op0 rfl rfl rfl rfl ?_ | (refine j_kIdx rfl ?_; first | refine j_idx rfl rfl rfl rfl rfl (by omega) rfl rfl rfl ?_ | refine j_midx rfl rfl rfl rfl rfl (by first | omega | (simp only [List.length_append, List.length_cons, List.length_nil]; omega)) rfl rfl ?_ | refine j_idxz rfl rfl rfl rfl rfl ⟨by omega, by omega⟩ rfl rfl rfl ?_ | refine j_midxz rfl rfl rfl rfl rfl (by first | omega | (simp only [List.length_append, List.length_cons, List.length_nil]; omega)) rfl rfl ?_ | refine j_aidx rfl rfl rfl rfl rfl (by omega) rfl rfl ?_ | refine j_aidxz rfl rfl rfl rfl rfl (by omega) rfl rfl ?_) | (refine j_kBin rfl ?_; first | refine j_in rfl rfl ⟨by omega, by omega⟩ rfl rfl ?_ | refine j_cat rfl rfl rfl rfl (by first | omega | (simp only [List.length_append, List.length_cons, List.length_nil]; omega)) rfl rfl ?_) | (refine j_kLen rfl ?_; first | refine j_len rfl rfl rfl rfl rfl rfl ?_ | refine j_op rfl rfl rfl rfl ?_) | (refine j_kCall rfl rfl rfl rfl ?_; first | refine jcT (by first | exact hK | exact List.mem_cons_of_mem _ hK | exact List.mem_cons_of_mem _ (List.mem_cons_of_mem _ hK) | simp [hK]) (c_decimal _ ⟨by omega, by omega⟩) (LeL.refl _) rfl rfl ?_ | refine jcT (by first | exact hK | exact List.mem_cons_of_mem _ hK | exact List.mem_cons_of_mem _ (List.mem_cons_of_mem _ hK) | simp [hK]) (c_decimal _ ⟨by omega, by omega⟩) (by repeat' (first | exact LeL.nil | refine LeL.cons ?_ ?_ | exact Le.refl _ | exact Le.nilm _ _ | exact Le.nil _ | refine Le.agg ?_)) rfl rfl ?_) | (refine j_kLoad rfl ?_; first | refine j_mload 0 rfl rfl rfl rfl rfl rfl rfl ?_ | refine j_mload 1 rfl rfl rfl rfl rfl rfl rfl ?_ | refine j_mload 2 rfl rfl rfl rfl rfl rfl rfl ?_) | (refine j_kBsl rfl ?_; first | refine j_bs0 rfl rfl rfl rfl rfl rfl ?_ | refine j_bsl rfl rfl rfl rfl rfl rfl rfl rfl rfl rfl rfl ?_) | refine j_conv rfl rfl rfl rfl rfl (wrap_u64 (by omega) (by omega)) rfl rfl ?_ | refine j_convB rfl rfl rfl rfl rfl (by omega) rfl rfl ?_ | refine j_b2s rfl rfl rfl rfl rfl rfl rfl rfl ?_ | refine j_b2s1 rfl rfl rfl rfl rfl rfl rfl rfl ?_)
      | refine j_nil ?_
      | (refine r_go ?_; first | refine run_seq ?_ | refine run_region ?_ | refine run_cond_t rfl ?_ | refine run_cond_f rfl ?_ | (refine (run_if rfl (fun hb => ?_) (fun hb => ?_)) <;> first | (exfalso; omega) | skip) | (refine (run_ifn rfl (fun hb => ?_) (fun hb => ?_)) <;> first | (exfalso; omega) | skip) | refine run_block ?_ | refine run_ret ?_ | refine run_exit ?_ | refine run_skip ?_ | refine run_regionD (by kernel_rfl) ?_ | refine run_condn rfl (fun hb => ?_) (fun hb => ?_) | refine run_cond rfl (fun hb => ?_) (fun hb => ?_))
      | refine seqQ_normal ?_ | refine seqQ_ret ?_ | refine seqQ_exit ?_ | refine blockQ_normal ?_ | refine blockQ_ret ?_ | refine blockQ_eq ?_ | refine blockQ_ne rfl ?_ | refine loopQ_ret ?_ | refine loopQ_exit ?_)
      all_goals first
        | (exfalso; omega)
        | exact loopQ_next (k + 1, ob, cp) (by dsimp only; omega) (by dsimp only; omega) (by dsimp only; rw [es]) ⟨rfl, rfl, (by dsimp only; rw [es]; rfl), nx _, trivial⟩
        | trace_state
  · have hke : k = b.length := by omega
    subst hke
    repeat' (first
      | (refine j_go ?_; first
        | refine j_op0 rfl rfl rfl rfl ?_ | (refine j_kIdx rfl ?_; first | refine j_idx rfl rfl rfl rfl rfl (by omega) rfl rfl rfl ?_ | refine j_midx rfl rfl rfl rfl rfl (by first | omega | (simp only [List.length_append, List.length_cons, List.length_nil]; omega)) rfl rfl ?_ | refine j_idxz rfl rfl rfl rfl rfl ⟨by omega, by omega⟩ rfl rfl rfl ?_ | refine j_midxz rfl rfl rfl rfl rfl (by first | omega | (simp only [List.length_append, List.length_cons, List.length_nil]; omega)) rfl rfl ?_ | refine j_aidx rfl rfl rfl rfl rfl (by omega) rfl rfl ?_ | refine j_aidxz rfl rfl rfl rfl rfl (by omega) rfl rfl ?_) | (refine j_kBin rfl ?_; first | refine j_in rfl rfl ⟨by omega, by omega⟩ rfl rfl ?_ | refine j_cat rfl rfl rfl rfl (by first | omega | (simp only [List.length_append, List.length_cons, List.length_nil]; omega)) rfl rfl ?_) | (refine j_kLen rfl ?_; first | refine j_len rfl rfl rfl rfl rfl rfl ?_ | refine j_op rfl rfl rfl rfl ?_) | (refine j_kLoad rfl ?_; first | refine j_mload 0 rfl rfl rfl rfl rfl rfl rfl ?_ | refine j_mload 1 rfl rfl rfl rfl rfl rfl rfl ?_ | refine j_mload 2 rfl rfl rfl rfl rfl rfl rfl ?_) | (refine j_kBsl rfl ?_; first | refine j_bs0 rfl rfl rfl rfl rfl rfl ?_ | refine j_bsl rfl rfl rfl rfl rfl rfl rfl rfl rfl rfl rfl ?_) | refine j_conv rfl rfl rfl rfl rfl (wrap_u64 (by omega) (by omega)) rfl rfl ?_ | refine j_convB rfl rfl rfl rfl rfl (by omega) rfl rfl ?_ | refine j_b2s rfl rfl rfl rfl rfl rfl rfl rfl ?_ | refine j_b2s1 rfl rfl rfl rfl rfl rfl rfl rfl ?_)
      | refine j_nil ?_
      | (refine r_go ?_; first | refine run_seq ?_ | refine run_region ?_ | refine run_cond_t rfl ?_ | refine run_cond_f rfl ?_ | (refine (run_if rfl (fun hb => ?_) (fun hb => ?_)) <;> first | (exfalso; omega) | skip) | (refine (run_ifn rfl (fun hb => ?_) (fun hb => ?_)) <;> first | (exfalso; omega) | skip) | refine run_block ?_ | refine run_ret ?_ | refine run_exit ?_ | refine run_skip ?_ | refine run_regionD (by kernel_rfl) ?_ | refine run_condn rfl (fun hb => ?_) (fun hb => ?_) | refine run_cond rfl (fun hb => ?_) (fun hb => ?_))
      | refine seqQ_normal ?_ | refine seqQ_ret ?_ | refine seqQ_exit ?_ | refine blockQ_normal ?_ | refine blockQ_ret ?_ | refine blockQ_eq ?_ | refine blockQ_ne rfl ?_ | refine loopQ_ret ?_ | refine loopQ_exit ?_)
    · have e0 : bagWs b b.length = [] := List.eq_nil_of_length_eq_zero (by omega)
      exact end1 rfl sub1 (st (by unfold bagT; rw [if_pos e0])) (.inl rfl)
    · have e0 : ¬ bagWs b b.length = [] := fun q => by rw [q] at hb; simp at hb
      have jl := bagTk_len hb1 (Nat.le_refl b.length)
      refine j_view (view_freeze (g := encW) (z := 1) (ys := bagWs b b.length) 0 36 rfl rfl rfl (fun _ => rfl) rfl rfl) ?_
      repeat' (first
      | (refine j_go ?_; first
        | refine j_op0 rfl rfl rfl rfl ?_ | (refine j_kIdx rfl ?_; first | refine j_idx rfl rfl rfl rfl rfl (by omega) rfl rfl rfl ?_ | refine j_midx rfl rfl rfl rfl rfl (by first | omega | (simp only [List.length_append, List.length_cons, List.length_nil]; omega)) rfl rfl ?_ | refine j_idxz rfl rfl rfl rfl rfl ⟨by omega, by omega⟩ rfl rfl rfl ?_ | refine j_midxz rfl rfl rfl rfl rfl (by first | omega | (simp only [List.length_append, List.length_cons, List.length_nil]; omega)) rfl rfl ?_ | refine j_aidx rfl rfl rfl rfl rfl (by omega) rfl rfl ?_ | refine j_aidxz rfl rfl rfl rfl rfl (by omega) rfl rfl ?_) | (refine j_kBin rfl ?_; first | refine j_in rfl rfl ⟨by omega, by omega⟩ rfl rfl ?_ | refine j_cat rfl rfl rfl rfl (by first | omega | (simp only [List.length_append, List.length_cons, List.length_nil]; omega)) rfl rfl ?_) | (refine j_kLen rfl ?_; first | refine j_len rfl rfl rfl rfl rfl rfl ?_ | refine j_op rfl rfl rfl rfl ?_) | (refine j_kCall rfl rfl rfl rfl ?_; first | refine jc (c_Join (bagWs b b.length) [32] (by omega) (by unfold bagTk at jl; omega)) (LeL.refl _) rfl rfl ?_ | refine jc (c_Join (bagWs b b.length) [32] (by omega) (by unfold bagTk at jl; omega)) (by repeat' (first | exact LeL.nil | refine LeL.cons ?_ ?_ | exact Le.refl _ | exact Le.nilm _ _ | exact Le.nil _ | refine Le.agg ?_)) rfl rfl ?_) | (refine j_kLoad rfl ?_; first | refine j_mload 0 rfl rfl rfl rfl rfl rfl rfl ?_ | refine j_mload 1 rfl rfl rfl rfl rfl rfl rfl ?_ | refine j_mload 2 rfl rfl rfl rfl rfl rfl rfl ?_) | (refine j_kBsl rfl ?_; first | refine j_bs0 rfl rfl rfl rfl rfl rfl ?_ | refine j_bsl rfl rfl rfl rfl rfl rfl rfl rfl rfl rfl rfl ?_) | refine j_conv rfl rfl rfl rfl rfl (wrap_u64 (by omega) (by omega)) rfl rfl ?_ | refine j_convB rfl rfl rfl rfl rfl (by omega) rfl rfl ?_ | refine j_b2s rfl rfl rfl rfl rfl rfl rfl rfl ?_ | refine j_b2s1 rfl rfl rfl rfl rfl rfl rfl rfl ?_)
      | refine j_nil ?_
      | (refine r_go ?_; first | refine run_seq ?_ | refine run_region ?_ | refine run_cond_t rfl ?_ | refine run_cond_f rfl ?_ | (refine (run_if rfl (fun hb => ?_) (fun hb => ?_)) <;> first | (exfalso; omega) | skip) | (refine (run_ifn rfl (fun hb => ?_) (fun hb => ?_)) <;> first | (exfalso; omega) | skip) | refine run_block ?_ | refine run_ret ?_ | refine run_exit ?_ | refine run_skip ?_ | refine run_regionD (by kernel_rfl) ?_ | refine run_condn rfl (fun hb => ?_) (fun hb => ?_) | refine run_cond rfl (fun hb => ?_) (fun hb => ?_))
      | refine seqQ_normal ?_ | refine seqQ_ret ?_ | refine seqQ_exit ?_ | refine blockQ_normal ?_ | refine blockQ_ret ?_ | refine blockQ_eq ?_ | refine blockQ_ne rfl ?_ | refine loopQ_ret ?_ | refine loopQ_exit ?_)
      exact end1 rfl (List.Sublist.refl _) (st (by unfold bagT bagTk; rw [if_neg e0])) (.inl rfl)

end Go.Proofs.YtdlhajkidekjaaaDoor
