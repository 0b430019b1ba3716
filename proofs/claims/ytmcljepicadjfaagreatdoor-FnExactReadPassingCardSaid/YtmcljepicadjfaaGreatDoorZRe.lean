/-
  Numbers and words as texts: strconv.FormatInt, strings.Join, decimal. No condition.
-/
import Derived.Test.YtmcljepicadjfaaGreatDoorZT
import Derived.Test.YtmcljepicadjfaaGreatDoorZRd
import Derived.Test.YtmcljepicadjfaaGreatDoorZSh
import Derived.Test.YtmcljepicadjfaaGreatDoorZH6
import Derived.Lib.AppendIntMem
import Derived.Test.YtmcljepicadjfaaGreatDoorZRf
import Derived.Test.YtmcljepicadjfaaGreatDoorZE3
namespace Go.Proofs.YtmcljepicadjfaaGreatDoor
open Go.AI Go.RowKit
set_option maxRecDepth 8000
set_option maxHeartbeats 1600000
/-- The table of powers of ten. -/
def KT : Blk := tabK 3
theorem c_FormatInt (n : Int) (h0 : -9223372036854775808 ≤ n ∧ n ≤ 9223372036854775807) : GivesT Tryz.prog KT 90 [.int n, .int 10] (.str (dcm n)) := by
  refine ⟨⟨Tryz.f90, Tryz.func90, by decide, by rfl⟩, fun h hK w vs hrel hh => ?_⟩
  obtain ⟨v1, us, rfl, h1, h2⟩ := hrel.uncons
  obtain ⟨v2, us2, rfl, h3, h4⟩ := h2.uncons
  have hnl : us2 = [] := List.eq_nil_of_length_eq_zero h4.1
  subst hnl
  obtain ⟨rfl, _⟩ := h1.int_inv
  obtain ⟨rfl, _⟩ := h3.int_inv
  refine (Tryz.strconv_FormatInt_10 n h0.1 h0.2 w (tab_is (by kernel_rfl) hK hh)).mono fun e w' ⟨e1, k, os, e2⟩ => ⟨_, e1, ?_, .str _ ?_⟩
  · subst e2
    exact Chg.ofBelow hh (Lib.below_grow _ w (Nat.le_refl _) k os)
  · have := dcm_len h0
    exact Nat.le_trans this (by decide)
theorem c_decimal (n : Int) (h0 : -9223372036854775808 ≤ n ∧ n ≤ 9223372036854775807) : GivesT Tryz.prog KT 38 [.int n] (.str (dcm n)) := by
  refine fn_of_runT tyOk ztOk mix Tryz.func38 rfl (by decide) Tryz.ntmps38 (fun w0 h hK => ?_)
  repeat' (first
      | (refine j_go ?_; first
        | refine j_op0 rfl rfl rfl rfl ?_ | (refine j_kCall rfl rfl rfl rfl ?_; first | refine jcT (by first | exact hK | exact List.mem_cons_of_mem _ hK | exact List.mem_cons_of_mem _ (List.mem_cons_of_mem _ hK) | simp [hK]) (c_FormatInt _ h0) (LeL.refl _) rfl rfl ?_))
      | refine j_nil ?_
      | (refine r_go ?_; first | refine run_seq ?_ | refine run_region ?_ | refine run_ret ?_)
      | refine seqQ_normal ?_)
  exact end1 rfl (List.Sublist.refl _) (rfl) (.inl rfl)
theorem c_Join (ws : List (List UInt8)) (sep : List UInt8) (hN : ws.length ≤ 1000000) (hl : (Lib.join ws sep).length ≤ 100000000) : Gives Tryz.prog 91 [.sl (ws.map encW), .str sep] (.str (Lib.join ws sep)) := by
  refine ⟨⟨Tryz.f91, Tryz.func91, by decide, by rfl⟩, fun h w vs hrel hh => ?_⟩
  obtain ⟨v1, us, rfl, h1, h2⟩ := hrel.uncons
  obtain ⟨v2, us2, rfl, h3, h4⟩ := h2.uncons
  have hnl : us2 = [] := List.eq_nil_of_length_eq_zero h4.1
  subst hnl
  obtain ⟨rfl, _⟩ := h3.str_inv
  cases ws with
  | nil =>
    have q : ∃ a c, v1 = .slice a 0 c := by
      cases h1 with
      | nil a c => exact ⟨a, c, rfl⟩
      | sl xs b off cap sz V hS hlen hcap hsz hc hr => exact ⟨_, _, rfl⟩
    obtain ⟨a, c, rfl⟩ := q
    exact (Tryz.strings_Join_none a c _ w).mono fun e w' ⟨e1, e2⟩ => ⟨_, e1, by subst e2; exact Chg.refl hh, .str [] (by decide)⟩
  | cons x ws =>
    have q : ∃ b off cap, v1 = .slice (some ⟨b, off, none⟩) (x :: ws).length cap ∧ (x :: ws).length ≤ cap ∧ b < w.heap.size ∧ ∀ (j : Nat) (y : ByteArray), (((x :: ws).map fun z => (⟨z.toArray⟩ : ByteArray)))[j]? = some y → w.cell? ⟨b, off + j, none⟩ = some (.string y) := by
      generalize hL : (x :: ws).map encW = L at h1
      cases h1 with
      | nil a c => simp at hL
      | sl xs b off cap sz V hS hlen hcap hsz hc hr =>
        subst hL
        refine ⟨b, off, cap, by simp, by simpa using hcap, hS.1, fun j y hy => ?_⟩
        have hj : j < (x :: ws).length := by
          have := (List.getElem?_eq_some_iff.1 hy).1
          simpa using this
        have hj2 : j < ((x :: ws).map encW).length := by simpa using hj
        have hs1 : sz = 1 := by
          have := hsz 0 (by simp)
          simpa [encW] using this.symm
        subst hs1
        have h5 := hc j 0 hj2 (by decide)
        have h6 := hr j 0 hj2 (by rw [hsz j hj2]; decide)
        simp only [List.getElem_map, encW, List.getElem_cons_zero] at h6
        have h7 := h6.str_inv.1
        rw [Nat.mul_one, Nat.add_zero] at h5
        rw [h5, h7]
        rw [List.getElem?_map, List.getElem?_eq_getElem hj] at hy
        simp only [Option.map_some, Option.some.injEq] at hy
        rw [hy]
    obtain ⟨b, off, cap, rfl, hcap, hb, hcells⟩ := q
    have em : (((x :: ws).map fun z => (⟨z.toArray⟩ : ByteArray)).map (·.data.toList)) = x :: ws := by simp [Function.comp_def]
    have hlen : (((x :: ws).map fun z => (⟨z.toArray⟩ : ByteArray))).length = (x :: ws).length := by simp
    have := Tryz.strings_Join b off cap ((x :: ws).map fun z => (⟨z.toArray⟩ : ByteArray)) ⟨sep.toArray⟩ w hcells hb (by rw [hlen]; omega) (by rw [hlen]; exact hcap) (by rw [em]; exact Nat.le_trans hl (by decide))
    rw [hlen, em] at this
    exact this.mono fun e w' ⟨e1, e2⟩ => ⟨_, e1, Chg.ofBelow hh e2, .str _ (Nat.le_trans hl (by decide))⟩
theorem c_Decimal : ∀ (k : Nat) (n : Int), 0 ≤ n → n < (k : Int) → n ≤ 9223372036854775807 → Gives Tryz.prog 97 [.int n] (.str (dcm n))
  | 0, n, h0, h1, _ => absurd h1 (by omega)
  | k + 1, n, h0, h1, h9 => by
    refine fn_of_run tyOk ztOk mix Tryz.func97 rfl (by decide) Tryz.ntmps97 (fun w0 h => ?_)
    by_cases hn : 10 ≤ n
    · have ih := c_Decimal k (n / 10) (by omega) (by omega) (by omega)
      have hl := dcm_len (n := n / 10) ⟨by omega, by omega⟩
      repeat' (first
      | (refine j_go ?_; first
        | refine j_op0 rfl rfl rfl rfl ?_ | (refine j_kBin rfl ?_; first | refine j_in rfl rfl ⟨by omega, by omega⟩ rfl rfl ?_ | refine j_quo rfl rfl rfl rfl (by omega) rfl rfl ?_ | refine j_rem rfl rfl rfl rfl (by omega) rfl rfl ?_ | refine j_cat rfl rfl rfl rfl (by first | omega | (simp only [List.length_append, List.length_cons, List.length_nil]; omega)) rfl rfl ?_) | (refine j_kCall rfl rfl rfl rfl ?_; first | refine jc (ih) (LeL.refl _) rfl rfl ?_) | (refine j_kBsl rfl ?_; first | refine j_bsl rfl rfl rfl rfl rfl rfl rfl rfl rfl rfl rfl ?_) | refine j_convB rfl rfl rfl rfl rfl (by omega) rfl rfl ?_ | refine j_b2s1 rfl rfl rfl rfl rfl rfl rfl rfl ?_)
      | refine j_nil ?_
      | (refine r_go ?_; first | refine run_seq ?_ | refine run_region ?_ | (refine (run_if rfl (fun hb => ?_) (fun hb => ?_)) <;> first | (exfalso; omega) | skip) | refine run_ret ?_ | refine run_regionD (by kernel_rfl) ?_)
      | refine seqQ_normal ?_ | refine seqQ_ret ?_)
      exact end1 rfl (List.Sublist.refl _) (by rw [dcm_big hn]) (.inl rfl)
    · repeat' (first
      | (refine j_go ?_; first
        | refine j_op0 rfl rfl rfl rfl ?_ | (refine j_kBin rfl ?_; first | refine j_in rfl rfl ⟨by omega, by omega⟩ rfl rfl ?_) | (refine j_kBsl rfl ?_; first | refine j_bsl rfl rfl rfl rfl rfl rfl rfl rfl rfl rfl rfl ?_) | refine j_convB rfl rfl rfl rfl rfl (by omega) rfl rfl ?_ | refine j_b2s1 rfl rfl rfl rfl rfl rfl rfl rfl ?_)
      | refine j_nil ?_
      | (refine r_go ?_; first | refine run_seq ?_ | refine run_region ?_ | (refine (run_if rfl (fun hb => ?_) (fun hb => ?_)) <;> first | (exfalso; omega) | skip) | refine run_ret ?_ | refine run_skip ?_)
      | refine seqQ_normal ?_)
      exact end1 rfl (List.Sublist.refl _) (by rw [dcm_small ⟨h0, by omega⟩]) (.inl rfl)
theorem c_dec (n : Int) (h0 : 0 ≤ n ∧ n ≤ 1000000000) : Gives Tryz.prog 97 [.int n] (.str (dcm n)) := c_Decimal (n.toNat + 1) n h0.1 (by omega) (by omega)

theorem bag_in {b : List Int} (hb : Bag b) : ∀ x ∈ b, 0 ≤ x ∧ x ≤ 1000 := hb.1
theorem kind_big {k : Nat} {n : Int} (h : 1 < n) : kindW k n = [UInt8.ofNat (97 + (k : Int)).toNat] ++ dcm n := by
  unfold kindW; rw [if_pos h]
  have : (97 + (k : Int)).toNat = 97 + k := by omega
  rw [this]; rfl
theorem kind_one {k : Nat} {n : Int} (h : ¬ 1 < n) : kindW k n = [UInt8.ofNat (97 + (k : Int)).toNat] := by
  unfold kindW; rw [if_neg h]
  have : (97 + (k : Int)).toNat = 97 + k := by omega
  rw [this]
theorem sa {a b : List UInt8} (h : a = b) : some (A.str a) = some (A.str b) := by rw [h]
theorem st {a b : List UInt8} (h : a = b) : A.str a = A.str b := by rw [h]
theorem c_l01Text (b : List Int) (hb0 : Bag b) : Gives Tryz.prog 122 [.sl (b.map Go.AI.encI)] (.str (bagT b)) := by
  refine fn_of_run tyOk ztOk mix Tryz.func122 rfl (by decide) Tryz.ntmps122 (fun w0 h => ?_)
  have hb1 := bag_in hb0
  have hb8 := hb0.2
  repeat' (first
      | (refine j_go ?_; first
        | refine j_op0 rfl rfl rfl rfl ?_)
      | refine j_nil ?_
      | (refine r_go ?_; first | refine run_seq ?_ | refine run_region ?_ | refine run_block ?_)
      | refine seqQ_normal ?_)
  refine run_loop (fun k : Nat => [(0, .sl (b.map Go.AI.encI)), (3, .str (bagTk b k)), (4, .int (k : Int))]) (fun _ => _) (fun k => k ≤ b.length ∧ (True)) (fun k => b.length - k) 0 ⟨rfl, (by first | rfl | exact si (by first | omega | (simp; done) | (simp [sumF]; done) | (simp; omega)) | exact raw_f (by simp) | exact raw_t (by simp) | exact sa (by first | (rw [catK_zero]; rfl) | (rw [catK_zero, List.append_nil]; rfl) | (rw [catK_zero, List.append_nil]) | (rw [joinK_zero, List.append_nil]; rfl) | (rw [joinK_zero, List.append_nil]) | (simp [catK]; done))), rfl, trivial⟩ rfl ⟨Nat.zero_le _, by first | (intros; omega) | (simp; done) | rfl | trivial | exact ⟨by simp [sumF], by intros; omega⟩ | exact ⟨by omega, by simp⟩⟩ (fun k ⟨kl, kp⟩ => ?_)
  have tl := bagTk_len hb1 kl
  by_cases hk : k < b.length
  · have hx := hb1 _ (List.getElem_mem hk)
    have dl := dcm_len (n := b[k]) ⟨by omega, by omega⟩
    by_cases h0 : 0 < b[k]
    · have es := bagTk_pos hb1 hk h0
      repeat' (first
      | (refine j_go ?_; first
        | refine j_op0 rfl rfl rfl rfl ?_ | (refine j_kIdx rfl ?_; first | refine j_idx rfl rfl rfl rfl rfl (by omega) rfl rfl rfl ?_) | (refine j_kBin rfl ?_; first | refine j_in rfl rfl ⟨by omega, by omega⟩ rfl rfl ?_ | refine j_cat rfl rfl rfl rfl (by first | omega | (simp only [List.length_append, List.length_cons, List.length_nil]; omega)) rfl rfl ?_) | (refine j_kLen rfl ?_; first | refine j_len rfl rfl rfl rfl rfl rfl ?_) | (refine j_kCall rfl rfl rfl rfl ?_; first | refine jc (c_dec _ ⟨by omega, by omega⟩) (LeL.refl _) rfl rfl ?_) | (refine j_kBsl rfl ?_; first | refine j_bsl rfl rfl rfl rfl rfl rfl rfl rfl rfl rfl rfl ?_) | refine j_convB rfl rfl rfl rfl rfl (by omega) rfl rfl ?_ | refine j_b2s1 rfl rfl rfl rfl rfl rfl rfl rfl ?_)
      | refine j_nil ?_
      | (refine r_go ?_; first | refine run_seq ?_ | refine run_region ?_ | (refine (run_if rfl (fun hb => ?_) (fun hb => ?_)) <;> first | (exfalso; omega) | skip) | (refine (run_ifn rfl (fun hb => ?_) (fun hb => ?_)) <;> first | (exfalso; omega) | skip) | refine run_block ?_ | refine run_skip ?_)
      | refine seqQ_normal ?_ | refine blockQ_normal ?_)
      all_goals first
        | exact loopQ_nextD (k + 1) ⟨by omega, trivial⟩ (by omega) (by first | exact List.Sublist.refl _ | exact sub1 | exact sub2 | exact sub3) ⟨rfl, (by first | rfl | (exact sa (by rw [es, if_neg (show ¬ bagTk b k = [] from by assumption), kind_big (by assumption)]; simp only [List.append_assoc])) | exact si (by omega)), nx _, trivial⟩
        | exact loopQ_nextD (k + 1) ⟨by omega, trivial⟩ (by omega) (by first | exact List.Sublist.refl _ | exact sub1 | exact sub2 | exact sub3) ⟨rfl, (by first | rfl | (exact sa (by rw [es, if_neg (show ¬ bagTk b k = [] from by assumption), kind_one (by assumption)])) | exact si (by omega)), nx _, trivial⟩
        | exact loopQ_nextD (k + 1) ⟨by omega, trivial⟩ (by omega) (by first | exact List.Sublist.refl _ | exact sub1 | exact sub2 | exact sub3) ⟨rfl, (by first | rfl | (exact sa (by rw [es, if_pos (show bagTk b k = [] from by assumption), kind_big (by assumption), show bagTk b k = [] from by assumption]; simp only [List.append_assoc])) | exact si (by omega)), nx _, trivial⟩
        | exact loopQ_nextD (k + 1) ⟨by omega, trivial⟩ (by omega) (by first | exact List.Sublist.refl _ | exact sub1 | exact sub2 | exact sub3) ⟨rfl, (by first | rfl | (exact sa (by rw [es, if_pos (show bagTk b k = [] from by assumption), kind_one (by assumption), show bagTk b k = [] from by assumption])) | exact si (by omega)), nx _, trivial⟩
        | trace_state
    · have es := bagTk_zero hk h0
      repeat' (first
      | (refine j_go ?_; first
        | refine j_op0 rfl rfl rfl rfl ?_ | (refine j_kIdx rfl ?_; first | refine j_idx rfl rfl rfl rfl rfl (by omega) rfl rfl rfl ?_) | (refine j_kBin rfl ?_; first | refine j_in rfl rfl ⟨by omega, by omega⟩ rfl rfl ?_) | (refine j_kLen rfl ?_; first | refine j_len rfl rfl rfl rfl rfl rfl ?_))
      | refine j_nil ?_
      | (refine r_go ?_; first | refine run_seq ?_ | refine run_region ?_ | (refine (run_if rfl (fun hb => ?_) (fun hb => ?_)) <;> first | (exfalso; omega) | skip) | refine run_block ?_ | refine run_exit ?_ | refine run_skip ?_)
      | refine seqQ_normal ?_ | refine seqQ_exit ?_ | refine blockQ_eq ?_)
      all_goals first
        | (exfalso; omega)
        | exact loopQ_nextD (k + 1) ⟨by omega, trivial⟩ (by omega) (by first | exact List.Sublist.refl _ | exact sub1 | exact sub2 | exact sub3) ⟨rfl, (by first | rfl | (exact sa es.symm) | exact si (by omega)), nx _, trivial⟩
        | trace_state
  · have hke : k = b.length := by omega
    subst hke
    repeat' (first
      | (refine j_go ?_; first
        | refine j_op0 rfl rfl rfl rfl ?_ | (refine j_kLen rfl ?_; first | refine j_len rfl rfl rfl rfl rfl rfl ?_))
      | refine j_nil ?_
      | (refine r_go ?_; first | refine run_seq ?_ | refine run_region ?_ | (refine (run_if rfl (fun hb => ?_) (fun hb => ?_)) <;> first | (exfalso; omega) | skip) | refine run_ret ?_ | refine run_exit ?_ | refine run_skip ?_)
      | refine seqQ_normal ?_ | refine seqQ_ret ?_ | refine seqQ_exit ?_ | refine blockQ_eq ?_ | refine loopQ_exit ?_)
    · exact end1 rfl (List.Sublist.refl _) (st (by rw [bagT_eq hb1, if_pos (show bagTk b b.length = [] from by assumption)])) (.inl rfl)
    · exact end1 rfl (List.Sublist.refl _) (st (by rw [bagT_eq hb1, if_neg (show ¬ bagTk b b.length = [] from by assumption)])) (.inl rfl)

theorem c_bagText (b : List Int) (hb0 : Bag b) : GivesT Tryz.prog KT 39 [.sl (b.map Go.AI.encI)] (.str (bagT b)) := by
  refine fn_of_runT tyOk ztOk mix Tryz.func39 rfl (by decide) Tryz.ntmps39 (fun w0 h hK => ?_)
  have hb1 := bag_in hb0
  have hb8 := hb0.2
  repeat' (first
      | (refine j_go ?_; first
        | refine j_op0 rfl rfl rfl rfl ?_ | (refine j_kLen rfl ?_; first | refine j_len rfl rfl rfl rfl rfl rfl ?_) | (refine j_kBsl rfl ?_; first | refine j_bs0 rfl rfl rfl rfl rfl rfl ?_))
      | refine j_nil ?_
      | (refine r_go ?_; first | refine run_seq ?_ | refine run_region ?_ | refine run_block ?_)
      | refine seqQ_normal ?_)
  refine run_view (view_none 9 0 rfl) ?_
  refine run_loop (fun x : Nat × Option Nat × Nat => [(8, .sl (b.map Go.AI.encI)), (9, .int b.length), (3, .os x.2.1 (bagWs b x.1).length x.2.2), (10, .int (x.1 : Int))]) (fun x => ⟨x.2.1, 9, x.2.2 * 1, ((bagWs b x.1).map encW).flatten⟩ :: h) (fun x => x.1 ≤ b.length) (fun x => b.length - x.1) (0, none, 0) ⟨rfl, rfl, rfl, rfl, trivial⟩ rfl (Nat.zero_le _) (fun ⟨k, ob, cp⟩ kl => ?_)
  dsimp only at kl ⊢
  have wl := bagWs_len b k
  by_cases hk : k < b.length
  · have hx := hb1 _ (List.getElem_mem hk)
    have dl := dcm_len (n := b[k]) ⟨by omega, by omega⟩
    by_cases h0 : 0 < b[k]
    · have es := bagWs_pos hk h0
      repeat' (first
      | (refine j_go ?_; first
        | refine j_op0 rfl rfl rfl rfl ?_ | (refine j_kIdx rfl ?_; first | refine j_idx rfl rfl rfl rfl rfl (by omega) rfl rfl rfl ?_) | (refine j_kBin rfl ?_; first | refine j_in rfl rfl ⟨by omega, by omega⟩ rfl rfl ?_ | refine j_cat rfl rfl rfl rfl (by first | omega | (simp only [List.length_append, List.length_cons, List.length_nil]; omega)) rfl rfl ?_) | (refine j_kCall rfl rfl rfl rfl ?_; first | refine jcT (by first | exact hK | exact List.mem_cons_of_mem _ hK | exact List.mem_cons_of_mem _ (List.mem_cons_of_mem _ hK) | simp [hK]) (c_decimal _ ⟨by omega, by omega⟩) (LeL.refl _) rfl rfl ?_) | (refine j_kBsl rfl ?_; first | refine j_bsl rfl rfl rfl rfl rfl rfl rfl rfl rfl rfl rfl ?_) | refine j_convB rfl rfl rfl rfl rfl (by omega) rfl rfl ?_ | refine j_b2s1 rfl rfl rfl rfl rfl rfl rfl rfl ?_)
      | refine j_nil ?_
      | (refine r_go ?_; first | refine run_seq ?_ | refine run_region ?_ | (refine (run_if rfl (fun hb => ?_) (fun hb => ?_)) <;> first | (exfalso; omega) | skip) | refine run_block ?_ | refine run_skip ?_)
      | refine seqQ_normal ?_)
      · refine j_append 0 (g := encW) [[UInt8.ofNat (97 + (k : Int)).toNat] ++ dcm b[k]] rfl rfl rfl rfl rfl rfl rfl rfl rfl rfl rfl rfl (fun _ => rfl) (fun _ _ => rfl) ⟨by simp only [List.length_cons, List.length_nil]; omega, by simp only [List.length_cons, List.length_nil]; omega⟩ rfl rfl (fun b' cap' => ?_)
        rw [← kind_big (by assumption), ← es]
        repeat' (first
      | (refine j_go ?_; first
        | refine j_op0 rfl rfl rfl rfl ?_ | (refine j_kBin rfl ?_; first | refine j_in rfl rfl ⟨by omega, by omega⟩ rfl rfl ?_))
      | refine j_nil ?_
      | (refine r_go ?_; first | refine run_region ?_)
      | refine seqQ_normal ?_ | refine blockQ_normal ?_)
        exact loopQ_next (k + 1, b', cap') (by dsimp only; omega) (by dsimp only; omega) rfl ⟨rfl, rfl, rfl, nx _, trivial⟩
      · refine j_append 0 (g := encW) [[UInt8.ofNat (97 + (k : Int)).toNat]] rfl rfl rfl rfl rfl rfl rfl rfl rfl rfl rfl rfl (fun _ => rfl) (fun _ _ => rfl) ⟨by simp only [List.length_cons, List.length_nil]; omega, by simp only [List.length_cons, List.length_nil]; omega⟩ rfl rfl (fun b' cap' => ?_)
        rw [← kind_one (by assumption), ← es]
        repeat' (first
      | (refine j_go ?_; first
        | refine j_op0 rfl rfl rfl rfl ?_ | (refine j_kBin rfl ?_; first | refine j_in rfl rfl ⟨by omega, by omega⟩ rfl rfl ?_))
      | refine j_nil ?_
      | (refine r_go ?_; first | refine run_region ?_)
      | refine seqQ_normal ?_ | refine blockQ_normal ?_)
        exact loopQ_next (k + 1, b', cap') (by dsimp only; omega) (by dsimp only; omega) rfl ⟨rfl, rfl, rfl, nx _, trivial⟩
    · have es := bagWs_zero hk h0
      repeat' (first
      | (refine j_go ?_; first
        | refine j_op0 rfl rfl rfl rfl ?_ | (refine j_kIdx rfl ?_; first | refine j_idx rfl rfl rfl rfl rfl (by omega) rfl rfl rfl ?_) | (refine j_kBin rfl ?_; first | refine j_in rfl rfl ⟨by omega, by omega⟩ rfl rfl ?_) | (refine j_kBsl rfl ?_; first | refine j_bsl rfl rfl rfl rfl rfl rfl rfl rfl rfl rfl rfl ?_) | refine j_convB rfl rfl rfl rfl rfl (by omega) rfl rfl ?_ | refine j_b2s1 rfl rfl rfl rfl rfl rfl rfl rfl ?_)
      | refine j_nil ?_
      | (refine r_go ?_; first | refine run_seq ?_ | refine run_region ?_ | (refine (run_if rfl (fun hb => ?_) (fun hb => ?_)) <;> first | (exfalso; omega) | skip) | refine run_block ?_ | refine run_skip ?_)
      | refine seqQ_normal ?_ | refine blockQ_normal ?_)
      all_goals first
        | (exfalso; omega)
        | exact loopQ_next (k + 1, ob, cp) (by dsimp only; omega) (by dsimp only; omega) (by dsimp only; rw [es]) ⟨rfl, rfl, (by dsimp only; rw [es]; rfl), nx _, trivial⟩
        | trace_state
  · have hke : k = b.length := by omega
    subst hke
    repeat' (first
      | (refine j_go ?_; first
        | refine j_op0 rfl rfl rfl rfl ?_ | (refine j_kLen rfl ?_; first | refine j_op rfl rfl rfl rfl ?_))
      | refine j_nil ?_
      | (refine r_go ?_; first | refine run_seq ?_ | refine run_region ?_ | (refine (run_if rfl (fun hb => ?_) (fun hb => ?_)) <;> first | (exfalso; omega) | skip) | refine run_ret ?_ | refine run_exit ?_ | refine run_skip ?_)
      | refine seqQ_normal ?_ | refine seqQ_ret ?_ | refine seqQ_exit ?_ | refine blockQ_eq ?_ | refine loopQ_exit ?_)
    · have e0 : bagWs b b.length = [] := List.eq_nil_of_length_eq_zero (by omega)
      exact end1 rfl sub1 (st (by unfold bagT; rw [if_pos e0])) (.inl rfl)
    · have e0 : ¬ bagWs b b.length = [] := fun q => by rw [q] at hb; simp at hb
      have jl := bagTk_len hb1 (Nat.le_refl b.length)
      refine j_view (view_freeze (g := encW) (z := 1) (ys := bagWs b b.length) 0 36 rfl rfl rfl (fun _ => rfl) rfl rfl) ?_
      repeat' (first
      | (refine j_go ?_; first
        | refine j_op0 rfl rfl rfl rfl ?_ | (refine j_kCall rfl rfl rfl rfl ?_; first | refine jc (c_Join (bagWs b b.length) [32] (by omega) (by unfold bagTk at jl; omega)) (LeL.refl _) rfl rfl ?_))
      | refine j_nil ?_
      | (refine r_go ?_; first | refine run_ret ?_)
      | refine seqQ_normal ?_)
      exact end1 rfl (List.Sublist.refl _) (st (by unfold bagT bagTk; rw [if_neg e0])) (.inl rfl)

end Go.Proofs.YtmcljepicadjfaaGreatDoor

/-
  Texts of stocks: StockText. No condition.
-/
namespace Go.Proofs.YtmcljepicadjfaaGreatDoor
open Go.AI Go.RowKit
set_option maxRecDepth 8000
set_option maxHeartbeats 3200000
open Classical in
/-- A text where a condition holds, else the empty one. -/
noncomputable def txS (p : Prop) (l : List UInt8) : List UInt8 := if p then l else []
theorem txs_t {p : Prop} (h : p) (l : List UInt8) : txS p l = l := by unfold txS; rw [if_pos h]
theorem txs_f {p : Prop} (h : ¬p) (l : List UInt8) : txS p l = [] := by unfold txS; rw [if_neg h]
def lineT (b : List Int) : List UInt8 := bagT b ++ [10]
def stockT (s : Stock) : List UInt8 := catK lineT s.cells s.cells.length ++ [97, 114, 111, 117, 110, 100, 32] ++ bagT s.around ++ [10]
theorem c_sBagText (b : List Int) (hb0 : Bag b) : Gives Tryz.prog 98 [.sl (b.map Go.AI.encI)] (.str (bagT b)) := by
  refine fn_of_run tyOk ztOk mix Tryz.func98 rfl (by decide) Tryz.ntmps98 (fun w0 h => ?_)
  repeat' (first
      | (refine j_go ?_; first
        | refine j_op0 rfl rfl rfl rfl ?_ | (refine j_kCall rfl rfl rfl rfl ?_; first | refine jc (c_l01Bag _) (LeL.refl _) rfl rfl ?_ | refine jc (c_l01Text _ hb0) (LeL.refl _) rfl rfl ?_))
      | refine j_nil ?_
      | (refine r_go ?_; first | refine run_seq ?_ | refine run_region ?_ | (refine (run_ifn rfl (fun hb => ?_) (fun hb => ?_)) <;> first | (exfalso; omega) | skip) | refine run_ret ?_ | refine run_skip ?_)
      | refine seqQ_normal ?_ | refine seqQ_ret ?_)
  all_goals first
    | exact absurd hb0 (by assumption)
    | exact end1 rfl (List.Sublist.refl _) (rfl) (.inl rfl)

end Go.Proofs.YtmcljepicadjfaaGreatDoor

/-
  Texts cut and read by the library: strings.Split, strconv.ParseInt, strings.Cut, strings.CutPrefix. No condition.
-/
namespace Go.Proofs.YtmcljepicadjfaaGreatDoor
open Go.AI Go.RowKit
set_option maxRecDepth 8000
set_option maxHeartbeats 1600000
/-- Where the library's variables stand, so does the table. -/
theorem gT {f : FuncId} {xs : List A} {v : A} (H : GivesT Tryz.prog KT f xs v) : Gives Tryz.prog f xs v := by
  refine ⟨H.1, fun h w vs hrel hh => ?_⟩
  have hk : keys (KT :: h) = keys h := by simp [keys, KT, tabK]
  have im : ∀ b, Im w h b → Im w (KT :: h) b ∧ w.heap[b]? = w.heap[b]? := fun b hb => ⟨⟨hb.1, by rw [hk]; exact hb.2⟩, rfl⟩
  have hh2 : HeapOk (KT :: h) w := ⟨by rw [hk]; exact hh.nodup, fun k hkm => by
    rcases List.mem_cons.1 hkm with rfl | hkm
    · exact ⟨rfl, RoomOk.sign _⟩
    · exact (hh.blk k hkm).stab im fun _ _ => rfl, hh.tab.stab im⟩
  refine (H.2 (KT :: h) (List.mem_cons_self) w vs (hrel.stab im) hh2).mono fun e w' ⟨u, e1, e2, e3⟩ => ⟨u, e1, ?_, ?_⟩
  · have q := e2.heap.sub (List.sublist_cons_self KT h)
    exact ⟨e2.os, e2.tape, e2.output, e2.size, fun k q1 q2 => e2.block k q1 (by rw [hk]; exact q2), fun b hb => by have := e2.new b (by rw [hk]; exact hb); rwa [hk] at this, q⟩
  · exact e3.heap (List.sublist_cons_self KT h)
theorem rel_words {h : Heap} {w w' : World} {ws : List (List UInt8)} {bs : List ByteArray} {T : TypeId} (hh : HeapOk h w) (hws : bs.map (·.data.toList) = ws) (hl : ∀ x ∈ ws, x.length ≤ maxLn) (hn : ws.length ≤ maxLn)
    (hw : w' = w.alloc (.cells ((bs.map Value.string).toArray) T)) : Rel (Im w' h) w' (.sl (ws.map encW)) (.slice (some ⟨w.heap.size, 0, none⟩) bs.length bs.length) := by
  have hb : w'.heap[w.heap.size]? = some (.cells ((bs.map Value.string).toArray) T (0, 0)) := by subst hw; exact heap_new w _
  have hlen : bs.length = (ws.map encW).length := by rw [← hws]; simp
  have e1 : bs.length = ws.length := by rw [← hws]; simp
  conv => rhs; rw [show bs.length = (ws.map encW).length from hlen]
  refine .sl _ w.heap.size 0 (ws.map encW).length 1 (fun i _ => (bs.map Value.string).getD i undef) ⟨?_, fun hk => ?_⟩ (by simpa using hn) (Nat.le_refl _) (fun i hi => by simp [encW]) (fun i j hi hj => ?_) (fun i j hi hj => ?_)
  · subst hw; simp
  · exact Nat.lt_irrefl _ (hh.lt hk)
  · rw [List.length_map] at hi
    have hi2 : i < bs.length := by omega
    have hj0 : j = 0 := by omega
    subst hj0
    simp [World.cell?, hb, hi2]
  · rw [List.length_map] at hi
    have hi2 : i < bs.length := by omega
    have hj0 : j = 0 := by simpa [encW] using hj
    subst hj0
    have e2 : ws[i] = bs[i].data.toList := by subst hws; simp
    have e3 : (bs.map Value.string).getD i undef = .string ⟨(bs[i].data.toList).toArray⟩ := by simp [hi2]
    simp only [List.getElem_map, encW, List.getElem_cons_zero, e3, e2]
    exact .str _ (by rw [← e2]; exact hl _ (List.getElem_mem hi))
theorem c_Split (s : List UInt8) (c : UInt8) (hs : s.length < 4294967281) : Gives Tryz.prog 33 [.str s, .str [c]] (.sl ((spl c s).map encW)) := by
  refine ⟨⟨Tryz.f33, Tryz.func33, by decide, by rfl⟩, fun h w vs hrel hh => ?_⟩
  obtain ⟨v1, us, rfl, h1, h2⟩ := hrel.uncons
  obtain ⟨v2, us2, rfl, h3, h4⟩ := h2.uncons
  have hnl : us2 = [] := List.eq_nil_of_length_eq_zero h4.1
  subst hnl
  obtain ⟨rfl, _⟩ := h1.str_inv
  obtain ⟨rfl, _⟩ := h3.str_inv
  obtain ⟨_, m, hm⟩ := hh.tab.max
  have ed := Lib.splitB_data ⟨[c].toArray⟩ 0 (Lib.countB ⟨s.toArray⟩ ⟨[c].toArray⟩) ⟨s.toArray⟩
  have ec : Lib.countB ⟨s.toArray⟩ ⟨[c].toArray⟩ = s.count c := Lib.count_one c s
  have ed2 : (Lib.splitB ⟨[c].toArray⟩ 0 (Lib.countB ⟨s.toArray⟩ ⟨[c].toArray⟩) ⟨s.toArray⟩).map (·.data.toList) = spl c s := by
    rw [ed, ec]; exact splitK_spl c s
  have el : (Lib.splitB ⟨[c].toArray⟩ 0 (Lib.countB ⟨s.toArray⟩ ⟨[c].toArray⟩) ⟨s.toArray⟩).length = Lib.countB ⟨s.toArray⟩ ⟨[c].toArray⟩ + 1 := by
    have := congrArg List.length ed2
    rw [List.length_map, spl_count] at this
    rw [this, ec]
  have ll := spl_len c s
  have big : (4294967281 : Nat) ≤ maxLn := by decide
  refine (Tryz.strings_Split ⟨s.toArray⟩ ⟨[c].toArray⟩ m w (by rw [str_size]; exact hs) hm (by rw [str_size]; simp)).mono fun e w' ⟨e1, e2⟩ => ⟨_, e1, ?_, ?_⟩
  · subst e2; exact Chg.ofExt hh (Ext.alloc w _)
  · rw [← el]
    exact rel_words hh ed2 (fun x hx => by have := (spl_mem c s x hx).1; omega) (by omega) e2
theorem chg_bytes {h : Heap} {w w' : World} {t : TypeId} (hh : HeapOk h w) (hw : w' = w ∨ ∃ x, w' = Lib.bytesWorld w t x) : Chg h h w w' := by
  rcases hw with rfl | ⟨x, rfl⟩
  · exact Chg.refl hh
  · exact Chg.ofBelow hh (Lib.bytesWorld_below _ _ _)
theorem c_PIok (s : List UInt8) (hs : s.length ≤ 281474976710656) (hp : pIok s = true) : Gives Tryz.prog 31 [.str s, .int 10, .int 64] (.tup [.int (pIv s), .raw .nilIface]) := by
  refine ⟨⟨Tryz.f31, Tryz.func31, by decide, by rfl⟩, fun h w vs hrel hh => ?_⟩
  obtain ⟨v1, us, rfl, h1, h2⟩ := hrel.uncons
  obtain ⟨v2, us2, rfl, h3, h4⟩ := h2.uncons
  obtain ⟨v3, us3, rfl, h5, h6⟩ := h4.uncons
  have hnl : us3 = [] := List.eq_nil_of_length_eq_zero h6.1
  subst hnl
  obtain ⟨rfl, _⟩ := h1.str_inv
  obtain ⟨rfl, _⟩ := h3.int_inv
  obtain ⟨rfl, _⟩ := h5.int_inv
  have hin := pIv_in s
  cases hq : Lib.parseIntB 64 s with
  | ok v =>
    have ev : pIv s = v := by unfold pIv; rw [hq]
    rw [ev] at hin ⊢
    refine (Any.strconv_ParseInt_10_at64_ok Tryz.laysC174 ⟨s.toArray⟩ (by rw [str_size]; omega) v hq w).mono fun e w' ⟨e1, e2⟩ => ⟨_, e1, chg_bytes hh e2, ?_⟩
    exact .tup [.int v, .raw .nilIface] [.int .i64 v, .nilIface] rfl fun j hj hj' => by
      match j, hj with
      | 0, _ => exact .int v hin
      | 1, _ => exact .raw _
  | _ => unfold pIok at hp; rw [hq] at hp; cases hp
theorem c_PIbad (s : List UInt8) (hs : s.length ≤ 281474976710656) (hp : pIok s = false) : Gives Tryz.prog 31 [.str s, .int 10, .int 64] (.tup [.int (pIv s), .any IsIf]) := by
  refine ⟨⟨Tryz.f31, Tryz.func31, by decide, by rfl⟩, fun h w vs hrel hh => ?_⟩
  obtain ⟨v1, us, rfl, h1, h2⟩ := hrel.uncons
  obtain ⟨v2, us2, rfl, h3, h4⟩ := h2.uncons
  obtain ⟨v3, us3, rfl, h5, h6⟩ := h4.uncons
  have hnl : us3 = [] := List.eq_nil_of_length_eq_zero h6.1
  subst hnl
  obtain ⟨rfl, _⟩ := h1.str_inv
  obtain ⟨rfl, _⟩ := h3.int_inv
  obtain ⟨rfl, _⟩ := h5.int_inv
  have hin := pIv_in s
  have tl : ∀ (w' : World) (n : Int) (u : Value), InR n → IsIf u → Rel (Im w' h) w' (.tup [.int n, .any IsIf]) (.tuple #[.int .i64 n, u]) := fun w' n u hn hu =>
    .tup [.int n, .any IsIf] [.int .i64 n, u] rfl fun j hj hj' => by
      match j, hj with
      | 0, _ => exact .int n hn
      | 1, _ => exact .any _ _ hu
  cases hq : Lib.parseIntB 64 s with
  | ok v => unfold pIok at hp; rw [hq] at hp; cases hp
  | range =>
    have ev : pIv s = Lib.intSat 64 s := by unfold pIv; rw [hq]
    rw [ev] at hin ⊢
    obtain ⟨_, v, hv, hi⟩ := hh.tab.rng
    exact (Any.strconv_ParseInt_10_at64_range Tryz.laysC174 ⟨s.toArray⟩ (by rw [str_size]; omega) hq v w hv hi).mono fun e w' ⟨N, e1, _, _, e2⟩ => ⟨_, e1, Chg.ofBelow hh e2, tl _ _ _ hin ⟨_, _, rfl⟩⟩
  | _ =>
    have ev : pIv s = 0 := by unfold pIv; rw [hq]
    rw [ev] at hin ⊢
    obtain ⟨_, v, hv, hi⟩ := hh.tab.syn
    exact (Any.strconv_ParseInt_10_at64_syntax Tryz.laysC174 ⟨s.toArray⟩ (by rw [str_size]; omega) hq v w hv hi).mono fun e w' ⟨N, e1, _, _, e2⟩ => ⟨_, e1, Chg.ofBelow hh e2, tl _ _ _ hin ⟨_, _, rfl⟩⟩
theorem gives_le {P : Program} {f : FuncId} {xs : List A} {v u : A} (H : Gives P f xs v) (hle : Le v u) : Gives P f xs u :=
  ⟨H.1, fun h w vs a b => (H.2 h w vs a b).mono fun _ _ ⟨x, q1, q2, q3⟩ => ⟨x, q1, q2, hle _ _ _ q3⟩⟩
/-- .. whatever the error. -/
theorem c_PI (s : List UInt8) (hs : s.length ≤ 281474976710656) : Gives Tryz.prog 31 [.str s, .int 10, .int 64] (.tup [.int (pIv s), .any fun _ => True]) := by
  have q : ∀ a : A, Le a (.any fun _ => True) := fun a S w v _ => .any _ _ trivial
  cases hp : pIok s with
  | true => exact gives_le (c_PIok s hs hp) (Le.tup (LeL.cons (Le.refl _) (LeL.cons (q _) LeL.nil)))
  | false => exact gives_le (c_PIbad s hs hp) (Le.tup (LeL.cons (Le.refl _) (LeL.cons (q _) LeL.nil)))
theorem clo_str (s : List UInt8) : Clo (.str s) := fun S w S' w' v r => by
  obtain ⟨rfl, hl⟩ := r.str_inv
  exact .str s hl
section
variable {C : Cx} {n : Nat} {Q : Exit → Env → Heap → Prop} {e : Env} {h : Heap} {d : Bool} {l os : List Oper} {o : Oper}
theorem midxu_quiet {T z E sz b ln cap : Nat} {x i : Operand} {c : UInt8} (ho : o.op = .indexAddr T x i) (hT : C.ty T = some ⟨sz, .slice E z⟩) (hx : evO e x = some (.os (some b) ln cap)) (hi : evO e i = some (.u8 c))
    (h1 : c.toNat < ln) : Quiet C.P o e h (.op (some b) (c.toNat * z)) := by
  apply Quiet.of_same
  intro a w hs
  have hops := hs.ops
  rw [ho] at hops
  have hti := C.ok _ _ hT
  simp only [TIok, Bool.and_eq_true] at hti
  have e1 := (hops x (by simp [Op.operands]) _ hx).os_inv.1
  have e2 := (hops i (by simp [Op.operands]) _ hi).u8_inv
  obtain ⟨hu, hz⟩ := und_slice hti.2
  have hs2 := Go.AI.run_sizeOf hz w
  have hrun : (Instr.indexAt T (.slice (some ⟨b, 0, none⟩) ln cap) (.int .u8 (c.toNat : Nat))).run C.P w = .ok (.pointer (some ⟨b, 0 + c.toNat * z, none⟩)) w := by
    simp [Instr.indexAt, asIntOf, underlying, hu, h1, hs2, addr_add]
  rw [Nat.zero_add] at hrun
  refine ⟨.pointer (some ⟨b, c.toNat * z, none⟩), ?_, .op (some b) _⟩
  simp only [execOp, ho, e1, e2]
  rw [Sem.run_bind, hrun]; rfl
theorem j_midxu {T z E sz b ln cap dd : Nat} {x i : Operand} {c : UInt8} (hw : wantE l e o = some true) (ho : o.op = .indexAddr T x i) (hT : C.ty T = some ⟨sz, .slice E z⟩) (hx : evO e x = some (.os (some b) ln cap))
    (hi : evO e i = some (.u8 c)) (hm : c.toNat < ln) (hd : o.dst = some dd) (hn : Nat.blt dd n = true)
    (hj : J d C n l os Q ((dd, .op (some b) (c.toNat * z)) :: e) h) : J d C n l (o :: os) Q e h :=
  j_quiet hw (fun _ => midxu_quiet ho hT hx hi hm) hd hn hj
end
end Go.Proofs.YtmcljepicadjfaaGreatDoor
