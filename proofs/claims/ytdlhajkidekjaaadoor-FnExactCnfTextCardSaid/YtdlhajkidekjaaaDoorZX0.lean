/-
  Numbers and words as texts: strconv.FormatInt, strings.Join, decimal. No condition.
-/
import Derived.Test.YtdlhajkidekjaaaDoorZT
import Derived.Test.YtdlhajkidekjaaaDoorZTM
import Derived.Test.YtdlhajkidekjaaaDoorZSh
import Derived.Test.YtdlhajkidekjaaaDoorZS0
import Derived.Lib.AppendIntMem
namespace Go.Proofs.YtdlhajkidekjaaaDoor
open Go.AI Go.RowKit
set_option maxRecDepth 8000
set_option maxHeartbeats 1600000
/-- The table of powers of ten. -/
def KT : Blk := tabK 0
theorem c_FormatInt (n : Int) (h0 : -9223372036854775808 ≤ n ∧ n ≤ 9223372036854775807) : GivesT Tryd.prog KT 105 [.int n, .int 10] (.str (dcm n)) := by
  refine ⟨⟨Tryd.f105, Tryd.func105, by decide, by rfl⟩, fun h hK w vs hrel hh => ?_⟩
  obtain ⟨v1, us, rfl, h1, h2⟩ := hrel.uncons
  obtain ⟨v2, us2, rfl, h3, h4⟩ := h2.uncons
  have hnl : us2 = [] := List.eq_nil_of_length_eq_zero h4.1
  subst hnl
  obtain ⟨rfl, _⟩ := h1.int_inv
  obtain ⟨rfl, _⟩ := h3.int_inv
  refine (Tryd.strconv_FormatInt_10 n h0.1 h0.2 w (tab_is (by kernel_rfl) hK hh)).mono fun e w' ⟨e1, k, os, e2⟩ => ⟨_, e1, ?_, .str _ ?_⟩
  · subst e2
    exact Chg.ofBelow hh (Lib.below_grow _ w (Nat.le_refl _) k os)
  · have := dcm_len h0
    exact Nat.le_trans this (by decide)
theorem c_decimal (n : Int) (h0 : -9223372036854775808 ≤ n ∧ n ≤ 9223372036854775807) : GivesT Tryd.prog KT 53 [.int n] (.str (dcm n)) := by
  refine fn_of_runT tyOk ztOk mix Tryd.func53 rfl (by decide) Tryd.ntmps53 (fun w0 h hK => ?_)
  repeat' (first
      | (refine j_go ?_; first
        | refine j_op0 rfl rfl rfl rfl ?_ | (refine j_kCall rfl rfl rfl rfl ?_; first | refine jcT (by first | exact hK | exact List.mem_cons_of_mem _ hK | exact List.mem_cons_of_mem _ (List.mem_cons_of_mem _ hK) | simp [hK]) (c_FormatInt _ h0) (LeL.refl _) rfl rfl ?_ | refine jcT (by first | exact hK | exact List.mem_cons_of_mem _ hK | exact List.mem_cons_of_mem _ (List.mem_cons_of_mem _ hK) | simp [hK]) (c_FormatInt _ h0) (by repeat' (first | exact LeL.nil | refine LeL.cons ?_ ?_ | exact Le.refl _ | exact Le.nilm _ _ | exact Le.nil _ | refine Le.agg ?_)) rfl rfl ?_))
      | refine j_nil ?_
      | (refine r_go ?_; first | refine run_seq ?_ | refine run_region ?_ | refine run_cond_t rfl ?_ | refine run_cond_f rfl ?_ | (refine (run_if rfl (fun hb => ?_) (fun hb => ?_)) <;> first | (exfalso; omega) | skip) | (refine (run_ifn rfl (fun hb => ?_) (fun hb => ?_)) <;> first | (exfalso; omega) | skip) | refine run_block ?_ | refine run_ret ?_ | refine run_exit ?_ | refine run_skip ?_ | refine run_regionD (by kernel_rfl) ?_ | refine run_condn rfl (fun hb => ?_) (fun hb => ?_) | refine run_cond rfl (fun hb => ?_) (fun hb => ?_))
      | refine seqQ_normal ?_ | refine seqQ_ret ?_ | refine seqQ_exit ?_ | refine blockQ_normal ?_ | refine blockQ_ret ?_ | refine blockQ_eq ?_ | refine blockQ_ne rfl ?_ | refine loopQ_ret ?_ | refine loopQ_exit ?_)
  exact end1 rfl (List.Sublist.refl _) (rfl) (.inl rfl)
theorem c_Decimal : ∀ (k : Nat) (n : Int), 0 ≤ n → n < (k : Int) → n ≤ 9223372036854775807 → Gives Tryd.prog 89 [.int n] (.str (dcm n))
  | 0, n, h0, h1, _ => absurd h1 (by omega)
  | k + 1, n, h0, h1, h9 => by
    refine fn_of_run tyOk ztOk mix Tryd.func89 rfl (by decide) Tryd.ntmps89 (fun w0 h => ?_)
    by_cases hn : 10 ≤ n
    · have ih := c_Decimal k (n / 10) (by omega) (by omega) (by omega)
      have hl := dcm_len (n := n / 10) ⟨by omega, by omega⟩
      repeat' (first
      | (refine j_go ?_; first
        | refine j_op0 rfl rfl rfl rfl ?_ | (refine j_kBin rfl ?_; first | refine j_in rfl rfl ⟨by omega, by omega⟩ rfl rfl ?_ | refine j_quo rfl rfl rfl rfl (by omega) rfl rfl ?_ | refine j_rem rfl rfl rfl rfl (by omega) rfl rfl ?_ | refine j_cat rfl rfl rfl rfl (by first | omega | (simp only [List.length_append, List.length_cons, List.length_nil]; omega)) rfl rfl ?_) | (refine j_kCall rfl rfl rfl rfl ?_; first | refine jc (ih) (LeL.refl _) rfl rfl ?_ | refine jc (ih) (by repeat' (first | exact LeL.nil | refine LeL.cons ?_ ?_ | exact Le.refl _ | exact Le.nilm _ _ | exact Le.nil _ | refine Le.agg ?_)) rfl rfl ?_) | (refine j_kBsl rfl ?_; first | refine j_bs0 rfl rfl rfl rfl rfl rfl ?_ | refine j_bsl rfl rfl rfl rfl rfl rfl rfl rfl rfl rfl rfl ?_) | refine j_conv rfl rfl rfl rfl rfl (wrap_u64 (by omega) (by omega)) rfl rfl ?_ | refine j_convB rfl rfl rfl rfl rfl (by omega) rfl rfl ?_ | refine j_b2s rfl rfl rfl rfl rfl rfl rfl rfl ?_ | refine j_b2s1 rfl rfl rfl rfl rfl rfl rfl rfl ?_)
      | refine j_nil ?_
      | (refine r_go ?_; first | refine run_seq ?_ | refine run_region ?_ | refine run_cond_t rfl ?_ | refine run_cond_f rfl ?_ | (refine (run_if rfl (fun hb => ?_) (fun hb => ?_)) <;> first | (exfalso; omega) | skip) | (refine (run_ifn rfl (fun hb => ?_) (fun hb => ?_)) <;> first | (exfalso; omega) | skip) | refine run_block ?_ | refine run_ret ?_ | refine run_exit ?_ | refine run_skip ?_ | refine run_regionD (by kernel_rfl) ?_ | refine run_condn rfl (fun hb => ?_) (fun hb => ?_) | refine run_cond rfl (fun hb => ?_) (fun hb => ?_))
      | refine seqQ_normal ?_ | refine seqQ_ret ?_ | refine seqQ_exit ?_ | refine blockQ_normal ?_ | refine blockQ_ret ?_ | refine blockQ_eq ?_ | refine blockQ_ne rfl ?_ | refine loopQ_ret ?_ | refine loopQ_exit ?_)
      exact end1 rfl (List.Sublist.refl _) (by rw [dcm_big hn]) (.inl rfl)
    · repeat' (first
      | (refine j_go ?_; first
        | refine j_op0 rfl rfl rfl rfl ?_ | (refine j_kBin rfl ?_; first | refine j_in rfl rfl ⟨by omega, by omega⟩ rfl rfl ?_ | refine j_quo rfl rfl rfl rfl (by omega) rfl rfl ?_ | refine j_rem rfl rfl rfl rfl (by omega) rfl rfl ?_ | refine j_cat rfl rfl rfl rfl (by first | omega | (simp only [List.length_append, List.length_cons, List.length_nil]; omega)) rfl rfl ?_) | (refine j_kBsl rfl ?_; first | refine j_bs0 rfl rfl rfl rfl rfl rfl ?_ | refine j_bsl rfl rfl rfl rfl rfl rfl rfl rfl rfl rfl rfl ?_) | refine j_conv rfl rfl rfl rfl rfl (wrap_u64 (by omega) (by omega)) rfl rfl ?_ | refine j_convB rfl rfl rfl rfl rfl (by omega) rfl rfl ?_ | refine j_b2s rfl rfl rfl rfl rfl rfl rfl rfl ?_ | refine j_b2s1 rfl rfl rfl rfl rfl rfl rfl rfl ?_)
      | refine j_nil ?_
      | (refine r_go ?_; first | refine run_seq ?_ | refine run_region ?_ | refine run_cond_t rfl ?_ | refine run_cond_f rfl ?_ | (refine (run_if rfl (fun hb => ?_) (fun hb => ?_)) <;> first | (exfalso; omega) | skip) | (refine (run_ifn rfl (fun hb => ?_) (fun hb => ?_)) <;> first | (exfalso; omega) | skip) | refine run_block ?_ | refine run_ret ?_ | refine run_exit ?_ | refine run_skip ?_ | refine run_regionD (by kernel_rfl) ?_ | refine run_condn rfl (fun hb => ?_) (fun hb => ?_) | refine run_cond rfl (fun hb => ?_) (fun hb => ?_))
      | refine seqQ_normal ?_ | refine seqQ_ret ?_ | refine seqQ_exit ?_ | refine blockQ_normal ?_ | refine blockQ_ret ?_ | refine blockQ_eq ?_ | refine blockQ_ne rfl ?_ | refine loopQ_ret ?_ | refine loopQ_exit ?_)
      exact end1 rfl (List.Sublist.refl _) (by rw [dcm_small ⟨h0, by omega⟩]) (.inl rfl)
theorem c_dec (n : Int) (h0 : 0 ≤ n ∧ n ≤ 1000000000) : Gives Tryd.prog 89 [.int n] (.str (dcm n)) := c_Decimal (n.toNat + 1) n h0.1 (by omega) (by omega)

theorem sa {a b : List UInt8} (h : a = b) : some (A.str a) = some (A.str b) := by rw [h]
theorem st {a b : List UInt8} (h : a = b) : A.str a = A.str b := by rw [h]
end Go.Proofs.YtdlhajkidekjaaaDoor
