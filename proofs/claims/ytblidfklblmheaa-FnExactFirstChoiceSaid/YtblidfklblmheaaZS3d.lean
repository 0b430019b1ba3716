/-
  Choices: what is left of the bags; IsChoice. No condition.
-/
import Derived.Test.YtblidfklblmheaaZS3c
import Derived.Test.YtblidfklblmheaaZS2e
import Derived.Test.YtblidfklblmheaaZE3
namespace Go.Proofs.Ytblidfklblmheaa
open Go.AI
set_option maxRecDepth 8000
set_option maxHeartbeats 1600000

/-- The sum of a list and another one m times. -/
def plusL (a b : List Int) (m : Int) : List Int := List.zipWith (fun x y => x + y * m) a b
theorem plusL_comm (a b : List Int) (m : Int) : List.zipWith (fun x y => x + m * y) a b = plusL a b m := by
  unfold plusL; congr; funext x y; rw [Int.mul_comm]
def Fits (a b : List Int) (m : Int) : Prop := a.length ≤ b.length ∧ a.length ≤ 1000000 ∧ (∀ x ∈ a, -1000000000000 ≤ x ∧ x ≤ 1000000000000) ∧ ∀ y ∈ b, -1000000000000 ≤ y * m ∧ y * m ≤ 1000000000000

theorem c_l01Plus (a b : List Int) (m : Int) (hh : Fits a b m) : Gives Try.prog 173 [.sl (a.map encI), .sl (b.map encI), .int m] (.sl ((plusL a b m).map encI)) := by
  refine fn_of_run tyOk ztOk mix Try.func173 rfl (by decide) Try.ntmps173 (fun w0 h => ?_)
  obtain ⟨hl, hn, ha, hb0⟩ := hh
  have hz := zip_len (g := fun x y => x + y * m) hl
  repeat' (first
      | (refine j_go ?_; first
        | refine j_op0 rfl rfl rfl rfl ?_ | (refine j_kIdx rfl ?_; first | refine j_idx rfl rfl rfl rfl rfl (by omega) rfl rfl rfl ?_ | refine j_midx rfl rfl rfl rfl rfl (by first | omega | (simp only [List.length_append, List.length_cons, List.length_nil]; omega)) rfl rfl ?_ | refine j_idxz rfl rfl rfl rfl rfl ⟨by omega, by omega⟩ rfl rfl rfl ?_ | refine j_midxz rfl rfl rfl rfl rfl (by first | omega | (simp only [List.length_append, List.length_cons, List.length_nil]; omega)) rfl rfl ?_ | refine j_aidx rfl rfl rfl rfl rfl (by omega) rfl rfl ?_ | refine j_aidxz rfl rfl rfl rfl rfl (by omega) rfl rfl ?_) | (refine j_kBin rfl ?_; first | refine j_in rfl rfl ⟨by omega, by omega⟩ rfl rfl ?_) | (refine j_kLen rfl ?_; first | refine j_len rfl rfl rfl rfl rfl rfl ?_ | refine j_op rfl rfl rfl rfl ?_) | (refine j_kLoad rfl ?_; first | refine j_mload 0 rfl rfl rfl rfl rfl rfl rfl ?_ | refine j_mload 1 rfl rfl rfl rfl rfl rfl rfl ?_ | refine j_mload 2 rfl rfl rfl rfl rfl rfl rfl ?_) | (refine j_kBsl rfl ?_; first | refine j_bs0 rfl rfl rfl rfl rfl rfl ?_ | refine j_bsl rfl rfl rfl rfl rfl rfl rfl rfl rfl rfl rfl ?_))
      | refine j_nil ?_
      | (refine j_goO ?_; first
        | refine j_op0O rfl rfl rfl rfl ?_ | (refine j_kIdxO rfl ?_; first | refine j_idxO rfl rfl rfl rfl rfl (by omega) rfl rfl rfl ?_ | refine j_midxO rfl rfl rfl rfl rfl (by first | omega | (simp only [List.length_append, List.length_cons, List.length_nil]; omega)) rfl rfl ?_ | refine j_idxzO rfl rfl rfl rfl rfl ⟨by omega, by omega⟩ rfl rfl rfl ?_ | refine j_midxzO rfl rfl rfl rfl rfl (by first | omega | (simp only [List.length_append, List.length_cons, List.length_nil]; omega)) rfl rfl ?_ | refine j_aidxO rfl rfl rfl rfl rfl (by omega) rfl rfl ?_ | refine j_aidxzO rfl rfl rfl rfl rfl (by omega) rfl rfl ?_) | (refine j_kBinO rfl ?_; first | refine j_inO rfl rfl ⟨by omega, by omega⟩ rfl rfl ?_) | (refine j_kLenO rfl ?_; first | refine j_lenO rfl rfl rfl rfl rfl rfl ?_ | refine j_opO rfl rfl rfl rfl ?_) | (refine j_kLoadO rfl ?_; first | refine j_mloadO 0 rfl rfl rfl rfl rfl rfl rfl rfl ?_ | refine j_mloadO 1 rfl rfl rfl rfl rfl rfl rfl rfl ?_ | refine j_mloadO 2 rfl rfl rfl rfl rfl rfl rfl rfl ?_ | refine j_mloadSO 0 rfl rfl rfl rfl rfl rfl rfl ?_ | refine j_mloadSO 1 rfl rfl rfl rfl rfl rfl rfl ?_ | refine j_mloadSO 2 rfl rfl rfl rfl rfl rfl rfl ?_) | (refine j_kBslO rfl ?_; first | refine j_bs0O rfl rfl rfl rfl rfl rfl ?_ | refine j_bslO rfl rfl rfl rfl rfl rfl rfl rfl rfl rfl rfl ?_))
      | refine j_nilO ?_
      | (refine r_go ?_; first | refine run_seq ?_ | refine run_region ?_ | refine run_cond_t rfl ?_ | refine run_cond_f rfl ?_ | (refine (run_if rfl (fun hb => ?_) (fun hb => ?_)) <;> first | (exfalso; omega) | skip) | (refine (run_ifn rfl (fun hb => ?_) (fun hb => ?_)) <;> first | (exfalso; omega) | skip) | refine run_block ?_ | refine run_ret ?_ | refine run_exit ?_ | refine run_skip ?_ | refine run_opn 5 [⟨0, true, false, false⟩, ⟨1, true, false, false⟩, ⟨2, true, false, false⟩, ⟨3, true, false, false⟩, ⟨4, true, false, false⟩, ⟨5, true, false, false⟩, ⟨6, true, false, false⟩, ⟨7, true, false, false⟩, ⟨8, true, false, false⟩, ⟨9, true, false, false⟩, ⟨10, true, false, false⟩, ⟨11, true, false, false⟩, ⟨12, true, false, false⟩, ⟨13, false, true, false⟩, ⟨14, true, false, false⟩] rfl rfl (by kernel_rfl) ?_ | refine run_regionD (by kernel_rfl) ?_ | refine run_condn rfl (fun hb => ?_) (fun hb => ?_) | refine run_cond rfl (fun hb => ?_) (fun hb => ?_))
      | refine seqQ_normal ?_ | refine seqQ_ret ?_ | refine seqQ_exit ?_ | refine blockQ_normal ?_ | refine blockQ_ret ?_ | refine blockQ_eq ?_ | refine blockQ_ne rfl ?_ | refine loopQ_ret ?_ | refine loopQ_exit ?_)
  refine run_view (view_none 2 0 rfl) ?_
  refine run_loop (fun s : Nat × Option Nat × Nat => [(0, .sl (a.map encI)), (1, .sl (b.map encI)), (2, .int m), (7, .os s.2.1 ((plusL a b m).take s.1).length s.2.2), (8, .int (s.1 : Int))]) (fun s => ⟨s.2.1, 2, s.2.2 * 1, (((plusL a b m).take s.1).map encI).flatten⟩ :: h) (fun s => s.1 ≤ a.length) (fun s => a.length - s.1) (0, none, 0) ⟨rfl, rfl, rfl, rfl, rfl, trivial⟩ rfl (Nat.zero_le _) (fun ⟨k, ob, cp⟩ kl => ?_)
  dsimp only at kl ⊢
  by_cases hk : k < a.length
  · have hkb : k < b.length := by omega
    have hz2 : ((plusL a b m).take k).length = k := by unfold plusL; rw [List.length_take]; omega
    have x1 := ha _ (List.getElem_mem hk)
    have x2 := hb0 _ (List.getElem_mem hkb)
    repeat' (first
      | (refine j_go ?_; first
        | refine j_op0 rfl rfl rfl rfl ?_ | (refine j_kIdx rfl ?_; first | refine j_idx rfl rfl rfl rfl rfl (by omega) rfl rfl rfl ?_ | refine j_midx rfl rfl rfl rfl rfl (by first | omega | (simp only [List.length_append, List.length_cons, List.length_nil]; omega)) rfl rfl ?_ | refine j_idxz rfl rfl rfl rfl rfl ⟨by omega, by omega⟩ rfl rfl rfl ?_ | refine j_midxz rfl rfl rfl rfl rfl (by first | omega | (simp only [List.length_append, List.length_cons, List.length_nil]; omega)) rfl rfl ?_ | refine j_aidx rfl rfl rfl rfl rfl (by omega) rfl rfl ?_ | refine j_aidxz rfl rfl rfl rfl rfl (by omega) rfl rfl ?_) | (refine j_kBin rfl ?_; first | refine j_in rfl rfl ⟨by omega, by omega⟩ rfl rfl ?_) | (refine j_kLen rfl ?_; first | refine j_len rfl rfl rfl rfl rfl rfl ?_ | refine j_op rfl rfl rfl rfl ?_) | (refine j_kLoad rfl ?_; first | refine j_mload 0 rfl rfl rfl rfl rfl rfl rfl ?_ | refine j_mload 1 rfl rfl rfl rfl rfl rfl rfl ?_ | refine j_mload 2 rfl rfl rfl rfl rfl rfl rfl ?_) | (refine j_kBsl rfl ?_; first | refine j_bs0 rfl rfl rfl rfl rfl rfl ?_ | refine j_bsl rfl rfl rfl rfl rfl rfl rfl rfl rfl rfl rfl ?_))
      | refine j_nil ?_
      | (refine j_goO ?_; first
        | refine j_op0O rfl rfl rfl rfl ?_ | (refine j_kIdxO rfl ?_; first | refine j_idxO rfl rfl rfl rfl rfl (by omega) rfl rfl rfl ?_ | refine j_midxO rfl rfl rfl rfl rfl (by first | omega | (simp only [List.length_append, List.length_cons, List.length_nil]; omega)) rfl rfl ?_ | refine j_idxzO rfl rfl rfl rfl rfl ⟨by omega, by omega⟩ rfl rfl rfl ?_ | refine j_midxzO rfl rfl rfl rfl rfl (by first | omega | (simp only [List.length_append, List.length_cons, List.length_nil]; omega)) rfl rfl ?_ | refine j_aidxO rfl rfl rfl rfl rfl (by omega) rfl rfl ?_ | refine j_aidxzO rfl rfl rfl rfl rfl (by omega) rfl rfl ?_) | (refine j_kBinO rfl ?_; first | refine j_inO rfl rfl ⟨by omega, by omega⟩ rfl rfl ?_) | (refine j_kLenO rfl ?_; first | refine j_lenO rfl rfl rfl rfl rfl rfl ?_ | refine j_opO rfl rfl rfl rfl ?_) | (refine j_kLoadO rfl ?_; first | refine j_mloadO 0 rfl rfl rfl rfl rfl rfl rfl rfl ?_ | refine j_mloadO 1 rfl rfl rfl rfl rfl rfl rfl rfl ?_ | refine j_mloadO 2 rfl rfl rfl rfl rfl rfl rfl rfl ?_ | refine j_mloadSO 0 rfl rfl rfl rfl rfl rfl rfl ?_ | refine j_mloadSO 1 rfl rfl rfl rfl rfl rfl rfl ?_ | refine j_mloadSO 2 rfl rfl rfl rfl rfl rfl rfl ?_) | (refine j_kBslO rfl ?_; first | refine j_bs0O rfl rfl rfl rfl rfl rfl ?_ | refine j_bslO rfl rfl rfl rfl rfl rfl rfl rfl rfl rfl rfl ?_))
      | refine j_nilO ?_
      | (refine r_go ?_; first | refine run_seq ?_ | refine run_region ?_ | refine run_cond_t rfl ?_ | refine run_cond_f rfl ?_ | (refine (run_if rfl (fun hb => ?_) (fun hb => ?_)) <;> first | (exfalso; omega) | skip) | (refine (run_ifn rfl (fun hb => ?_) (fun hb => ?_)) <;> first | (exfalso; omega) | skip) | refine run_block ?_ | refine run_ret ?_ | refine run_exit ?_ | refine run_skip ?_ | refine run_opn 5 [⟨0, true, false, false⟩, ⟨1, true, false, false⟩, ⟨2, true, false, false⟩, ⟨3, true, false, false⟩, ⟨4, true, false, false⟩, ⟨5, true, false, false⟩, ⟨6, true, false, false⟩, ⟨7, true, false, false⟩, ⟨8, true, false, false⟩, ⟨9, true, false, false⟩, ⟨10, true, false, false⟩, ⟨11, true, false, false⟩, ⟨12, true, false, false⟩, ⟨13, false, true, false⟩, ⟨14, true, false, false⟩] rfl rfl (by kernel_rfl) ?_ | refine run_regionD (by kernel_rfl) ?_ | refine run_condn rfl (fun hb => ?_) (fun hb => ?_) | refine run_cond rfl (fun hb => ?_) (fun hb => ?_))
      | refine seqQ_normal ?_ | refine seqQ_ret ?_ | refine seqQ_exit ?_ | refine blockQ_normal ?_ | refine blockQ_ret ?_ | refine blockQ_eq ?_ | refine blockQ_ne rfl ?_ | refine loopQ_ret ?_ | refine loopQ_exit ?_)
    refine j_appendO 0 (g := encI) [a[k] + b[k] * m] rfl (fun _ hk => nomatch hk) rfl rfl rfl rfl rfl rfl rfl rfl rfl rfl rfl rfl (fun _ => rfl) (fun _ _ => rfl) ⟨by rw [hz2]; simp only [List.length_cons, List.length_nil]; omega, by rw [hz2]; simp only [List.length_cons, List.length_nil]; omega⟩ rfl rfl (fun b' cap' => ?_)
    have es : (plusL a b m).take k ++ [a[k] + b[k] * m] = (plusL a b m).take (k + 1) := zip_succ (g := fun x y => x + y * m) hk hkb
    rw [es]
    repeat' (first
      | (refine j_go ?_; first
        | refine j_op0 rfl rfl rfl rfl ?_ | (refine j_kIdx rfl ?_; first | refine j_idx rfl rfl rfl rfl rfl (by omega) rfl rfl rfl ?_ | refine j_midx rfl rfl rfl rfl rfl (by first | omega | (simp only [List.length_append, List.length_cons, List.length_nil]; omega)) rfl rfl ?_ | refine j_idxz rfl rfl rfl rfl rfl ⟨by omega, by omega⟩ rfl rfl rfl ?_ | refine j_midxz rfl rfl rfl rfl rfl (by first | omega | (simp only [List.length_append, List.length_cons, List.length_nil]; omega)) rfl rfl ?_ | refine j_aidx rfl rfl rfl rfl rfl (by omega) rfl rfl ?_ | refine j_aidxz rfl rfl rfl rfl rfl (by omega) rfl rfl ?_) | (refine j_kBin rfl ?_; first | refine j_in rfl rfl ⟨by omega, by omega⟩ rfl rfl ?_) | (refine j_kLen rfl ?_; first | refine j_len rfl rfl rfl rfl rfl rfl ?_ | refine j_op rfl rfl rfl rfl ?_) | (refine j_kLoad rfl ?_; first | refine j_mload 0 rfl rfl rfl rfl rfl rfl rfl ?_ | refine j_mload 1 rfl rfl rfl rfl rfl rfl rfl ?_ | refine j_mload 2 rfl rfl rfl rfl rfl rfl rfl ?_) | (refine j_kBsl rfl ?_; first | refine j_bs0 rfl rfl rfl rfl rfl rfl ?_ | refine j_bsl rfl rfl rfl rfl rfl rfl rfl rfl rfl rfl rfl ?_))
      | refine j_nil ?_
      | (refine j_goO ?_; first
        | refine j_op0O rfl rfl rfl rfl ?_ | (refine j_kIdxO rfl ?_; first | refine j_idxO rfl rfl rfl rfl rfl (by omega) rfl rfl rfl ?_ | refine j_midxO rfl rfl rfl rfl rfl (by first | omega | (simp only [List.length_append, List.length_cons, List.length_nil]; omega)) rfl rfl ?_ | refine j_idxzO rfl rfl rfl rfl rfl ⟨by omega, by omega⟩ rfl rfl rfl ?_ | refine j_midxzO rfl rfl rfl rfl rfl (by first | omega | (simp only [List.length_append, List.length_cons, List.length_nil]; omega)) rfl rfl ?_ | refine j_aidxO rfl rfl rfl rfl rfl (by omega) rfl rfl ?_ | refine j_aidxzO rfl rfl rfl rfl rfl (by omega) rfl rfl ?_) | (refine j_kBinO rfl ?_; first | refine j_inO rfl rfl ⟨by omega, by omega⟩ rfl rfl ?_) | (refine j_kLenO rfl ?_; first | refine j_lenO rfl rfl rfl rfl rfl rfl ?_ | refine j_opO rfl rfl rfl rfl ?_) | (refine j_kLoadO rfl ?_; first | refine j_mloadO 0 rfl rfl rfl rfl rfl rfl rfl rfl ?_ | refine j_mloadO 1 rfl rfl rfl rfl rfl rfl rfl rfl ?_ | refine j_mloadO 2 rfl rfl rfl rfl rfl rfl rfl rfl ?_ | refine j_mloadSO 0 rfl rfl rfl rfl rfl rfl rfl ?_ | refine j_mloadSO 1 rfl rfl rfl rfl rfl rfl rfl ?_ | refine j_mloadSO 2 rfl rfl rfl rfl rfl rfl rfl ?_) | (refine j_kBslO rfl ?_; first | refine j_bs0O rfl rfl rfl rfl rfl rfl ?_ | refine j_bslO rfl rfl rfl rfl rfl rfl rfl rfl rfl rfl rfl ?_))
      | refine j_nilO ?_
      | (refine r_go ?_; first | refine run_seq ?_ | refine run_region ?_ | refine run_cond_t rfl ?_ | refine run_cond_f rfl ?_ | (refine (run_if rfl (fun hb => ?_) (fun hb => ?_)) <;> first | (exfalso; omega) | skip) | (refine (run_ifn rfl (fun hb => ?_) (fun hb => ?_)) <;> first | (exfalso; omega) | skip) | refine run_block ?_ | refine run_ret ?_ | refine run_exit ?_ | refine run_skip ?_ | refine run_opn 5 [⟨0, true, false, false⟩, ⟨1, true, false, false⟩, ⟨2, true, false, false⟩, ⟨3, true, false, false⟩, ⟨4, true, false, false⟩, ⟨5, true, false, false⟩, ⟨6, true, false, false⟩, ⟨7, true, false, false⟩, ⟨8, true, false, false⟩, ⟨9, true, false, false⟩, ⟨10, true, false, false⟩, ⟨11, true, false, false⟩, ⟨12, true, false, false⟩, ⟨13, false, true, false⟩, ⟨14, true, false, false⟩] rfl rfl (by kernel_rfl) ?_ | refine run_regionD (by kernel_rfl) ?_ | refine run_condn rfl (fun hb => ?_) (fun hb => ?_) | refine run_cond rfl (fun hb => ?_) (fun hb => ?_))
      | refine seqQ_normal ?_ | refine seqQ_ret ?_ | refine seqQ_exit ?_ | refine blockQ_normal ?_ | refine blockQ_ret ?_ | refine blockQ_eq ?_ | refine blockQ_ne rfl ?_ | refine loopQ_ret ?_ | refine loopQ_exit ?_)
    exact loopQ_next (k + 1, b', cap') (by dsimp only; omega) (by dsimp only; omega) rfl ⟨rfl, rfl, rfl, rfl, nx _, trivial⟩
  · repeat' (first
      | (refine j_go ?_; first
        | refine j_op0 rfl rfl rfl rfl ?_ | (refine j_kIdx rfl ?_; first | refine j_idx rfl rfl rfl rfl rfl (by omega) rfl rfl rfl ?_ | refine j_midx rfl rfl rfl rfl rfl (by first | omega | (simp only [List.length_append, List.length_cons, List.length_nil]; omega)) rfl rfl ?_ | refine j_idxz rfl rfl rfl rfl rfl ⟨by omega, by omega⟩ rfl rfl rfl ?_ | refine j_midxz rfl rfl rfl rfl rfl (by first | omega | (simp only [List.length_append, List.length_cons, List.length_nil]; omega)) rfl rfl ?_ | refine j_aidx rfl rfl rfl rfl rfl (by omega) rfl rfl ?_ | refine j_aidxz rfl rfl rfl rfl rfl (by omega) rfl rfl ?_) | (refine j_kBin rfl ?_; first | refine j_in rfl rfl ⟨by omega, by omega⟩ rfl rfl ?_) | (refine j_kLen rfl ?_; first | refine j_len rfl rfl rfl rfl rfl rfl ?_ | refine j_op rfl rfl rfl rfl ?_) | (refine j_kLoad rfl ?_; first | refine j_mload 0 rfl rfl rfl rfl rfl rfl rfl ?_ | refine j_mload 1 rfl rfl rfl rfl rfl rfl rfl ?_ | refine j_mload 2 rfl rfl rfl rfl rfl rfl rfl ?_) | (refine j_kBsl rfl ?_; first | refine j_bs0 rfl rfl rfl rfl rfl rfl ?_ | refine j_bsl rfl rfl rfl rfl rfl rfl rfl rfl rfl rfl rfl ?_))
      | refine j_nil ?_
      | (refine j_goO ?_; first
        | refine j_op0O rfl rfl rfl rfl ?_ | (refine j_kIdxO rfl ?_; first | refine j_idxO rfl rfl rfl rfl rfl (by omega) rfl rfl rfl ?_ | refine j_midxO rfl rfl rfl rfl rfl (by first | omega | (simp only [List.length_append, List.length_cons, List.length_nil]; omega)) rfl rfl ?_ | refine j_idxzO rfl rfl rfl rfl rfl ⟨by omega, by omega⟩ rfl rfl rfl ?_ | refine j_midxzO rfl rfl rfl rfl rfl (by first | omega | (simp only [List.length_append, List.length_cons, List.length_nil]; omega)) rfl rfl ?_ | refine j_aidxO rfl rfl rfl rfl rfl (by omega) rfl rfl ?_ | refine j_aidxzO rfl rfl rfl rfl rfl (by omega) rfl rfl ?_) | (refine j_kBinO rfl ?_; first | refine j_inO rfl rfl ⟨by omega, by omega⟩ rfl rfl ?_) | (refine j_kLenO rfl ?_; first | refine j_lenO rfl rfl rfl rfl rfl rfl ?_ | refine j_opO rfl rfl rfl rfl ?_) | (refine j_kLoadO rfl ?_; first | refine j_mloadO 0 rfl rfl rfl rfl rfl rfl rfl rfl ?_ | refine j_mloadO 1 rfl rfl rfl rfl rfl rfl rfl rfl ?_ | refine j_mloadO 2 rfl rfl rfl rfl rfl rfl rfl rfl ?_ | refine j_mloadSO 0 rfl rfl rfl rfl rfl rfl rfl ?_ | refine j_mloadSO 1 rfl rfl rfl rfl rfl rfl rfl ?_ | refine j_mloadSO 2 rfl rfl rfl rfl rfl rfl rfl ?_) | (refine j_kBslO rfl ?_; first | refine j_bs0O rfl rfl rfl rfl rfl rfl ?_ | refine j_bslO rfl rfl rfl rfl rfl rfl rfl rfl rfl rfl rfl ?_))
      | refine j_nilO ?_
      | (refine r_go ?_; first | refine run_seq ?_ | refine run_region ?_ | refine run_cond_t rfl ?_ | refine run_cond_f rfl ?_ | (refine (run_if rfl (fun hb => ?_) (fun hb => ?_)) <;> first | (exfalso; omega) | skip) | (refine (run_ifn rfl (fun hb => ?_) (fun hb => ?_)) <;> first | (exfalso; omega) | skip) | refine run_block ?_ | refine run_ret ?_ | refine run_exit ?_ | refine run_skip ?_ | refine run_opn 5 [⟨0, true, false, false⟩, ⟨1, true, false, false⟩, ⟨2, true, false, false⟩, ⟨3, true, false, false⟩, ⟨4, true, false, false⟩, ⟨5, true, false, false⟩, ⟨6, true, false, false⟩, ⟨7, true, false, false⟩, ⟨8, true, false, false⟩, ⟨9, true, false, false⟩, ⟨10, true, false, false⟩, ⟨11, true, false, false⟩, ⟨12, true, false, false⟩, ⟨13, false, true, false⟩, ⟨14, true, false, false⟩] rfl rfl (by kernel_rfl) ?_ | refine run_regionD (by kernel_rfl) ?_ | refine run_condn rfl (fun hb => ?_) (fun hb => ?_) | refine run_cond rfl (fun hb => ?_) (fun hb => ?_))
      | refine seqQ_normal ?_ | refine seqQ_ret ?_ | refine seqQ_exit ?_ | refine blockQ_normal ?_ | refine blockQ_ret ?_ | refine blockQ_eq ?_ | refine blockQ_ne rfl ?_ | refine loopQ_ret ?_ | refine loopQ_exit ?_)
    refine end_view (view_freeze (g := encI) (z := 1) (ys := (plusL a b m).take k) 0 6 rfl rfl rfl (fun _ => rfl) rfl rfl) ?_
    exact end1 rfl (List.Sublist.refl _) (by rw [List.take_of_length_le (by unfold plusL; omega)]) (.inl rfl)

theorem c_plus1 (m x y : Int) (h0 : (-1000000000000 ≤ x ∧ x ≤ 1000000000000) ∧ -1000000000000 ≤ m * y ∧ m * y ≤ 1000000000000) : Gives Try.prog 176 [.int x, .int y, .ip [.int m]] (.int (x + m * y)) := by
  refine fn_of_run tyOk ztOk mix Try.func176 rfl (by decide) Try.ntmps176 (fun w0 h => ?_)
  repeat' (first
      | (refine j_go ?_; first
        | refine j_op0 rfl rfl rfl rfl ?_ | (refine j_kBin rfl ?_; first | refine j_in rfl rfl ⟨by omega, by omega⟩ rfl rfl ?_))
      | refine j_nil ?_
      | (refine r_go ?_; first | refine run_seq ?_ | refine run_region ?_ | refine run_cond_t rfl ?_ | refine run_cond_f rfl ?_ | (refine (run_if rfl (fun hb => ?_) (fun hb => ?_)) <;> first | (exfalso; omega) | skip) | (refine (run_ifn rfl (fun hb => ?_) (fun hb => ?_)) <;> first | (exfalso; omega) | skip) | refine run_block ?_ | refine run_ret ?_ | refine run_exit ?_ | refine run_skip ?_ | refine run_regionD (by kernel_rfl) ?_ | refine run_condn rfl (fun hb => ?_) (fun hb => ?_) | refine run_cond rfl (fun hb => ?_) (fun hb => ?_))
      | refine seqQ_normal ?_ | refine seqQ_ret ?_ | refine seqQ_exit ?_ | refine blockQ_normal ?_ | refine blockQ_ret ?_ | refine blockQ_eq ?_ | refine blockQ_ne rfl ?_ | refine loopQ_ret ?_ | refine loopQ_exit ?_)
  exact end1 rfl (List.Sublist.refl _) (rfl) (.inl rfl)
theorem c_plus (a b : List Int) (m : Int) (hh : Fits a b m) : Gives Try.prog 101 [.sl (a.map encI), .sl (b.map encI), .int m] (.sl ((plusL a b m).map encI)) := by
  refine fn_of_run tyOk ztOk mix Try.func101 rfl (by decide) Try.ntmps101 (fun w0 h => ?_)
  obtain ⟨hl, hn, ha, hb0⟩ := hh
  repeat' (first
      | (refine j_go ?_; first
        | refine j_op0 rfl rfl rfl rfl ?_ | (refine j_kCall rfl rfl rfl rfl ?_; first | refine jc (c_both _ _ (fun x y => x + m * y) _ _ (fun k h1 h2 => c_plus1 m _ _ ⟨ha _ (List.getElem_mem h1), by rw [Int.mul_comm]; exact hb0 _ (List.getElem_mem h2)⟩) hl hn) (LeL.refl _) rfl rfl ?_ | refine jc (c_both _ _ (fun x y => x + m * y) _ _ (fun k h1 h2 => c_plus1 m _ _ ⟨ha _ (List.getElem_mem h1), by rw [Int.mul_comm]; exact hb0 _ (List.getElem_mem h2)⟩) hl hn) (by repeat' (first | exact LeL.nil | refine LeL.cons ?_ ?_ | exact Le.refl _ | exact Le.nilm _ _ | exact Le.nil _ | refine Le.agg ?_)) rfl rfl ?_) | refine j_box rfl rfl rfl rfl rfl rfl ?_)
      | refine j_nil ?_
      | (refine r_go ?_; first | refine run_seq ?_ | refine run_region ?_ | refine run_cond_t rfl ?_ | refine run_cond_f rfl ?_ | (refine (run_if rfl (fun hb => ?_) (fun hb => ?_)) <;> first | (exfalso; omega) | skip) | (refine (run_ifn rfl (fun hb => ?_) (fun hb => ?_)) <;> first | (exfalso; omega) | skip) | refine run_block ?_ | refine run_ret ?_ | refine run_exit ?_ | refine run_skip ?_ | refine run_regionD (by kernel_rfl) ?_ | refine run_condn rfl (fun hb => ?_) (fun hb => ?_) | refine run_cond rfl (fun hb => ?_) (fun hb => ?_))
      | refine seqQ_normal ?_ | refine seqQ_ret ?_ | refine seqQ_exit ?_ | refine blockQ_normal ?_ | refine blockQ_ret ?_ | refine blockQ_eq ?_ | refine blockQ_ne rfl ?_ | refine loopQ_ret ?_ | refine loopQ_exit ?_)
  exact end1 rfl (List.Sublist.refl _) (by rw [plusL_comm]) (.inl rfl)

theorem c_l00Own (l : List Int) (hn : l.length ≤ 1000000) : Gives Try.prog 112 [.sl (l.map encI)] (.sl (l.map encI)) := by
  refine fn_of_run tyOk ztOk mix Try.func112 rfl (by decide) Try.ntmps112 (fun w0 h => ?_)
  repeat' (first
      | (refine j_go ?_; first
        | refine j_op0 rfl rfl rfl rfl ?_ | (refine j_kBsl rfl ?_; first | refine j_bs0 rfl rfl rfl rfl rfl rfl ?_ | refine j_bsl rfl rfl rfl rfl rfl rfl rfl rfl rfl rfl rfl ?_))
      | refine j_nil ?_
      | (refine r_go ?_; first | refine run_seq ?_ | refine run_region ?_ | refine run_cond_t rfl ?_ | refine run_cond_f rfl ?_ | (refine (run_if rfl (fun hb => ?_) (fun hb => ?_)) <;> first | (exfalso; omega) | skip) | (refine (run_ifn rfl (fun hb => ?_) (fun hb => ?_)) <;> first | (exfalso; omega) | skip) | refine run_block ?_ | refine run_ret ?_ | refine run_exit ?_ | refine run_skip ?_ | refine run_regionD (by kernel_rfl) ?_ | refine run_condn rfl (fun hb => ?_) (fun hb => ?_) | refine run_cond rfl (fun hb => ?_) (fun hb => ?_))
      | refine seqQ_normal ?_ | refine seqQ_ret ?_ | refine seqQ_exit ?_ | refine blockQ_normal ?_ | refine blockQ_ret ?_ | refine blockQ_eq ?_ | refine blockQ_ne rfl ?_ | refine loopQ_ret ?_ | refine loopQ_exit ?_)
  refine j_append0 (g := encI) l rfl rfl rfl rfl rfl rfl rfl rfl (fun _ => rfl) (fun _ _ => rfl) ⟨by omega, by omega⟩ rfl rfl (fun b' cap' => ?_)
  repeat' (first
      | (refine j_go ?_; first
        | refine j_op0 rfl rfl rfl rfl ?_ | (refine j_kBsl rfl ?_; first | refine j_bs0 rfl rfl rfl rfl rfl rfl ?_ | refine j_bsl rfl rfl rfl rfl rfl rfl rfl rfl rfl rfl rfl ?_))
      | refine j_nil ?_
      | (refine r_go ?_; first | refine run_seq ?_ | refine run_region ?_ | refine run_cond_t rfl ?_ | refine run_cond_f rfl ?_ | (refine (run_if rfl (fun hb => ?_) (fun hb => ?_)) <;> first | (exfalso; omega) | skip) | (refine (run_ifn rfl (fun hb => ?_) (fun hb => ?_)) <;> first | (exfalso; omega) | skip) | refine run_block ?_ | refine run_ret ?_ | refine run_exit ?_ | refine run_skip ?_ | refine run_regionD (by kernel_rfl) ?_ | refine run_condn rfl (fun hb => ?_) (fun hb => ?_) | refine run_cond rfl (fun hb => ?_) (fun hb => ?_))
      | refine seqQ_normal ?_ | refine seqQ_ret ?_ | refine seqQ_exit ?_ | refine blockQ_normal ?_ | refine blockQ_ret ?_ | refine blockQ_eq ?_ | refine blockQ_ne rfl ?_ | refine loopQ_ret ?_ | refine loopQ_exit ?_)
  refine end_view (view_freeze (g := encI) (z := 1) (ys := l) 0 2 rfl rfl rfl (fun _ => rfl) rfl rfl) ?_
  exact end1 rfl (List.Sublist.refl _) rfl (.inl rfl)

/-- What is left of all bags behind the first k counts. -/
def restK (s : System) (t : State) (cs : List Int) : Nat → List (List Int)
  | 0 => t.bags
  | k + 1 => (restK s t cs k).set (s.rules.getD k default).cell.toNat (plusL ((restK s t cs k).getD (s.rules.getD k default).cell.toNat []) (s.rules.getD k default).need (0 - cs.getD k 0))
theorem neg_mul_bnd {x y : Int} (hx : 0 ≤ x ∧ x ≤ 1000) (hy : 0 ≤ y ∧ y ≤ 1000) : -1000000 ≤ x * (0 - y) ∧ x * (0 - y) ≤ 0 := by
  have h1 := Int.mul_le_mul_of_nonneg_left (show -1000 ≤ 0 - y by omega) hx.1
  have h2 := Int.mul_le_mul_of_nonneg_left (show 0 - y ≤ 0 by omega) hx.1
  omega
/-- Counts are a choice. -/
def Ch (s : System) (t : State) (cs : List Int) : Prop := (∀ i (h : i < s.rules.length) (h2 : i < cs.length), 0 < cs[i] → App s t s.rules[i]) ∧ ∀ b ∈ restK s t cs s.rules.length, ∀ x ∈ b, 0 ≤ x
open Classical in
noncomputable def restA (s : System) (t : State) (cs : List Int) : A := if Ch s t cs then .sl ((restK s t cs s.rules.length).map (encS encI)) else .any (fun _ => True)
theorem Le.tup2 {a b c : A} (h : Le a c) : Le (.tup [a, b]) (.tup [c, b]) := fun S w x r => by
  cases r with
  | tup cs vs hl hr =>
    refine .tup _ vs hl (fun j hj hj' => ?_)
    cases j with
    | zero => exact h _ _ _ (hr 0 (by simp) hj')
    | succ j => exact hr (j + 1) (by simpa using hj) hj'
end Go.Proofs.Ytblidfklblmheaa
