/-
  Invariants and potentials: what the reference and the program compute. No condition.
-/
import Derived.Test.YtekghcnefaogbaaZS4d
import Derived.Test.YtekghcnefaogbaaZS3f
namespace Go.Proofs.Ytekghcnefaogbaa
open Go.AI
set_option maxRecDepth 8000
set_option maxHeartbeats 1600000

theorem c_l04Asked (s : System) (ws : List (List Int)) : Gives Try.prog 93 [.ip (encSystem s), .sl (ws.map (encS encI))] (.int (cd2 s.Ok (s.Wts ws))) := by
  refine fn_of_run tyOk ztOk mix Try.func93 rfl (by decide) Try.ntmps93 (fun w0 h => ?_)
  repeat' (first
      | (refine j_go ?_; first
        | refine j_op0 rfl rfl rfl rfl ?_ | (refine j_kCall rfl rfl rfl rfl ?_; first | refine jc (c_l02Ok _) (LeL.refl _) rfl rfl ?_ | refine jc (c_l02Ok _) (by repeat' (first | exact LeL.nil | refine LeL.cons ?_ ?_ | exact Le.refl _ | exact Le.nilm _ _ | exact Le.nil _ | refine Le.agg ?_)) rfl rfl ?_))
      | refine j_nil ?_
      | (refine r_go ?_; first | refine run_seq ?_ | refine run_region ?_ | refine run_cond_t rfl ?_ | refine run_cond_f rfl ?_ | (refine (run_if rfl (fun hb => ?_) (fun hb => ?_)) <;> first | (exfalso; omega) | skip) | (refine (run_ifn rfl (fun hb => ?_) (fun hb => ?_)) <;> first | (exfalso; omega) | skip) | refine run_block ?_ | refine run_ret ?_ | refine run_exit ?_ | refine run_skip ?_ | refine run_regionD (by kernel_rfl) ?_ | refine run_condn rfl (fun hb => ?_) (fun hb => ?_) | refine run_cond rfl (fun hb => ?_) (fun hb => ?_))
      | refine seqQ_normal ?_ | refine seqQ_ret ?_ | refine seqQ_exit ?_ | refine blockQ_normal ?_ | refine blockQ_ret ?_ | refine blockQ_eq ?_ | refine blockQ_ne rfl ?_ | refine loopQ_ret ?_ | refine loopQ_exit ?_)
  · exact end1 rfl (List.Sublist.refl _) (ai (cd2_f hb).symm) (.inl rfl)
  · have hv := hb
    repeat' (first
      | (refine j_go ?_; first
        | refine j_op0 rfl rfl rfl rfl ?_ | (refine j_kCall rfl rfl rfl rfl ?_; first | refine jc (c_l02Weights _ _ hv.1) (LeL.refl _) rfl rfl ?_ | refine jc (c_l02Weights _ _ hv.1) (by repeat' (first | exact LeL.nil | refine LeL.cons ?_ ?_ | exact Le.refl _ | exact Le.nilm _ _ | exact Le.nil _ | refine Le.agg ?_)) rfl rfl ?_))
      | refine j_nil ?_
      | (refine r_go ?_; first | refine run_seq ?_ | refine run_region ?_ | refine run_cond_t rfl ?_ | refine run_cond_f rfl ?_ | (refine (run_if rfl (fun hb => ?_) (fun hb => ?_)) <;> first | (exfalso; omega) | skip) | (refine (run_ifn rfl (fun hb => ?_) (fun hb => ?_)) <;> first | (exfalso; omega) | skip) | refine run_block ?_ | refine run_ret ?_ | refine run_exit ?_ | refine run_skip ?_ | refine run_regionD (by kernel_rfl) ?_ | refine run_condn rfl (fun hb => ?_) (fun hb => ?_) | refine run_cond rfl (fun hb => ?_) (fun hb => ?_))
      | refine seqQ_normal ?_ | refine seqQ_ret ?_ | refine seqQ_exit ?_ | refine blockQ_normal ?_ | refine blockQ_ret ?_ | refine blockQ_eq ?_ | refine blockQ_ne rfl ?_ | refine loopQ_ret ?_ | refine loopQ_exit ?_)
    · exact end1 rfl (List.Sublist.refl _) (ai (cd2_t hv hb).symm) (.inl rfl)
    · exact end1 rfl (List.Sublist.refl _) (ai (cd2_o hv hb).symm) (.inl rfl)
theorem c_weightsCode (s : System) (ws : List (List Int)) : Gives Try.prog 98 [.agg (encSystem s), .sl (ws.map (encS encI))] (.int (cd2 s.Ok (s.Wts ws))) := by
  refine fn_of_run tyOk ztOk mix Try.func98 rfl (by decide) Try.ntmps98 (fun w0 h => ?_)
  repeat' (first
      | (refine j_go ?_; first
        | refine j_op0 rfl rfl rfl rfl ?_ | (refine j_kCall rfl rfl rfl rfl ?_; first | refine jc (c_iValidSystem _) (LeL.refl _) rfl rfl ?_ | refine jc (c_iValidSystem _) (by repeat' (first | exact LeL.nil | refine LeL.cons ?_ ?_ | exact Le.refl _ | exact Le.nilm _ _ | exact Le.nil _ | refine Le.agg ?_)) rfl rfl ?_) | refine j_box rfl rfl rfl rfl rfl rfl ?_)
      | refine j_nil ?_
      | (refine r_go ?_; first | refine run_seq ?_ | refine run_region ?_ | refine run_cond_t rfl ?_ | refine run_cond_f rfl ?_ | (refine (run_if rfl (fun hb => ?_) (fun hb => ?_)) <;> first | (exfalso; omega) | skip) | (refine (run_ifn rfl (fun hb => ?_) (fun hb => ?_)) <;> first | (exfalso; omega) | skip) | refine run_block ?_ | refine run_ret ?_ | refine run_exit ?_ | refine run_skip ?_ | refine run_regionD (by kernel_rfl) ?_ | refine run_condn rfl (fun hb => ?_) (fun hb => ?_) | refine run_cond rfl (fun hb => ?_) (fun hb => ?_))
      | refine seqQ_normal ?_ | refine seqQ_ret ?_ | refine seqQ_exit ?_ | refine blockQ_normal ?_ | refine blockQ_ret ?_ | refine blockQ_eq ?_ | refine blockQ_ne rfl ?_ | refine loopQ_ret ?_ | refine loopQ_exit ?_)
  · exact end1 rfl (List.Sublist.refl _) (ai (cd2_f hb).symm) (.inl rfl)
  · have hv := hb
    repeat' (first
      | (refine j_go ?_; first
        | refine j_op0 rfl rfl rfl rfl ?_ | (refine j_kCall rfl rfl rfl rfl ?_; first | refine jc (c_areWeights _ _ hv.1.2.1.2) (LeL.refl _) rfl rfl ?_ | refine jc (c_areWeights _ _ hv.1.2.1.2) (by repeat' (first | exact LeL.nil | refine LeL.cons ?_ ?_ | exact Le.refl _ | exact Le.nilm _ _ | exact Le.nil _ | refine Le.agg ?_)) rfl rfl ?_) | refine j_box rfl rfl rfl rfl rfl rfl ?_)
      | refine j_nil ?_
      | (refine r_go ?_; first | refine run_seq ?_ | refine run_region ?_ | refine run_cond_t rfl ?_ | refine run_cond_f rfl ?_ | (refine (run_if rfl (fun hb => ?_) (fun hb => ?_)) <;> first | (exfalso; omega) | skip) | (refine (run_ifn rfl (fun hb => ?_) (fun hb => ?_)) <;> first | (exfalso; omega) | skip) | refine run_block ?_ | refine run_ret ?_ | refine run_exit ?_ | refine run_skip ?_ | refine run_regionD (by kernel_rfl) ?_ | refine run_condn rfl (fun hb => ?_) (fun hb => ?_) | refine run_cond rfl (fun hb => ?_) (fun hb => ?_))
      | refine seqQ_normal ?_ | refine seqQ_ret ?_ | refine seqQ_exit ?_ | refine blockQ_normal ?_ | refine blockQ_ret ?_ | refine blockQ_eq ?_ | refine blockQ_ne rfl ?_ | refine loopQ_ret ?_ | refine loopQ_exit ?_)
    · exact end1 rfl (List.Sublist.refl _) (ai (cd2_t hv hb).symm) (.inl rfl)
    · exact end1 rfl (List.Sublist.refl _) (ai (cd2_o hv hb).symm) (.inl rfl)

theorem same_iff {a b : List Int} (hl : a.length = b.length) : a = b ↔ ∀ k (h : k < a.length), a[k] = b.getD k 0 := by
  constructor
  · rintro rfl k h; rw [getD_get h]
  · intro q
    exact List.ext_getElem hl (fun i h1 h2 => by rw [q i h1, getD_get h2])
def InvP (s : System) (ws : List (List Int)) : Prop := HoldsG s ws (fun n => n = 0) (fun a b => a = b)
theorem c_inv1 (n : Int) : Gives Try.prog 100 [.int n] (.raw (.bool (dec (n = 0)))) := by
  refine fn_of_run tyOk ztOk mix Try.func100 rfl (by decide) Try.ntmps100 (fun w0 h => ?_)
  repeat' (first
      | (refine j_go ?_; first
        | refine j_op0 rfl rfl rfl rfl ?_ | (refine j_kBin rfl ?_; first | refine j_in rfl rfl ⟨by omega, by omega⟩ rfl rfl ?_))
      | refine j_nil ?_
      | (refine r_go ?_; first | refine run_seq ?_ | refine run_region ?_ | refine run_cond_t rfl ?_ | refine run_cond_f rfl ?_ | (refine (run_if rfl (fun hb => ?_) (fun hb => ?_)) <;> first | (exfalso; omega) | skip) | (refine (run_ifn rfl (fun hb => ?_) (fun hb => ?_)) <;> first | (exfalso; omega) | skip) | refine run_block ?_ | refine run_ret ?_ | refine run_exit ?_ | refine run_skip ?_ | refine run_regionD (by kernel_rfl) ?_ | refine run_condn rfl (fun hb => ?_) (fun hb => ?_) | refine run_cond rfl (fun hb => ?_) (fun hb => ?_))
      | refine seqQ_normal ?_ | refine seqQ_ret ?_ | refine seqQ_exit ?_ | refine blockQ_normal ?_ | refine blockQ_ret ?_ | refine blockQ_eq ?_ | refine blockQ_ne rfl ?_ | refine loopQ_ret ?_ | refine loopQ_exit ?_)
  exact end1 rfl (List.Sublist.refl _) (rfl) (.inl rfl)
theorem c_inv2 (a b : Int) : Gives Try.prog 101 [.int a, .int b] (.raw (.bool (dec (a = b)))) := by
  refine fn_of_run tyOk ztOk mix Try.func101 rfl (by decide) Try.ntmps101 (fun w0 h => ?_)
  repeat' (first
      | (refine j_go ?_; first
        | refine j_op0 rfl rfl rfl rfl ?_ | (refine j_kBin rfl ?_; first | refine j_in rfl rfl ⟨by omega, by omega⟩ rfl rfl ?_))
      | refine j_nil ?_
      | (refine r_go ?_; first | refine run_seq ?_ | refine run_region ?_ | refine run_cond_t rfl ?_ | refine run_cond_f rfl ?_ | (refine (run_if rfl (fun hb => ?_) (fun hb => ?_)) <;> first | (exfalso; omega) | skip) | (refine (run_ifn rfl (fun hb => ?_) (fun hb => ?_)) <;> first | (exfalso; omega) | skip) | refine run_block ?_ | refine run_ret ?_ | refine run_exit ?_ | refine run_skip ?_ | refine run_regionD (by kernel_rfl) ?_ | refine run_condn rfl (fun hb => ?_) (fun hb => ?_) | refine run_cond rfl (fun hb => ?_) (fun hb => ?_))
      | refine seqQ_normal ?_ | refine seqQ_ret ?_ | refine seqQ_exit ?_ | refine blockQ_normal ?_ | refine blockQ_ret ?_ | refine blockQ_eq ?_ | refine blockQ_ne rfl ?_ | refine loopQ_ret ?_ | refine loopQ_exit ?_)
  exact end1 rfl (List.Sublist.refl _) (rfl) (.inl rfl)
theorem c_iIsInvariant (s : System) (ws : List (List Int)) : Gives Try.prog 48 [.agg (encSystem s), .sl (ws.map (encS encI))] (.tup [.raw (.bool (dec ((s.Ok ∧ s.Wts ws) ∧ InvP s ws))), .int (cd2 s.Ok (s.Wts ws))]) := by
  refine fn_of_run tyOk ztOk mix Try.func48 rfl (by decide) Try.ntmps48 (fun w0 h => ?_)
  repeat' (first
      | (refine j_go ?_; first
        | refine j_op0 rfl rfl rfl rfl ?_ | (refine j_kBin rfl ?_; first | refine j_in rfl rfl ⟨by omega, by omega⟩ rfl rfl ?_) | (refine j_kCall rfl rfl rfl rfl ?_; first | refine jc (c_weightsCode _ _) (LeL.refl _) rfl rfl ?_ | refine jc (c_weightsCode _ _) (by repeat' (first | exact LeL.nil | refine LeL.cons ?_ ?_ | exact Le.refl _ | exact Le.nilm _ _ | exact Le.nil _ | refine Le.agg ?_)) rfl rfl ?_) | refine j_box rfl rfl rfl rfl rfl rfl ?_)
      | refine j_nil ?_
      | (refine r_go ?_; first | refine run_seq ?_ | refine run_region ?_ | refine run_cond_t rfl ?_ | refine run_cond_f rfl ?_ | (refine (run_if rfl (fun hb => ?_) (fun hb => ?_)) <;> first | (exfalso; omega) | skip) | (refine (run_ifn rfl (fun hb => ?_) (fun hb => ?_)) <;> first | (exfalso; omega) | skip) | refine run_block ?_ | refine run_ret ?_ | refine run_exit ?_ | refine run_skip ?_ | refine run_regionD (by kernel_rfl) ?_ | refine run_condn rfl (fun hb => ?_) (fun hb => ?_) | refine run_cond rfl (fun hb => ?_) (fun hb => ?_))
      | refine seqQ_normal ?_ | refine seqQ_ret ?_ | refine seqQ_exit ?_ | refine blockQ_normal ?_ | refine blockQ_ret ?_ | refine blockQ_eq ?_ | refine blockQ_ne rfl ?_ | refine loopQ_ret ?_ | refine loopQ_exit ?_)
  · exact end2 rfl rfl (List.Sublist.refl _) (by rw [dec_f (fun q => hb (cd2_z.2 q.1))]; rfl) (.inl rfl)
  have hz := hb
  have ⟨hv, hw⟩ := cd2_z.1 hb
  have e0 : dec ((s.Ok ∧ s.Wts ws) ∧ InvP s ws) = dec (InvP s ws) := dec_congr ⟨fun q => q.2, fun q => ⟨⟨hv, hw⟩, q⟩⟩
  rw [hz, e0]
  repeat' (first
      | (refine j_go ?_; first
        | refine j_op0 rfl rfl rfl rfl ?_ | (refine j_kBin rfl ?_; first | refine j_in rfl rfl ⟨by omega, by omega⟩ rfl rfl ?_) | (refine j_kCall rfl rfl rfl rfl ?_; first | refine jc (c_holdsG _ _ (fun n => n = 0) (fun a b => a = b) c_inv1 c_inv2 _ _ hv hw) (LeL.refl _) rfl rfl ?_ | refine jc (c_holdsG _ _ (fun n => n = 0) (fun a b => a = b) c_inv1 c_inv2 _ _ hv hw) (by repeat' (first | exact LeL.nil | refine LeL.cons ?_ ?_ | exact Le.refl _ | exact Le.nilm _ _ | exact Le.nil _ | refine Le.agg ?_)) rfl rfl ?_) | refine j_box rfl rfl rfl rfl rfl rfl ?_)
      | refine j_nil ?_
      | (refine r_go ?_; first | refine run_seq ?_ | refine run_region ?_ | refine run_cond_t rfl ?_ | refine run_cond_f rfl ?_ | (refine (run_if rfl (fun hb => ?_) (fun hb => ?_)) <;> first | (exfalso; omega) | skip) | (refine (run_ifn rfl (fun hb => ?_) (fun hb => ?_)) <;> first | (exfalso; omega) | skip) | refine run_block ?_ | refine run_ret ?_ | refine run_exit ?_ | refine run_skip ?_ | refine run_regionD (by kernel_rfl) ?_ | refine run_condn rfl (fun hb => ?_) (fun hb => ?_) | refine run_cond rfl (fun hb => ?_) (fun hb => ?_))
      | refine seqQ_normal ?_ | refine seqQ_ret ?_ | refine seqQ_exit ?_ | refine blockQ_normal ?_ | refine blockQ_ret ?_ | refine blockQ_eq ?_ | refine blockQ_ne rfl ?_ | refine loopQ_ret ?_ | refine loopQ_exit ?_)
  exact end2 rfl rfl (List.Sublist.refl _) rfl (.inl rfl)

theorem c_sIsInvariant (s : System) (ws : List (List Int)) : Gives Try.prog 47 [.agg (encSystem s), .sl (ws.map (encS encI))] (.tup [.raw (.bool (dec ((s.Ok ∧ s.Wts ws) ∧ InvP s ws))), .int (cd2 s.Ok (s.Wts ws))]) := by
  refine fn_of_run tyOk ztOk mix Try.func47 rfl (by decide) Try.ntmps47 (fun w0 h => ?_)
  repeat' (first
      | (refine j_go ?_; first
        | refine j_op0 rfl rfl rfl rfl ?_ | refine j_off rfl rfl rfl ?_ | (refine j_kIdx rfl ?_; first | refine j_idx rfl rfl rfl rfl rfl (by omega) rfl rfl rfl ?_ | refine j_idxz rfl rfl rfl rfl rfl ⟨by omega, by omega⟩ rfl rfl rfl ?_) | (refine j_kBin rfl ?_; first | refine j_in rfl rfl ⟨by omega, by omega⟩ rfl rfl ?_) | (refine j_kLen rfl ?_; first | refine j_len rfl rfl rfl rfl rfl rfl ?_ | refine j_op rfl rfl rfl rfl ?_) | (refine j_kCall rfl rfl rfl rfl ?_; first | refine jc (c_l04Asked _ _) (LeL.refl _) rfl rfl ?_ | refine jc (c_l04Asked _ _) (by repeat' (first | exact LeL.nil | refine LeL.cons ?_ ?_ | exact Le.refl _ | exact Le.nilm _ _ | exact Le.nil _ | refine Le.agg ?_)) rfl rfl ?_) | (refine j_kGuard rfl ?_; first | (refine (j_if rfl rfl rfl (fun hb => ?_) (fun hb => ?_)) <;> first | (exfalso; omega) | skip) | (refine (j_ifn rfl rfl rfl (fun hb => ?_) (fun hb => ?_)) <;> first | (exfalso; omega) | skip) | (refine (j_branch rfl rfl rfl (fun hb => ?_) (fun hb => ?_)) <;> skip; (fail_if_success guard_hyp hb : true = true); (fail_if_success guard_hyp hb : true = false); (fail_if_success guard_hyp hb : false = true); (fail_if_success guard_hyp hb : false = false))) | refine j_box rfl rfl rfl rfl rfl rfl ?_)
      | refine j_nil ?_
      | (refine r_go ?_; first | refine run_seq ?_ | refine run_region ?_ | refine run_cond_t rfl ?_ | refine run_cond_f rfl ?_ | (refine (run_if rfl (fun hb => ?_) (fun hb => ?_)) <;> first | (exfalso; omega) | skip) | (refine (run_ifn rfl (fun hb => ?_) (fun hb => ?_)) <;> first | (exfalso; omega) | skip) | refine run_block ?_ | refine run_ret ?_ | refine run_exit ?_ | refine run_skip ?_ | refine run_regionD (by kernel_rfl) ?_ | refine run_condn rfl (fun hb => ?_) (fun hb => ?_) | refine run_cond rfl (fun hb => ?_) (fun hb => ?_))
      | refine seqQ_normal ?_ | refine seqQ_ret ?_ | refine seqQ_exit ?_ | refine blockQ_normal ?_ | refine blockQ_ret ?_ | refine blockQ_eq ?_ | refine blockQ_ne rfl ?_ | refine loopQ_ret ?_ | refine loopQ_exit ?_)
  · exact end2 rfl rfl (List.Sublist.refl _) (by rw [dec_f (fun q => hb (cd2_z.2 q.1))]; rfl) (.inl rfl)
  have hz := hb
  have ⟨hv, hw⟩ := cd2_z.1 hb
  have e0 : dec ((s.Ok ∧ s.Wts ws) ∧ InvP s ws) = dec (InvP s ws) := dec_congr ⟨fun q => q.2, fun q => ⟨⟨hv, hw⟩, q⟩⟩
  have hf := hv.1
  have hl := hf.2.1
  have k8 := hf.1
  have h16 := hv.2.1
  have wlen := hw.2
  rw [hz, e0]
  refine run_loop (fun k : Nat => [(1, .sl (ws.map (encS encI))), (2, .ip (encSystem s)), (7, .int (k : Int))]) (fun _ => _) (fun k => k ≤ s.rules.length ∧ (∀ i (h : i < s.rules.length), i < k → ∀ p ∈ places s s.rules[i], gainAt s.rules[i] ws p = 0)) (fun k => s.rules.length - k) 0 ⟨rfl, rfl, rfl, trivial⟩ rfl ⟨Nat.zero_le _, by first | (intros; omega) | (simp; done) | rfl | trivial | exact ⟨by simp [sumF], by intros; omega⟩ | exact ⟨by omega, by simp⟩⟩ (fun k ⟨kl, kp⟩ => ?_)
  by_cases hk : k < s.rules.length
  · have hr := (hv.2.2 k hk).1
    have pl := places_len (s := s) (r := s.rules[k])
    have ml : ((places s s.rules[k]).map (gainAt s.rules[k] ws)).length = (places s s.rules[k]).length := List.length_map _
    repeat' (first
      | (refine j_go ?_; first
        | refine j_op0 rfl rfl rfl rfl ?_ | refine j_off rfl rfl rfl ?_ | (refine j_kIdx rfl ?_; first | refine j_idx rfl rfl rfl rfl rfl (by omega) rfl rfl rfl ?_ | refine j_idxz rfl rfl rfl rfl rfl ⟨by omega, by omega⟩ rfl rfl rfl ?_) | (refine j_kBin rfl ?_; first | refine j_in rfl rfl ⟨by omega, by omega⟩ rfl rfl ?_) | (refine j_kLen rfl ?_; first | refine j_len rfl rfl rfl rfl rfl rfl ?_ | refine j_op rfl rfl rfl rfl ?_) | (refine j_kCall rfl rfl rfl rfl ?_; first | refine jc (c_l04Gains _ _ _ hv hr hw) (LeL.refl _) rfl rfl ?_ | refine jc (c_l04Gains _ _ _ hv hr hw) (by repeat' (first | exact LeL.nil | refine LeL.cons ?_ ?_ | exact Le.refl _ | exact Le.nilm _ _ | exact Le.nil _ | refine Le.agg ?_)) rfl rfl ?_) | (refine j_kGuard rfl ?_; first | (refine (j_if rfl rfl rfl (fun hb => ?_) (fun hb => ?_)) <;> first | (exfalso; omega) | skip) | (refine (j_ifn rfl rfl rfl (fun hb => ?_) (fun hb => ?_)) <;> first | (exfalso; omega) | skip) | (refine (j_branch rfl rfl rfl (fun hb => ?_) (fun hb => ?_)) <;> skip; (fail_if_success guard_hyp hb : true = true); (fail_if_success guard_hyp hb : true = false); (fail_if_success guard_hyp hb : false = true); (fail_if_success guard_hyp hb : false = false))) | refine j_box rfl rfl rfl rfl rfl rfl ?_)
      | refine j_nil ?_
      | (refine r_go ?_; first | refine run_seq ?_ | refine run_region ?_ | refine run_cond_t rfl ?_ | refine run_cond_f rfl ?_ | (refine (run_if rfl (fun hb => ?_) (fun hb => ?_)) <;> first | (exfalso; omega) | skip) | (refine (run_ifn rfl (fun hb => ?_) (fun hb => ?_)) <;> first | (exfalso; omega) | skip) | refine run_block ?_ | refine run_ret ?_ | refine run_exit ?_ | refine run_skip ?_ | refine run_regionD (by kernel_rfl) ?_ | refine run_condn rfl (fun hb => ?_) (fun hb => ?_) | refine run_cond rfl (fun hb => ?_) (fun hb => ?_))
      | refine seqQ_normal ?_ | refine seqQ_ret ?_ | refine seqQ_exit ?_ | refine blockQ_normal ?_ | refine blockQ_ret ?_ | refine blockQ_eq ?_ | refine blockQ_ne rfl ?_ | refine loopQ_ret ?_ | refine loopQ_exit ?_)
    refine run_loop (fun j : Nat => [(1, .sl (ws.map (encS encI))), (2, .ip (encSystem s)), (7, .int (k : Int)), (8, .sl (((places s s.rules[k]).map (gainAt s.rules[k] ws)).map encI)), (9, .int (j : Int))]) (fun _ => _) (fun j => j ≤ ((places s s.rules[k]).map (gainAt s.rules[k] ws)).length ∧ (∀ i (h : i < (places s s.rules[k]).length), i < j → gainAt s.rules[k] ws (places s s.rules[k])[i] = 0)) (fun j => ((places s s.rules[k]).map (gainAt s.rules[k] ws)).length - j) 0 ⟨rfl, rfl, rfl, rfl, rfl, trivial⟩ rfl ⟨Nat.zero_le _, by first | (intros; omega) | (simp; done) | rfl | trivial | exact ⟨by simp [sumF], by intros; omega⟩ | exact ⟨by omega, by simp⟩⟩ (fun j ⟨jl, jp⟩ => ?_)
    repeat' (first
      | (refine j_go ?_; first
        | refine j_op0 rfl rfl rfl rfl ?_ | refine j_off rfl rfl rfl ?_ | (refine j_kIdx rfl ?_; first | refine j_idx rfl rfl rfl rfl rfl (by omega) rfl rfl rfl ?_ | refine j_idxz rfl rfl rfl rfl rfl ⟨by omega, by omega⟩ rfl rfl rfl ?_) | (refine j_kBin rfl ?_; first | refine j_in rfl rfl ⟨by omega, by omega⟩ rfl rfl ?_) | (refine j_kLen rfl ?_; first | refine j_len rfl rfl rfl rfl rfl rfl ?_ | refine j_op rfl rfl rfl rfl ?_) | (refine j_kGuard rfl ?_; first | (refine (j_if rfl rfl rfl (fun hb => ?_) (fun hb => ?_)) <;> first | (exfalso; omega) | skip) | (refine (j_ifn rfl rfl rfl (fun hb => ?_) (fun hb => ?_)) <;> first | (exfalso; omega) | skip) | (refine (j_branch rfl rfl rfl (fun hb => ?_) (fun hb => ?_)) <;> skip; (fail_if_success guard_hyp hb : true = true); (fail_if_success guard_hyp hb : true = false); (fail_if_success guard_hyp hb : false = true); (fail_if_success guard_hyp hb : false = false))) | refine j_box rfl rfl rfl rfl rfl rfl ?_)
      | refine j_nil ?_
      | (refine r_go ?_; first | refine run_seq ?_ | refine run_region ?_ | refine run_cond_t rfl ?_ | refine run_cond_f rfl ?_ | (refine (run_if rfl (fun hb => ?_) (fun hb => ?_)) <;> first | (exfalso; omega) | skip) | (refine (run_ifn rfl (fun hb => ?_) (fun hb => ?_)) <;> first | (exfalso; omega) | skip) | refine run_block ?_ | refine run_ret ?_ | refine run_exit ?_ | refine run_skip ?_ | refine run_regionD (by kernel_rfl) ?_ | refine run_condn rfl (fun hb => ?_) (fun hb => ?_) | refine run_cond rfl (fun hb => ?_) (fun hb => ?_))
      | refine seqQ_normal ?_ | refine seqQ_ret ?_ | refine seqQ_exit ?_ | refine blockQ_normal ?_ | refine blockQ_ret ?_ | refine blockQ_eq ?_ | refine blockQ_ne rfl ?_ | refine loopQ_ret ?_ | refine loopQ_exit ?_)
    · rw [List.getElem_map] at hb
      exact end2 rfl rfl (List.Sublist.refl _) (by rw [dec_f (fun q : InvP s ws => hb (q.1 k hk _ (List.getElem_mem _)))]; rfl) (.inl rfl)
    · rw [List.getElem_map] at hb
      exact loopQ_nextD (j + 1) ⟨by omega, all_step jp (fun _ => hb)⟩ (by omega) (by first | exact List.Sublist.refl _ | exact sub1 | exact sub2 | exact sub3) ⟨rfl, rfl, rfl, rfl, nx _, trivial⟩
    · exact loopQ_nextD (k + 1) ⟨by omega, all_step kp (fun _ p hp => by obtain ⟨i, hi, rfl⟩ := List.getElem_of_mem hp; exact jp i hi (by omega))⟩ (by omega) (by first | exact List.Sublist.refl _ | exact sub1 | exact sub2 | exact sub3) ⟨rfl, rfl, nx _, trivial⟩
  repeat' (first
      | (refine j_go ?_; first
        | refine j_op0 rfl rfl rfl rfl ?_ | refine j_off rfl rfl rfl ?_ | (refine j_kIdx rfl ?_; first | refine j_idx rfl rfl rfl rfl rfl (by omega) rfl rfl rfl ?_ | refine j_idxz rfl rfl rfl rfl rfl ⟨by omega, by omega⟩ rfl rfl rfl ?_) | (refine j_kBin rfl ?_; first | refine j_in rfl rfl ⟨by omega, by omega⟩ rfl rfl ?_) | (refine j_kLen rfl ?_; first | refine j_len rfl rfl rfl rfl rfl rfl ?_ | refine j_op rfl rfl rfl rfl ?_) | (refine j_kGuard rfl ?_; first | (refine (j_if rfl rfl rfl (fun hb => ?_) (fun hb => ?_)) <;> first | (exfalso; omega) | skip) | (refine (j_ifn rfl rfl rfl (fun hb => ?_) (fun hb => ?_)) <;> first | (exfalso; omega) | skip) | (refine (j_branch rfl rfl rfl (fun hb => ?_) (fun hb => ?_)) <;> skip; (fail_if_success guard_hyp hb : true = true); (fail_if_success guard_hyp hb : true = false); (fail_if_success guard_hyp hb : false = true); (fail_if_success guard_hyp hb : false = false))) | refine j_box rfl rfl rfl rfl rfl rfl ?_)
      | refine j_nil ?_
      | (refine r_go ?_; first | refine run_seq ?_ | refine run_region ?_ | refine run_cond_t rfl ?_ | refine run_cond_f rfl ?_ | (refine (run_if rfl (fun hb => ?_) (fun hb => ?_)) <;> first | (exfalso; omega) | skip) | (refine (run_ifn rfl (fun hb => ?_) (fun hb => ?_)) <;> first | (exfalso; omega) | skip) | refine run_block ?_ | refine run_ret ?_ | refine run_exit ?_ | refine run_skip ?_ | refine run_regionD (by kernel_rfl) ?_ | refine run_condn rfl (fun hb => ?_) (fun hb => ?_) | refine run_cond rfl (fun hb => ?_) (fun hb => ?_))
      | refine seqQ_normal ?_ | refine seqQ_ret ?_ | refine seqQ_exit ?_ | refine blockQ_normal ?_ | refine blockQ_ret ?_ | refine blockQ_eq ?_ | refine blockQ_ne rfl ?_ | refine loopQ_ret ?_ | refine loopQ_exit ?_)
  refine run_loop (fun c9 : Nat => [(1, .sl (ws.map (encS encI))), (2, .ip (encSystem s)), (10, .int (c9 : Int))]) (fun _ => _) (fun c9 => 1 ≤ c9 ∧ c9 ≤ s.parents.length ∧ (∀ c : Nat, 1 ≤ c → c < c9 → Melts s c → ∀ p ∈ pars s c, ∀ k (h : k < (wt ws c).length), (wt ws c)[k] = (wt ws p).getD k 0)) (fun c9 => s.parents.length - c9) 1 ⟨rfl, rfl, rfl, trivial⟩ rfl ⟨Nat.le_refl _, by omega, by first | (intros; omega) | (simp; done) | rfl | trivial | exact ⟨by simp [sumF], by intros; omega⟩ | exact ⟨by omega, by simp⟩⟩ (fun c9 ⟨c9s, c9l, c9p⟩ => ?_)
  by_cases hc9 : c9 < s.parents.length
  · obtain ⟨wc, we, wl, ww⟩ := wt_ok hw (c := (c9 : Int)) (by omega)
    simp only [Int.toNat_natCast] at wc we wl ww
    have pm : ∀ x ∈ (pars s (c9 : Int)).reverse, 0 ≤ x ∧ x ≤ (s.parents.length : Int) - 1 := fun x hx => pars_mem hf (by omega) x (List.mem_reverse.1 hx)
    have pl : (pars s (c9 : Int)).reverse.length ≤ 7 := by rw [List.length_reverse]; exact chainF_len s 7 _
    repeat' (first
      | (refine j_go ?_; first
        | refine j_op0 rfl rfl rfl rfl ?_ | refine j_off rfl rfl rfl ?_ | (refine j_kIdx rfl ?_; first | refine j_idx rfl rfl rfl rfl rfl (by omega) rfl rfl rfl ?_ | refine j_idxz rfl rfl rfl rfl rfl ⟨by omega, by omega⟩ rfl rfl rfl ?_) | (refine j_kBin rfl ?_; first | refine j_in rfl rfl ⟨by omega, by omega⟩ rfl rfl ?_) | (refine j_kLen rfl ?_; first | refine j_len rfl rfl rfl rfl rfl rfl ?_ | refine j_op rfl rfl rfl rfl ?_) | (refine j_kCall rfl rfl rfl rfl ?_; first | refine jc (c_l04Parents _ _ hv (by omega)) (LeL.refl _) rfl rfl ?_ | refine jc (c_l04Parents _ _ hv (by omega)) (by repeat' (first | exact LeL.nil | refine LeL.cons ?_ ?_ | exact Le.refl _ | exact Le.nilm _ _ | exact Le.nil _ | refine Le.agg ?_)) rfl rfl ?_) | (refine j_kGuard rfl ?_; first | (refine (j_if rfl rfl rfl (fun hb => ?_) (fun hb => ?_)) <;> first | (exfalso; omega) | skip) | (refine (j_ifn rfl rfl rfl (fun hb => ?_) (fun hb => ?_)) <;> first | (exfalso; omega) | skip) | (refine (j_branch rfl rfl rfl (fun hb => ?_) (fun hb => ?_)) <;> skip; (fail_if_success guard_hyp hb : true = true); (fail_if_success guard_hyp hb : true = false); (fail_if_success guard_hyp hb : false = true); (fail_if_success guard_hyp hb : false = false))) | refine j_box rfl rfl rfl rfl rfl rfl ?_)
      | refine j_nil ?_
      | (refine r_go ?_; first | refine run_seq ?_ | refine run_region ?_ | refine run_cond_t rfl ?_ | refine run_cond_f rfl ?_ | (refine (run_if rfl (fun hb => ?_) (fun hb => ?_)) <;> first | (exfalso; omega) | skip) | (refine (run_ifn rfl (fun hb => ?_) (fun hb => ?_)) <;> first | (exfalso; omega) | skip) | refine run_block ?_ | refine run_ret ?_ | refine run_exit ?_ | refine run_skip ?_ | refine run_regionD (by kernel_rfl) ?_ | refine run_condn rfl (fun hb => ?_) (fun hb => ?_) | refine run_cond rfl (fun hb => ?_) (fun hb => ?_))
      | refine seqQ_normal ?_ | refine seqQ_ret ?_ | refine seqQ_exit ?_ | refine blockQ_normal ?_ | refine blockQ_ret ?_ | refine blockQ_eq ?_ | refine blockQ_ne rfl ?_ | refine loopQ_ret ?_ | refine loopQ_exit ?_)
    refine run_loop (fun p9 : Nat => [(1, .sl (ws.map (encS encI))), (2, .ip (encSystem s)), (10, .int (c9 : Int)), (11, .sl ((pars s (c9 : Int)).reverse.map encI)), (12, .int (p9 : Int))]) (fun _ => _) (fun p9 => p9 ≤ (pars s (c9 : Int)).reverse.length ∧ (∀ i (h : i < (pars s (c9 : Int)).reverse.length), i < p9 → wt ws c9 = wt ws (pars s (c9 : Int)).reverse[i])) (fun p9 => (pars s (c9 : Int)).reverse.length - p9) 0 ⟨rfl, rfl, rfl, rfl, rfl, trivial⟩ rfl ⟨Nat.zero_le _, by first | (intros; omega) | (simp; done) | rfl | trivial | exact ⟨by simp [sumF], by intros; omega⟩ | exact ⟨by omega, by simp⟩⟩ (fun p9 ⟨p9l, p9p⟩ => ?_)
    by_cases hp9 : p9 < (pars s (c9 : Int)).reverse.length
    · have pj := pm _ (List.getElem_mem hp9)
      obtain ⟨yc, ye, yl, yw⟩ := wt_ok hw (c := (pars s (c9 : Int)).reverse[p9]) (by omega)
      repeat' (first
      | (refine j_go ?_; first
        | refine j_op0 rfl rfl rfl rfl ?_ | refine j_off rfl rfl rfl ?_ | (refine j_kIdx rfl ?_; first | refine j_idx rfl rfl rfl rfl rfl (by omega) rfl rfl rfl ?_ | refine j_idxz rfl rfl rfl rfl rfl ⟨by omega, by omega⟩ rfl rfl rfl ?_) | (refine j_kBin rfl ?_; first | refine j_in rfl rfl ⟨by omega, by omega⟩ rfl rfl ?_) | (refine j_kLen rfl ?_; first | refine j_len rfl rfl rfl rfl rfl rfl ?_ | refine j_op rfl rfl rfl rfl ?_) | (refine j_kCall rfl rfl rfl rfl ?_; first | refine jc (c_l04Melts _ _ h16) (LeL.refl _) rfl rfl ?_ | refine jc (c_l00Same _ _) (LeL.refl _) rfl rfl ?_ | refine jc (c_l04Melts _ _ h16) (by repeat' (first | exact LeL.nil | refine LeL.cons ?_ ?_ | exact Le.refl _ | exact Le.nilm _ _ | exact Le.nil _ | refine Le.agg ?_)) rfl rfl ?_ | refine jc (c_l00Same _ _) (by repeat' (first | exact LeL.nil | refine LeL.cons ?_ ?_ | exact Le.refl _ | exact Le.nilm _ _ | exact Le.nil _ | refine Le.agg ?_)) rfl rfl ?_) | (refine j_kGuard rfl ?_; first | (refine (j_if rfl rfl rfl (fun hb => ?_) (fun hb => ?_)) <;> first | (exfalso; omega) | skip) | (refine (j_ifn rfl rfl rfl (fun hb => ?_) (fun hb => ?_)) <;> first | (exfalso; omega) | skip) | (refine (j_branch rfl rfl rfl (fun hb => ?_) (fun hb => ?_)) <;> skip; (fail_if_success guard_hyp hb : true = true); (fail_if_success guard_hyp hb : true = false); (fail_if_success guard_hyp hb : false = true); (fail_if_success guard_hyp hb : false = false))) | refine j_box rfl rfl rfl rfl rfl rfl ?_)
      | refine j_nil ?_
      | (refine r_go ?_; first | refine run_seq ?_ | refine run_region ?_ | refine run_cond_t rfl ?_ | refine run_cond_f rfl ?_ | (refine (run_if rfl (fun hb => ?_) (fun hb => ?_)) <;> first | (exfalso; omega) | skip) | (refine (run_ifn rfl (fun hb => ?_) (fun hb => ?_)) <;> first | (exfalso; omega) | skip) | refine run_block ?_ | refine run_ret ?_ | refine run_exit ?_ | refine run_skip ?_ | refine run_regionD (by kernel_rfl) ?_ | refine run_condn rfl (fun hb => ?_) (fun hb => ?_) | refine run_cond rfl (fun hb => ?_) (fun hb => ?_))
      | refine seqQ_normal ?_ | refine seqQ_ret ?_ | refine seqQ_exit ?_ | refine blockQ_normal ?_ | refine blockQ_ret ?_ | refine blockQ_eq ?_ | refine blockQ_ne rfl ?_ | refine loopQ_ret ?_ | refine loopQ_exit ?_)
      · exact end2 rfl rfl (List.Sublist.refl _) (by
          rw [dec_f (fun q : InvP s ws => hb (by
            have h3 := (same_iff (a := wt ws c9) (b := wt ws (pars s (c9 : Int)).reverse[p9]) (by rw [we, ye]; omega)).2 (q.2 c9 hc9 (by assumption) _ (List.mem_reverse.1 (List.getElem_mem hp9)))
            rw [we, ye] at h3; exact h3))]; rfl) (.inl rfl)
      · exact loopQ_nextD (p9 + 1) ⟨by omega, all_step p9p (fun _ => by rw [we, ye]; assumption)⟩ (by omega) (by first | exact List.Sublist.refl _ | exact sub1 | exact sub2 | exact sub3) ⟨rfl, rfl, rfl, rfl, nx _, trivial⟩
      · exact loopQ_nextD (c9 + 1) ⟨by omega, by omega, fun c h0 h1 hm => by
          by_cases hc : c = c9
          · subst hc; exact absurd hm (by assumption)
          · exact c9p c h0 (by omega) hm⟩ (by omega) (by first | exact List.Sublist.refl _ | exact sub1 | exact sub2 | exact sub3) ⟨rfl, rfl, nx _, trivial⟩
    · repeat' (first
      | (refine j_go ?_; first
        | refine j_op0 rfl rfl rfl rfl ?_ | refine j_off rfl rfl rfl ?_ | (refine j_kIdx rfl ?_; first | refine j_idx rfl rfl rfl rfl rfl (by omega) rfl rfl rfl ?_ | refine j_idxz rfl rfl rfl rfl rfl ⟨by omega, by omega⟩ rfl rfl rfl ?_) | (refine j_kBin rfl ?_; first | refine j_in rfl rfl ⟨by omega, by omega⟩ rfl rfl ?_) | (refine j_kLen rfl ?_; first | refine j_len rfl rfl rfl rfl rfl rfl ?_ | refine j_op rfl rfl rfl rfl ?_) | (refine j_kGuard rfl ?_; first | (refine (j_if rfl rfl rfl (fun hb => ?_) (fun hb => ?_)) <;> first | (exfalso; omega) | skip) | (refine (j_ifn rfl rfl rfl (fun hb => ?_) (fun hb => ?_)) <;> first | (exfalso; omega) | skip) | (refine (j_branch rfl rfl rfl (fun hb => ?_) (fun hb => ?_)) <;> skip; (fail_if_success guard_hyp hb : true = true); (fail_if_success guard_hyp hb : true = false); (fail_if_success guard_hyp hb : false = true); (fail_if_success guard_hyp hb : false = false))) | refine j_box rfl rfl rfl rfl rfl rfl ?_)
      | refine j_nil ?_
      | (refine r_go ?_; first | refine run_seq ?_ | refine run_region ?_ | refine run_cond_t rfl ?_ | refine run_cond_f rfl ?_ | (refine (run_if rfl (fun hb => ?_) (fun hb => ?_)) <;> first | (exfalso; omega) | skip) | (refine (run_ifn rfl (fun hb => ?_) (fun hb => ?_)) <;> first | (exfalso; omega) | skip) | refine run_block ?_ | refine run_ret ?_ | refine run_exit ?_ | refine run_skip ?_ | refine run_regionD (by kernel_rfl) ?_ | refine run_condn rfl (fun hb => ?_) (fun hb => ?_) | refine run_cond rfl (fun hb => ?_) (fun hb => ?_))
      | refine seqQ_normal ?_ | refine seqQ_ret ?_ | refine seqQ_exit ?_ | refine blockQ_normal ?_ | refine blockQ_ret ?_ | refine blockQ_eq ?_ | refine blockQ_ne rfl ?_ | refine loopQ_ret ?_ | refine loopQ_exit ?_)
      exact loopQ_nextD (c9 + 1) ⟨by omega, by omega, fun c h0 h1 hm => by
        by_cases hc : c = c9
        · subst hc
          intro p hp
          obtain ⟨i, hi, rfl⟩ := List.getElem_of_mem (List.mem_reverse.2 hp)
          have h3 := p9p i hi (by omega)
          intro k h
          rw [← h3, getD_get h]
        · exact c9p c h0 (by omega) hm⟩ (by omega) (by first | exact List.Sublist.refl _ | exact sub1 | exact sub2 | exact sub3) ⟨rfl, rfl, nx _, trivial⟩
  · repeat' (first
      | (refine j_go ?_; first
        | refine j_op0 rfl rfl rfl rfl ?_ | refine j_off rfl rfl rfl ?_ | (refine j_kIdx rfl ?_; first | refine j_idx rfl rfl rfl rfl rfl (by omega) rfl rfl rfl ?_ | refine j_idxz rfl rfl rfl rfl rfl ⟨by omega, by omega⟩ rfl rfl rfl ?_) | (refine j_kBin rfl ?_; first | refine j_in rfl rfl ⟨by omega, by omega⟩ rfl rfl ?_) | (refine j_kLen rfl ?_; first | refine j_len rfl rfl rfl rfl rfl rfl ?_ | refine j_op rfl rfl rfl rfl ?_) | (refine j_kGuard rfl ?_; first | (refine (j_if rfl rfl rfl (fun hb => ?_) (fun hb => ?_)) <;> first | (exfalso; omega) | skip) | (refine (j_ifn rfl rfl rfl (fun hb => ?_) (fun hb => ?_)) <;> first | (exfalso; omega) | skip) | (refine (j_branch rfl rfl rfl (fun hb => ?_) (fun hb => ?_)) <;> skip; (fail_if_success guard_hyp hb : true = true); (fail_if_success guard_hyp hb : true = false); (fail_if_success guard_hyp hb : false = true); (fail_if_success guard_hyp hb : false = false))) | refine j_box rfl rfl rfl rfl rfl rfl ?_)
      | refine j_nil ?_
      | (refine r_go ?_; first | refine run_seq ?_ | refine run_region ?_ | refine run_cond_t rfl ?_ | refine run_cond_f rfl ?_ | (refine (run_if rfl (fun hb => ?_) (fun hb => ?_)) <;> first | (exfalso; omega) | skip) | (refine (run_ifn rfl (fun hb => ?_) (fun hb => ?_)) <;> first | (exfalso; omega) | skip) | refine run_block ?_ | refine run_ret ?_ | refine run_exit ?_ | refine run_skip ?_ | refine run_regionD (by kernel_rfl) ?_ | refine run_condn rfl (fun hb => ?_) (fun hb => ?_) | refine run_cond rfl (fun hb => ?_) (fun hb => ?_))
      | refine seqQ_normal ?_ | refine seqQ_ret ?_ | refine seqQ_exit ?_ | refine blockQ_normal ?_ | refine blockQ_ret ?_ | refine blockQ_eq ?_ | refine blockQ_ne rfl ?_ | refine loopQ_ret ?_ | refine loopQ_exit ?_)
    have n0 : ¬ Melts s ((0 : Nat) : Int) := fun ⟨r, hr, e1, e2⟩ => by
      obtain ⟨i, hi, rfl⟩ := List.getElem_of_mem hr
      exact (hv.2.2 i hi).1.2.2.1 ⟨e2, e1⟩
    exact end2 rfl rfl (List.Sublist.refl _) (by
      rw [dec_t (show InvP s ws from ⟨fun i h => kp i h (by omega), fun c h1 hm => by
        by_cases h0 : c = 0
        · subst h0; exact absurd hm n0
        · exact c9p c (by omega) (by omega) hm⟩)]; rfl) (.inl rfl)

end Go.Proofs.Ytekghcnefaogbaa
