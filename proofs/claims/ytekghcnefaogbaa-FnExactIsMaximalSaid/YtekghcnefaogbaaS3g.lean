/-
  Choices: IsMaximal of the reference and of the program. No condition.
-/
import Derived.Test.YtekghcnefaogbaaS3f
namespace Go.Proofs.Ytekghcnefaogbaa
open Go.AI
set_option maxRecDepth 8000
set_option maxHeartbeats 1600000

theorem c_sIsMaximal (s : System) (t : State) (cs : List Int) : Gives Try.prog 43 [.agg (encSystem s), .agg (encState t), .sl (cs.map encI)] (.tup [.raw (.bool (dec ((s.WP t ∧ Cnts s cs) ∧ Most s t cs))), .int (cd2 (s.WP t) (Cnts s cs))]) := by
  refine fn_of_run tyOk ztOk mix Try.func43 rfl (by decide) Try.ntmps43 (fun w0 h => ?_)
  repeat' (first
      | (refine j_go ?_; first
        | refine j_op0 rfl rfl rfl rfl ?_ | (refine j_kBin rfl ?_; first | refine j_in rfl rfl ⟨by omega, by omega⟩ rfl rfl ?_) | (refine j_kCall rfl rfl rfl rfl ?_; first | refine jc (c_l03Asked _ _ _) (LeL.refl _) rfl rfl ?_ | refine jc (c_l03Asked _ _ _) (by repeat' (first | exact LeL.nil | refine LeL.cons ?_ ?_ | exact Le.refl _ | exact Le.nilm _ _ | exact Le.nil _ | refine Le.agg ?_)) rfl rfl ?_) | refine j_box rfl rfl rfl rfl rfl rfl ?_)
      | refine j_nil ?_
      | (refine r_go ?_; first | refine run_seq ?_ | refine run_region ?_ | refine run_cond_t rfl ?_ | refine run_cond_f rfl ?_ | (refine (run_if rfl (fun hb => ?_) (fun hb => ?_)) <;> first | (exfalso; omega) | skip) | (refine (run_ifn rfl (fun hb => ?_) (fun hb => ?_)) <;> first | (exfalso; omega) | skip) | refine run_block ?_ | refine run_ret ?_ | refine run_exit ?_ | refine run_skip ?_ | refine run_regionD (by kernel_rfl) ?_ | refine run_condn rfl (fun hb => ?_) (fun hb => ?_) | refine run_cond rfl (fun hb => ?_) (fun hb => ?_))
      | refine seqQ_normal ?_ | refine seqQ_ret ?_ | refine seqQ_exit ?_ | refine blockQ_normal ?_ | refine blockQ_ret ?_ | refine blockQ_eq ?_ | refine blockQ_ne rfl ?_ | refine loopQ_ret ?_ | refine loopQ_exit ?_)
  · exact end2 rfl rfl (List.Sublist.refl _) (by rw [dec_f (fun q => hb (cd2_z.2 q.1))]; rfl) (.inl rfl)
  · have hz := hb
    have ⟨hv, hc⟩ := cd2_z.1 hb
    repeat' (first
      | (refine j_go ?_; first
        | refine j_op0 rfl rfl rfl rfl ?_ | (refine j_kBin rfl ?_; first | refine j_in rfl rfl ⟨by omega, by omega⟩ rfl rfl ?_) | (refine j_kCall rfl rfl rfl rfl ?_; first | refine jc (c_l03Most _ _ _ hv.1 hv.2 hc) (LeL.refl _) rfl rfl ?_ | refine jc (c_l03Most _ _ _ hv.1 hv.2 hc) (by repeat' (first | exact LeL.nil | refine LeL.cons ?_ ?_ | exact Le.refl _ | exact Le.nilm _ _ | exact Le.nil _ | refine Le.agg ?_)) rfl rfl ?_) | refine j_box rfl rfl rfl rfl rfl rfl ?_)
      | refine j_nil ?_
      | (refine r_go ?_; first | refine run_seq ?_ | refine run_region ?_ | refine run_cond_t rfl ?_ | refine run_cond_f rfl ?_ | (refine (run_if rfl (fun hb => ?_) (fun hb => ?_)) <;> first | (exfalso; omega) | skip) | (refine (run_ifn rfl (fun hb => ?_) (fun hb => ?_)) <;> first | (exfalso; omega) | skip) | refine run_block ?_ | refine run_ret ?_ | refine run_exit ?_ | refine run_skip ?_ | refine run_regionD (by kernel_rfl) ?_ | refine run_condn rfl (fun hb => ?_) (fun hb => ?_) | refine run_cond rfl (fun hb => ?_) (fun hb => ?_))
      | refine seqQ_normal ?_ | refine seqQ_ret ?_ | refine seqQ_exit ?_ | refine blockQ_normal ?_ | refine blockQ_ret ?_ | refine blockQ_eq ?_ | refine blockQ_ne rfl ?_ | refine loopQ_ret ?_ | refine loopQ_exit ?_)
    exact end2 rfl rfl (List.Sublist.refl _) (by rw [hz, dec_congr (p := (s.WP t ∧ Cnts s cs) ∧ Most s t cs) (q := Most s t cs) ⟨fun q => q.2, fun q => ⟨⟨hv, hc⟩, q⟩⟩]; rfl) (.inl rfl)

def fitsR (s : System) (R : List (List Int)) (x : Int) : Prop := Within (s.rules.getD x.toNat default).need (R.getD (s.rules.getD x.toNat default).cell.toNat [])

theorem c_isMax1 (s : System) (R : List (List Int)) (k : Nat) (hk : k < s.rules.length) (h16 : s.rules.length ≤ 16) (hcc : 0 ≤ s.rules[k].cell) (hcl : s.rules[k].cell.toNat < R.length) (hn : s.rules[k].need.length ≤ R[s.rules[k].cell.toNat].length ∧ s.rules[k].need.length ≤ 1000000) : Gives Try.prog 88 [.int (k : Int), .ip (encSystem s), .ip [.sl (R.map (encS encI))]] (.raw (.bool (dec (fitsR s R (k : Int))))) := by
  refine fn_of_run tyOk ztOk mix Try.func88 rfl (by decide) Try.ntmps88 (fun w0 h => ?_)
  repeat' (first
      | (refine j_go ?_; first
        | refine j_op0 rfl rfl rfl rfl ?_ | (refine j_kIdx rfl ?_; first | refine j_idx rfl rfl rfl rfl rfl (by omega) rfl rfl rfl ?_ | refine j_idxz rfl rfl rfl rfl rfl ⟨by omega, by omega⟩ rfl rfl rfl ?_) | (refine j_kCall rfl rfl rfl rfl ?_; first | refine jc (c_isWithin _ _ hn.1 hn.2) (LeL.refl _) rfl rfl ?_ | refine jc (c_isWithin _ _ hn.1 hn.2) (by repeat' (first | exact LeL.nil | refine LeL.cons ?_ ?_ | exact Le.refl _ | exact Le.nilm _ _ | exact Le.nil _ | refine Le.agg ?_)) rfl rfl ?_))
      | refine j_nil ?_
      | (refine r_go ?_; first | refine run_seq ?_ | refine run_region ?_ | refine run_cond_t rfl ?_ | refine run_cond_f rfl ?_ | (refine (run_if rfl (fun hb => ?_) (fun hb => ?_)) <;> first | (exfalso; omega) | skip) | (refine (run_ifn rfl (fun hb => ?_) (fun hb => ?_)) <;> first | (exfalso; omega) | skip) | refine run_block ?_ | refine run_ret ?_ | refine run_exit ?_ | refine run_skip ?_ | refine run_regionD (by kernel_rfl) ?_ | refine run_condn rfl (fun hb => ?_) (fun hb => ?_) | refine run_cond rfl (fun hb => ?_) (fun hb => ?_))
      | refine seqQ_normal ?_ | refine seqQ_ret ?_ | refine seqQ_exit ?_ | refine blockQ_normal ?_ | refine blockQ_ret ?_ | refine blockQ_eq ?_ | refine blockQ_ne rfl ?_ | refine loopQ_ret ?_ | refine loopQ_exit ?_)
  exact end1 rfl (List.Sublist.refl _) (rbD (by unfold fitsR; rw [show ((k : Int)).toNat = k by omega, getD_get hk, getD_get hcl])) (.inl rfl)

theorem c_iIsMaximal (s : System) (t : State) (cs : List Int) : Gives Try.prog 44 [.agg (encSystem s), .agg (encState t), .sl (cs.map encI)] (.tup [.raw (.bool (dec ((s.WP t ∧ Cnts s cs) ∧ Most s t cs))), .int (cd2 (s.WP t) (Cnts s cs))]) := by
  refine fn_of_run tyOk ztOk mix Try.func44 rfl (by decide) Try.ntmps44 (fun w0 h => ?_)
  repeat' (first
      | (refine j_go ?_; first
        | refine j_op0 rfl rfl rfl rfl ?_ | refine j_off rfl rfl rfl ?_ | (refine j_kBin rfl ?_; first | refine j_in rfl rfl ⟨by omega, by omega⟩ rfl rfl ?_) | (refine j_kCall rfl rfl rfl rfl ?_; first | refine jc (c_countsCode _ _ _) (LeL.refl _) rfl rfl ?_ | refine jc (c_countsCode _ _ _) (by repeat' (first | exact LeL.nil | refine LeL.cons ?_ ?_ | exact Le.refl _ | exact Le.nilm _ _ | exact Le.nil _ | refine Le.agg ?_)) rfl rfl ?_) | (refine j_kLoad rfl ?_; first | refine j_mload 0 rfl rfl rfl rfl rfl rfl rfl ?_ | refine j_mload 1 rfl rfl rfl rfl rfl rfl rfl ?_ | refine j_mload 2 rfl rfl rfl rfl rfl rfl rfl ?_) | (refine j_kStore rfl ?_; first | refine j_store 0 rfl rfl rfl rfl rfl rfl rfl rfl rfl rfl rfl ?_ | refine j_storeN 0 rfl rfl rfl rfl rfl rfl rfl rfl rfl rfl rfl ?_ | refine j_store 1 rfl rfl rfl rfl rfl rfl rfl rfl rfl rfl rfl ?_ | refine j_storeN 1 rfl rfl rfl rfl rfl rfl rfl rfl rfl rfl rfl ?_ | refine j_store 2 rfl rfl rfl rfl rfl rfl rfl rfl rfl rfl rfl ?_ | refine j_storeN 2 rfl rfl rfl rfl rfl rfl rfl rfl rfl rfl rfl ?_) | (refine j_kGuard rfl ?_; first | (refine (j_if rfl rfl rfl (fun hb => ?_) (fun hb => ?_)) <;> first | (exfalso; omega) | skip) | (refine (j_ifn rfl rfl rfl (fun hb => ?_) (fun hb => ?_)) <;> first | (exfalso; omega) | skip) | (refine (j_branch rfl rfl rfl (fun hb => ?_) (fun hb => ?_)) <;> skip; (fail_if_success guard_hyp hb : true = true); (fail_if_success guard_hyp hb : true = false); (fail_if_success guard_hyp hb : false = true); (fail_if_success guard_hyp hb : false = false))) | refine j_box rfl rfl rfl rfl rfl rfl ?_ | refine j_alloc rfl rfl rfl rfl rfl (fun _ => ?_))
      | refine j_nil ?_
      | (refine r_go ?_; first | refine run_seq ?_ | refine run_region ?_ | refine run_cond_t rfl ?_ | refine run_cond_f rfl ?_ | (refine (run_if rfl (fun hb => ?_) (fun hb => ?_)) <;> first | (exfalso; omega) | skip) | (refine (run_ifn rfl (fun hb => ?_) (fun hb => ?_)) <;> first | (exfalso; omega) | skip) | refine run_block ?_ | refine run_ret ?_ | refine run_exit ?_ | refine run_skip ?_ | refine run_regionD (by kernel_rfl) ?_ | refine run_condn rfl (fun hb => ?_) (fun hb => ?_) | refine run_cond rfl (fun hb => ?_) (fun hb => ?_))
      | refine seqQ_normal ?_ | refine seqQ_ret ?_ | refine seqQ_exit ?_ | refine blockQ_normal ?_ | refine blockQ_ret ?_ | refine blockQ_eq ?_ | refine blockQ_ne rfl ?_ | refine loopQ_ret ?_ | refine loopQ_exit ?_)
  · exact end2 rfl rfl (List.Sublist.refl _) (by rw [dec_f (fun q => hb (cd2_z.2 q.1))]; rfl) (.inl rfl)
  have hz := hb
  have ⟨hv, hc⟩ := cd2_z.1 hb
  have e0 : dec ((s.WP t ∧ Cnts s cs) ∧ Most s t cs) = dec (Most s t cs) := dec_congr ⟨fun q => q.2, fun q => ⟨⟨hv, hc⟩, q⟩⟩
  rw [hz, e0]
  have ct := c_left s t cs hv.1 hv.2 hc
  have cl : ∀ x ∈ idxL s t s.rules.length, Gives Try.prog 88 [.int x, .ip (encSystem s), .ip [.sl ((restK s t cs s.rules.length).map (encS encI))]] (.raw (.bool (dec (fitsR s (restK s t cs s.rules.length) x)))) := fun x hx => by
    obtain ⟨k, rfl, _, hk, _⟩ := idxL_mem.1 hx
    obtain ⟨hcl, hn⟩ := rest_at hv.1 hv.2 hc hk
    exact c_isMax1 s _ k hk hv.1.2.1 (hv.1.2.2 k hk).1.1.1 hcl hn
  by_cases hall : AllApp s t cs
  · rw [restI_yes hall] at ct
    repeat' (first
      | (refine j_go ?_; first
        | refine j_op0 rfl rfl rfl rfl ?_ | refine j_off rfl rfl rfl ?_ | (refine j_kBin rfl ?_; first | refine j_in rfl rfl ⟨by omega, by omega⟩ rfl rfl ?_) | (refine j_kCall rfl rfl rfl rfl ?_; first | refine jc (ct) (LeL.refl _) rfl rfl ?_ | refine jc (ct) (by repeat' (first | exact LeL.nil | refine LeL.cons ?_ ?_ | exact Le.refl _ | exact Le.nilm _ _ | exact Le.nil _ | refine Le.agg ?_)) rfl rfl ?_) | (refine j_kLoad rfl ?_; first | refine j_mload 0 rfl rfl rfl rfl rfl rfl rfl ?_ | refine j_mload 1 rfl rfl rfl rfl rfl rfl rfl ?_ | refine j_mload 2 rfl rfl rfl rfl rfl rfl rfl ?_) | (refine j_kStore rfl ?_; first | refine j_store 0 rfl rfl rfl rfl rfl rfl rfl rfl rfl rfl rfl ?_ | refine j_storeN 0 rfl rfl rfl rfl rfl rfl rfl rfl rfl rfl rfl ?_ | refine j_store 1 rfl rfl rfl rfl rfl rfl rfl rfl rfl rfl rfl ?_ | refine j_storeN 1 rfl rfl rfl rfl rfl rfl rfl rfl rfl rfl rfl ?_ | refine j_store 2 rfl rfl rfl rfl rfl rfl rfl rfl rfl rfl rfl ?_ | refine j_storeN 2 rfl rfl rfl rfl rfl rfl rfl rfl rfl rfl rfl ?_) | (refine j_kGuard rfl ?_; first | (refine (j_if rfl rfl rfl (fun hb => ?_) (fun hb => ?_)) <;> first | (exfalso; omega) | skip) | (refine (j_ifn rfl rfl rfl (fun hb => ?_) (fun hb => ?_)) <;> first | (exfalso; omega) | skip) | (refine (j_branch rfl rfl rfl (fun hb => ?_) (fun hb => ?_)) <;> skip; (fail_if_success guard_hyp hb : true = true); (fail_if_success guard_hyp hb : true = false); (fail_if_success guard_hyp hb : false = true); (fail_if_success guard_hyp hb : false = false))) | refine j_box rfl rfl rfl rfl rfl rfl ?_ | refine j_alloc rfl rfl rfl rfl rfl (fun _ => ?_))
      | refine j_nil ?_
      | (refine r_go ?_; first | refine run_seq ?_ | refine run_region ?_ | refine run_cond_t rfl ?_ | refine run_cond_f rfl ?_ | (refine (run_if rfl (fun hb => ?_) (fun hb => ?_)) <;> first | (exfalso; omega) | skip) | (refine (run_ifn rfl (fun hb => ?_) (fun hb => ?_)) <;> first | (exfalso; omega) | skip) | refine run_block ?_ | refine run_ret ?_ | refine run_exit ?_ | refine run_skip ?_ | refine run_regionD (by kernel_rfl) ?_ | refine run_condn rfl (fun hb => ?_) (fun hb => ?_) | refine run_cond rfl (fun hb => ?_) (fun hb => ?_))
      | refine seqQ_normal ?_ | refine seqQ_ret ?_ | refine seqQ_exit ?_ | refine blockQ_normal ?_ | refine blockQ_ret ?_ | refine blockQ_eq ?_ | refine blockQ_ne rfl ?_ | refine loopQ_ret ?_ | refine loopQ_exit ?_)
    · have hch : Ch s t cs := by assumption
      refine j_view (view_freezeP 0 9 rfl rfl) ?_
      repeat' (first
      | (refine j_go ?_; first
        | refine j_op0 rfl rfl rfl rfl ?_ | refine j_off rfl rfl rfl ?_ | (refine j_kBin rfl ?_; first | refine j_in rfl rfl ⟨by omega, by omega⟩ rfl rfl ?_) | (refine j_kCall rfl rfl rfl rfl ?_; first | refine jc (c_applicable _ _ hv.1 hv.2) (LeL.refl _) rfl rfl ?_ | refine jc (c_cfI _ _ (fitsR s (restK s t cs s.rules.length)) _ cl) (LeL.refl _) rfl rfl ?_ | refine jc (c_applicable _ _ hv.1 hv.2) (by repeat' (first | exact LeL.nil | refine LeL.cons ?_ ?_ | exact Le.refl _ | exact Le.nilm _ _ | exact Le.nil _ | refine Le.agg ?_)) rfl rfl ?_ | refine jc (c_cfI _ _ (fitsR s (restK s t cs s.rules.length)) _ cl) (by repeat' (first | exact LeL.nil | refine LeL.cons ?_ ?_ | exact Le.refl _ | exact Le.nilm _ _ | exact Le.nil _ | refine Le.agg ?_)) rfl rfl ?_) | (refine j_kLoad rfl ?_; first | refine j_mload 0 rfl rfl rfl rfl rfl rfl rfl ?_ | refine j_mload 1 rfl rfl rfl rfl rfl rfl rfl ?_ | refine j_mload 2 rfl rfl rfl rfl rfl rfl rfl ?_) | (refine j_kStore rfl ?_; first | refine j_store 0 rfl rfl rfl rfl rfl rfl rfl rfl rfl rfl rfl ?_ | refine j_storeN 0 rfl rfl rfl rfl rfl rfl rfl rfl rfl rfl rfl ?_ | refine j_store 1 rfl rfl rfl rfl rfl rfl rfl rfl rfl rfl rfl ?_ | refine j_storeN 1 rfl rfl rfl rfl rfl rfl rfl rfl rfl rfl rfl ?_ | refine j_store 2 rfl rfl rfl rfl rfl rfl rfl rfl rfl rfl rfl ?_ | refine j_storeN 2 rfl rfl rfl rfl rfl rfl rfl rfl rfl rfl rfl ?_) | (refine j_kGuard rfl ?_; first | (refine (j_if rfl rfl rfl (fun hb => ?_) (fun hb => ?_)) <;> first | (exfalso; omega) | skip) | (refine (j_ifn rfl rfl rfl (fun hb => ?_) (fun hb => ?_)) <;> first | (exfalso; omega) | skip) | (refine (j_branch rfl rfl rfl (fun hb => ?_) (fun hb => ?_)) <;> skip; (fail_if_success guard_hyp hb : true = true); (fail_if_success guard_hyp hb : true = false); (fail_if_success guard_hyp hb : false = true); (fail_if_success guard_hyp hb : false = false))) | refine j_box rfl rfl rfl rfl rfl rfl ?_ | refine j_alloc rfl rfl rfl rfl rfl (fun _ => ?_))
      | refine j_nil ?_
      | (refine r_go ?_; first | refine run_seq ?_ | refine run_region ?_ | refine run_cond_t rfl ?_ | refine run_cond_f rfl ?_ | (refine (run_if rfl (fun hb => ?_) (fun hb => ?_)) <;> first | (exfalso; omega) | skip) | (refine (run_ifn rfl (fun hb => ?_) (fun hb => ?_)) <;> first | (exfalso; omega) | skip) | refine run_block ?_ | refine run_ret ?_ | refine run_exit ?_ | refine run_skip ?_ | refine run_regionD (by kernel_rfl) ?_ | refine run_condn rfl (fun hb => ?_) (fun hb => ?_) | refine run_cond rfl (fun hb => ?_) (fun hb => ?_))
      | refine seqQ_normal ?_ | refine seqQ_ret ?_ | refine seqQ_exit ?_ | refine blockQ_normal ?_ | refine blockQ_ret ?_ | refine blockQ_eq ?_ | refine blockQ_ne rfl ?_ | refine loopQ_ret ?_ | refine loopQ_exit ?_)
      exact end2 rfl rfl (List.Sublist.refl _) (by
        have e1 : (dec (Most s t cs)) = !dec (∃ x ∈ idxL s t s.rules.length, fitsR s (restK s t cs s.rules.length) x) := by
          have key : Most s t cs ↔ ¬ ∃ x ∈ idxL s t s.rules.length, fitsR s (restK s t cs s.rules.length) x := by
            constructor
            · rintro ⟨_, q⟩ ⟨x, hx, hw⟩
              obtain ⟨k, rfl, _, hk, ha⟩ := idxL_mem.1 hx
              unfold fitsR at hw
              rw [show ((k : Int)).toNat = k by omega, getD_get hk] at hw
              exact q k hk ha hw
            · intro q
              refine ⟨hch, fun k hk ha hw => q ⟨(k : Int), idxL_mem.2 ⟨k, rfl, hk, hk, ha⟩, ?_⟩⟩
              unfold fitsR
              rw [show ((k : Int)).toNat = k by omega, getD_get hk]
              exact hw
          by_cases hx : ∃ x ∈ idxL s t s.rules.length, fitsR s (restK s t cs s.rules.length) x
          · rw [dec_t hx, dec_f (fun q => (key.1 q) hx)]; rfl
          · rw [dec_f hx, dec_t (key.2 hx)]; rfl
        rw [e1]; rfl) (.inl rfl)
    · exact end2 rfl rfl sub1 (by rw [dec_f (fun q : Most s t cs => absurd q.1 (by assumption))]; rfl) (.inl rfl)
  · have hch : ¬ Ch s t cs := fun q => hall q.1
    rw [restI_no hall] at ct
    repeat' (first
      | (refine j_go ?_; first
        | refine j_op0 rfl rfl rfl rfl ?_ | refine j_off rfl rfl rfl ?_ | (refine j_kBin rfl ?_; first | refine j_in rfl rfl ⟨by omega, by omega⟩ rfl rfl ?_) | (refine j_kCall rfl rfl rfl rfl ?_; first | refine jc (ct) (LeL.refl _) rfl rfl ?_ | refine jc (ct) (by repeat' (first | exact LeL.nil | refine LeL.cons ?_ ?_ | exact Le.refl _ | exact Le.nilm _ _ | exact Le.nil _ | refine Le.agg ?_)) rfl rfl ?_) | (refine j_kLoad rfl ?_; first | refine j_mload 0 rfl rfl rfl rfl rfl rfl rfl ?_ | refine j_mload 1 rfl rfl rfl rfl rfl rfl rfl ?_ | refine j_mload 2 rfl rfl rfl rfl rfl rfl rfl ?_) | (refine j_kStore rfl ?_; first | refine j_store 0 rfl rfl rfl rfl rfl rfl rfl rfl rfl rfl rfl ?_ | refine j_storeN 0 rfl rfl rfl rfl rfl rfl rfl rfl rfl rfl rfl ?_ | refine j_store 1 rfl rfl rfl rfl rfl rfl rfl rfl rfl rfl rfl ?_ | refine j_storeN 1 rfl rfl rfl rfl rfl rfl rfl rfl rfl rfl rfl ?_ | refine j_store 2 rfl rfl rfl rfl rfl rfl rfl rfl rfl rfl rfl ?_ | refine j_storeN 2 rfl rfl rfl rfl rfl rfl rfl rfl rfl rfl rfl ?_) | (refine j_kGuard rfl ?_; first | (refine (j_if rfl rfl rfl (fun hb => ?_) (fun hb => ?_)) <;> first | (exfalso; omega) | skip) | (refine (j_ifn rfl rfl rfl (fun hb => ?_) (fun hb => ?_)) <;> first | (exfalso; omega) | skip) | (refine (j_branch rfl rfl rfl (fun hb => ?_) (fun hb => ?_)) <;> skip; (fail_if_success guard_hyp hb : true = true); (fail_if_success guard_hyp hb : true = false); (fail_if_success guard_hyp hb : false = true); (fail_if_success guard_hyp hb : false = false))) | refine j_box rfl rfl rfl rfl rfl rfl ?_ | refine j_alloc rfl rfl rfl rfl rfl (fun _ => ?_))
      | refine j_nil ?_
      | (refine r_go ?_; first | refine run_seq ?_ | refine run_region ?_ | refine run_cond_t rfl ?_ | refine run_cond_f rfl ?_ | (refine (run_if rfl (fun hb => ?_) (fun hb => ?_)) <;> first | (exfalso; omega) | skip) | (refine (run_ifn rfl (fun hb => ?_) (fun hb => ?_)) <;> first | (exfalso; omega) | skip) | refine run_block ?_ | refine run_ret ?_ | refine run_exit ?_ | refine run_skip ?_ | refine run_regionD (by kernel_rfl) ?_ | refine run_condn rfl (fun hb => ?_) (fun hb => ?_) | refine run_cond rfl (fun hb => ?_) (fun hb => ?_))
      | refine seqQ_normal ?_ | refine seqQ_ret ?_ | refine seqQ_exit ?_ | refine blockQ_normal ?_ | refine blockQ_ret ?_ | refine blockQ_eq ?_ | refine blockQ_ne rfl ?_ | refine loopQ_ret ?_ | refine loopQ_exit ?_)
    · exact absurd (by assumption) hch
    · exact end2 rfl rfl sub1 (by rw [dec_f (fun q : Most s t cs => hch q.1)]; rfl) (.inl rfl)

end Go.Proofs.Ytekghcnefaogbaa
