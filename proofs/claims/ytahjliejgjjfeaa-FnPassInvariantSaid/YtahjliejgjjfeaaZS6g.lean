/-
  Whether weights are an invariant of a passing system. No condition.
-/
import Derived.Test.YtahjliejgjjfeaaZD8
import Derived.Test.YtahjliejgjjfeaaZS6f
namespace Go.Proofs.Ytahjliejgjjfeaa
open Go.AI
set_option maxRecDepth 8000
set_option maxHeartbeats 1600000

theorem plusL_neg {a b w : List Int} (h : a.length = b.length) : dot (plusL a b (-1)) w = dot a w - dot b w := by rw [dot_plus h]; omega
theorem plus_wt {k : Int} {a b : List Int} (ha : BagK k a) (hb : BagK k b) : Wt (plusL a b (-1)) ∧ (plusL a b (-1)).length = a.length ∧ a.length = b.length ∧ a.length ≤ 8 := by
  have h := ha.2
  have h2 := hb.2
  refine ⟨fun x hx => ?_, plusL_len (by omega), by omega, ha.1.2.2⟩
  unfold plusL at hx
  obtain ⟨i, hi, rfl⟩ := List.getElem_of_mem hx
  rw [List.length_zipWith] at hi
  rw [List.getElem_zipWith]
  have := ha.1.1 _ (List.getElem_mem (n := i) (by omega))
  have := hb.1.1 _ (List.getElem_mem (n := i) (by omega))
  omega
def RulesSm (p : Passing) : Prop := ∀ r ∈ p.rules, (∀ x ∈ r.out, 0 ≤ x ∧ x ≤ 2) ∧ ∀ x ∈ r.in_, 0 ≤ x ∧ x ≤ 2
def zeroL (n K : Nat) : List (List Int) := List.replicate n (List.replicate K 0)
theorem zero_sh {n K : Nat} {B : Int} (h : 0 ≤ B := by omega) : Sh n K (zeroL n K) B := ⟨List.length_replicate, fun x hx => by
  rw [List.eq_of_mem_replicate hx]
  exact ⟨List.length_replicate, fun y hy => by rw [List.eq_of_mem_replicate hy]; omega⟩⟩
theorem zero_nn {n K : Nat} : Nn (zeroL n K) := fun x hx y hy => by
  rw [List.eq_of_mem_replicate hx] at hy
  rw [List.eq_of_mem_replicate hy]; omega
theorem zero_flat {n K : Nat} : (zeroL n K).flatten = List.replicate (n * K) 0 := by
  unfold zeroL; rw [List.flatten_replicate_replicate]
theorem dot_zero : ∀ (K : Nat) (w : List Int), dot (List.replicate K 0) w = 0
  | 0, w => dot_nil w
  | K + 1, [] => dot_nilr _
  | K + 1, z :: w => by rw [List.replicate_succ, dot_cons, dot_zero K w]; omega
theorem md_zero {n K : Nat} : ∀ {W : List (List Int)}, md (zeroL n K) W = 0 := by
  unfold zeroL
  induction n with
  | zero => intro W; exact md_nil W
  | succ n ih => intro W; cases W with
    | nil => simp [md, tot, sumF]
    | cons y W => rw [List.replicate_succ, md_cons, ih, dot_zero]; omega
theorem c_iIsPI1 (p : Passing) (r : PassRule) (W : List (List Int)) (hv : p.Ok) (hr : r ∈ p.rules) (hW : p.WOk W) : Gives Try.prog 122 [.agg (encPassRule r), .ip [.sl (W.map (encS Go.AI.encI))], .ip (encPassing p)] (.raw (.bool (dec (¬ p.chg W r = 0)))) := by
  refine fn_of_run tyOk ztOk mix Try.func122 rfl (by decide) Try.ntmps122 (fun w0 h => ?_)
  have R := ruF hv hr
  have hWl := hW.1
  have hc := R.c
  have hc0 := R.c0
  have hu := R.u
  have hcw : r.cell.toNat < W.length := by omega
  have huw : p.up r.cell < W.length := by omega
  have wc := hW.at hcw
  have wu := hW.at huw
  have ob := plus_wt R.o' R.i'
  have o1 := R.o'.2
  have fits : Fits r.out r.in_ (-1) := ⟨by omega, by omega, fun x hx => by have := R.o'.1.1 x hx; omega, fun y hy => by have := R.i'.1.1 y hy; omega⟩
  repeat' (first
      | (refine j_go ?_; first
        | refine j_op0 rfl rfl rfl rfl ?_ | (refine j_kIdx rfl ?_; first | refine j_idx rfl rfl rfl rfl rfl (by omega) rfl rfl rfl ?_ | refine j_idxz rfl rfl rfl rfl rfl ⟨by omega, by omega⟩ rfl rfl rfl ?_) | (refine j_kCall rfl rfl rfl rfl ?_; first | refine jc (c_plus _ _ _ fits) (LeL.refl _) rfl rfl ?_ | refine jc (c_parentP _ _ hv.1 ⟨R.c0, R.c⟩) (LeL.refl _) rfl rfl ?_ | refine jc (c_weighZ _ _ ob.1 (by omega) wc.2 (by omega)) (LeL.refl _) rfl rfl ?_ | refine jc (c_weighZ _ _ ob.1 (by omega) wu.2 (by omega)) (LeL.refl _) rfl rfl ?_) | refine j_box rfl rfl rfl rfl rfl rfl ?_)
      | refine j_nil ?_
      | (refine r_go ?_; first | refine run_seq ?_ | refine run_region ?_ | refine run_ret ?_ | refine run_regionD (by kernel_rfl) ?_)
      | refine seqQ_normal ?_)
  have e : p.chg W r = dot r.in_ W[r.cell.toNat] - dot r.out W[r.cell.toNat] + dot r.out W[p.up r.cell] - dot r.in_ W[p.up r.cell] := by unfold Passing.chg; rw [getD_get hcw, getD_get huw]
  rw [plusL_neg ob.2.2.1, plusL_neg ob.2.2.1]
  exact end1 rfl (List.Sublist.refl _) (rbN (by rw [e]; omega)) (.inl rfl)
theorem c_iIsPassInvariant (p : Passing) (W : List (List Int)) (hv : p.Ok) (hW : p.WOk W) : Gives Try.prog 49 [.agg (encPassing p), .sl (W.map (encS Go.AI.encI))] (.tup [.raw (.bool (dec (p.Inv W))), .int 0]) := by
  refine fn_of_run tyOk ztOk mix Try.func49 rfl (by decide) Try.ntmps49 (fun w0 h => ?_)
  have hWl := hW.1
  have hW2 : p.parents.length < W.length := by omega
  have wn := hW.at hW2
  have hfl := hv.1.2.2.2.1
  have p4 := hv.1.2.1
  have k8 := hv.1.1
  repeat' (first
      | (refine j_go ?_; first
        | refine j_op0 rfl rfl rfl rfl ?_ | (refine j_kLen rfl ?_; first | refine j_len rfl rfl rfl rfl rfl rfl ?_) | (refine j_kCall rfl rfl rfl rfl ?_; first | refine jc (c_iValidPassing _) (LeL.refl _) rfl rfl ?_ | refine jc (c_areWeights _ _ hv.1) (LeL.refl _) rfl rfl ?_) | refine j_box rfl rfl rfl rfl rfl rfl ?_)
      | refine j_nil ?_
      | (refine r_go ?_; first | refine run_seq ?_ | refine run_region ?_ | (refine (run_ifn rfl (fun hb => ?_) (fun hb => ?_)) <;> first | (exfalso; omega) | skip) | refine run_block ?_ | refine run_ret ?_ | refine run_skip ?_)
      | refine seqQ_normal ?_ | refine seqQ_ret ?_)
  · exact absurd hv (by assumption)
  · exact absurd hW (by assumption)
  refine run_loop (fun k : Nat => [(2, .ip (encPassing p)), (3, .ip [.sl (W.map (encS Go.AI.encI))]), (16, .sl (p.free.map encB)), (17, .int p.free.length), (18, .int (k : Int))]) (fun _ => _) (fun k => k ≤ p.free.length ∧ (∀ i (h : i < p.free.length), i < k → p.free[i] = true → (W.getD p.parents.length []).getD i 0 = 0)) (fun k => p.free.length - k) 0 ⟨rfl, rfl, rfl, rfl, rfl, trivial⟩ rfl ⟨Nat.zero_le _, by first | (intros; omega) | (simp; done) | rfl | trivial | exact ⟨by simp [sumF], by intros; omega⟩ | exact ⟨by omega, by simp⟩⟩ (fun k ⟨kl, kp⟩ => ?_)
  by_cases hk : k < p.free.length
  · have hkw : k < W[p.parents.length].length := by omega
    have eg : (W.getD p.parents.length []).getD k 0 = W[p.parents.length][k] := by rw [getD_get hW2, getD_get hkw]
    have ek : p.free.getD k false = p.free[k] := getD_get hk
    repeat' (first
      | (refine j_go ?_; first
        | refine j_op0 rfl rfl rfl rfl ?_ | refine j_off rfl rfl rfl ?_ | (refine j_kIdx rfl ?_; first | refine j_idx rfl rfl rfl rfl rfl (by omega) rfl rfl rfl ?_) | (refine j_kBin rfl ?_; first | refine j_in rfl rfl ⟨by omega, by omega⟩ rfl rfl ?_) | (refine j_kCall rfl rfl rfl rfl ?_; first | refine jc (c_outside _) (LeL.refl _) rfl rfl ?_) | (refine j_kGuard rfl ?_; first | (refine (j_branch rfl rfl rfl (fun hb => ?_) (fun hb => ?_)) <;> skip; (fail_if_success guard_hyp hb : true = true); (fail_if_success guard_hyp hb : true = false); (fail_if_success guard_hyp hb : false = true); (fail_if_success guard_hyp hb : false = false))))
      | refine j_nil ?_
      | (refine r_go ?_; first | refine run_seq ?_ | refine run_region ?_ | refine run_cond_f rfl ?_ | (refine (run_if rfl (fun hb => ?_) (fun hb => ?_)) <;> first | (exfalso; omega) | skip) | (refine (run_ifn rfl (fun hb => ?_) (fun hb => ?_)) <;> first | (exfalso; omega) | skip) | refine run_block ?_ | refine run_ret ?_ | refine run_skip ?_ | refine run_regionD (by kernel_rfl) ?_)
      | refine seqQ_normal ?_ | refine seqQ_ret ?_ | refine blockQ_normal ?_ | refine blockQ_ret ?_ | refine loopQ_ret ?_)
    · exact end2 rfl rfl (List.Sublist.refl _) (by rw [dec_f (fun q => hb (eg ▸ q.1 k hk (by rw [ek]; assumption)))]; rfl) (.inl rfl)
    · exact loopQ_nextD (k + 1) ⟨by omega, all_step kp (fun _ _ => eg.trans hb)⟩ (by omega) (by first | exact List.Sublist.refl _ | exact sub1 | exact sub2 | exact sub3) ⟨rfl, rfl, rfl, rfl, nx _, trivial⟩
    · exact loopQ_nextD (k + 1) ⟨by omega, all_step kp (fun _ q => absurd (q.symm.trans hb) (by decide))⟩ (by omega) (by first | exact List.Sublist.refl _ | exact sub1 | exact sub2 | exact sub3) ⟨rfl, rfl, rfl, rfl, nx _, trivial⟩
  · repeat' (first
      | (refine j_go ?_; first
        | refine j_op0 rfl rfl rfl rfl ?_ | (refine j_kCall rfl rfl rfl rfl ?_; first | refine jc (c_cfP _ _ (fun r => ¬ p.chg W r = 0) _ (fun r hr => c_iIsPI1 p r W hv hr hW)) (LeL.refl _) rfl rfl ?_))
      | refine j_nil ?_
      | (refine r_go ?_; first | refine run_seq ?_ | refine run_region ?_ | (refine (run_if rfl (fun hb => ?_) (fun hb => ?_)) <;> first | (exfalso; omega) | skip) | refine run_ret ?_ | refine run_exit ?_)
      | refine seqQ_normal ?_ | refine seqQ_exit ?_ | refine blockQ_eq ?_ | refine loopQ_exit ?_)
    exact end2 rfl rfl (List.Sublist.refl _) (congrArg (fun x => A.tup [x, A.int 0]) (rbN ⟨fun q => ⟨fun i hi hf => kp i hi (by omega) (by rw [getD_get hi] at hf; exact hf), fun r hr => by
      by_cases z : p.chg W r = 0
      · exact z
      · exact absurd ⟨r, hr, z⟩ q⟩, fun q ⟨r, hr, z⟩ => z (q.2 r hr)⟩)) (.inl rfl)
theorem c_sIsPassInvariant (p : Passing) (W : List (List Int)) (hv : p.Ok) (hs : RulesSm p) (hW : p.WOk W) : Gives Try.prog 50 [.agg (encPassing p), .sl (W.map (encS Go.AI.encI))] (.tup [.raw (.bool (dec (p.Inv W))), .int 0]) := by
  refine fn_of_run tyOk ztOk mix Try.func50 rfl (by decide) Try.ntmps50 (fun w0 h => ?_)
  have hWl := hW.1
  have hW2 : p.parents.length < W.length := by omega
  have wn := hW.at hW2
  have hfl := hv.1.2.2.2.1
  have p4 := hv.1.2.1
  have k8 := hv.1.1
  repeat' (first
      | (refine j_go ?_; first
        | refine j_op0 rfl rfl rfl rfl ?_ | (refine j_kIdx rfl ?_; first | refine j_idx rfl rfl rfl rfl rfl (by omega) rfl rfl rfl ?_) | (refine j_kLen rfl ?_; first | refine j_len rfl rfl rfl rfl rfl rfl ?_) | (refine j_kCall rfl rfl rfl rfl ?_; first | refine jc (c_l06Ok _) (LeL.refl _) rfl rfl ?_ | refine jc (c_l06Weights _ _ hv.1) (LeL.refl _) rfl rfl ?_) | refine j_box rfl rfl rfl rfl rfl rfl ?_)
      | refine j_nil ?_
      | (refine r_go ?_; first | refine run_seq ?_ | refine run_region ?_ | (refine (run_ifn rfl (fun hb => ?_) (fun hb => ?_)) <;> first | (exfalso; omega) | skip) | refine run_block ?_ | refine run_ret ?_ | refine run_skip ?_)
      | refine seqQ_normal ?_ | refine seqQ_ret ?_)
  · exact absurd hv (by assumption)
  · exact absurd hW (by assumption)
  refine run_loop (fun k : Nat => [(1, .sl (W.map (encS Go.AI.encI))), (2, .ip (encPassing p)), (6, .sl (W[p.parents.length].map Go.AI.encI)), (7, .int (k : Int))]) (fun _ => _) (fun k => k ≤ W[p.parents.length].length ∧ (∀ i (h : i < W[p.parents.length].length), i < k → p.free.getD i false = true → W[p.parents.length][i] = 0)) (fun k => W[p.parents.length].length - k) 0 ⟨rfl, rfl, rfl, rfl, trivial⟩ rfl ⟨Nat.zero_le _, by first | (intros; omega) | (simp; done) | rfl | trivial | exact ⟨by simp [sumF], by intros; omega⟩ | exact ⟨by omega, by simp⟩⟩ (fun k ⟨kl, kp⟩ => ?_)
  by_cases hk : k < W[p.parents.length].length
  · have hkf : k < p.free.length := by omega
    repeat' (first
      | (refine j_go ?_; first
        | refine j_op0 rfl rfl rfl rfl ?_ | refine j_off rfl rfl rfl ?_ | (refine j_kIdx rfl ?_; first | refine j_idx rfl rfl rfl rfl rfl (by omega) rfl rfl rfl ?_) | (refine j_kBin rfl ?_; first | refine j_in rfl rfl ⟨by omega, by omega⟩ rfl rfl ?_) | (refine j_kLen rfl ?_; first | refine j_len rfl rfl rfl rfl rfl rfl ?_) | (refine j_kGuard rfl ?_; first | (refine (j_branch rfl rfl rfl (fun hb => ?_) (fun hb => ?_)) <;> skip; (fail_if_success guard_hyp hb : true = true); (fail_if_success guard_hyp hb : true = false); (fail_if_success guard_hyp hb : false = true); (fail_if_success guard_hyp hb : false = false))))
      | refine j_nil ?_
      | (refine r_go ?_; first | refine run_seq ?_ | refine run_region ?_ | refine run_cond_f rfl ?_ | (refine (run_if rfl (fun hb => ?_) (fun hb => ?_)) <;> first | (exfalso; omega) | skip) | (refine (run_ifn rfl (fun hb => ?_) (fun hb => ?_)) <;> first | (exfalso; omega) | skip) | refine run_block ?_ | refine run_ret ?_ | refine run_skip ?_)
      | refine seqQ_normal ?_ | refine seqQ_ret ?_ | refine blockQ_normal ?_ | refine blockQ_ret ?_ | refine loopQ_ret ?_)
    · exact end2 rfl rfl (List.Sublist.refl _) (by rw [dec_f (fun q => hb (by have := q.1 k hkf (by rw [getD_get hkf]; assumption); rw [getD_get hW2, getD_get hk] at this; exact this))]; rfl) (.inl rfl)
    · exact loopQ_nextD (k + 1) ⟨by omega, all_step kp (fun _ _ => hb)⟩ (by omega) (by first | exact List.Sublist.refl _ | exact sub1 | exact sub2 | exact sub3) ⟨rfl, rfl, rfl, nx _, trivial⟩
    · exact loopQ_nextD (k + 1) ⟨by omega, all_step kp (fun _ q => by rw [getD_get hkf] at q; exact absurd (q.symm.trans hb) (by decide))⟩ (by omega) (by first | exact List.Sublist.refl _ | exact sub1 | exact sub2 | exact sub3) ⟨rfl, rfl, rfl, nx _, trivial⟩
  have hLZ : p.LZ W := fun i hi hf => by rw [getD_get hW2, getD_get (show i < W[p.parents.length].length by omega)]; exact kp i (by omega) (by omega) hf
  repeat' (first
      | (refine j_go ?_; first
        | refine j_op0 rfl rfl rfl rfl ?_ | (refine j_kLen rfl ?_; first | refine j_len rfl rfl rfl rfl rfl rfl ?_) | (refine j_kCall rfl rfl rfl rfl ?_; first | refine jc (c_l06Level _ (by omega) (fun l hl => by have := (hW.2 l hl).1; have := hv.1.1; omega)) (LeL.refl _) rfl rfl ?_))
      | refine j_nil ?_
      | (refine r_go ?_; first | refine run_seq ?_ | refine run_region ?_ | (refine (run_if rfl (fun hb => ?_) (fun hb => ?_)) <;> first | (exfalso; omega) | skip) | refine run_block ?_ | refine run_exit ?_)
      | refine seqQ_normal ?_ | refine seqQ_exit ?_ | refine blockQ_eq ?_ | refine loopQ_exit ?_)
  clear kp
  have hWf := flat_length hW.sh
  have hr8 := hv.1.2.2.2.2.1
  have hm : (p.parents.length + 1) * p.kinds.toNat ≤ 5 * 8 := Nat.mul_le_mul (by omega) (by have := hv.1.1; omega)
  refine run_loop (fun k : Nat => [(2, .ip (encPassing p)), (8, .sl (W.flatten.map Go.AI.encI)), (9, .int (k : Int))]) (fun _ => _) (fun k => k ≤ p.rules.length ∧ (∀ i (h : i < p.rules.length), i < k → p.chg W p.rules[i] = 0)) (fun k => p.rules.length - k) 0 ⟨rfl, rfl, rfl, trivial⟩ rfl ⟨Nat.zero_le _, by first | (intros; omega) | (simp; done) | rfl | trivial | exact ⟨by simp [sumF], by intros; omega⟩ | exact ⟨by omega, by simp⟩⟩ (fun k ⟨kl, kp⟩ => ?_)
  by_cases hk : k < p.rules.length
  · have hr := List.getElem_mem hk
    have R := ruF hv hr
    have q2 := hs _ hr
    repeat' (first
      | (refine j_go ?_; first
        | refine j_op0 rfl rfl rfl rfl ?_ | (refine j_kLen rfl ?_; first | refine j_len rfl rfl rfl rfl rfl rfl ?_))
      | refine j_nil ?_
      | (refine r_go ?_; first | refine run_seq ?_ | refine run_region ?_ | (refine (run_if rfl (fun hb => ?_) (fun hb => ?_)) <;> first | (exfalso; omega) | skip) | refine run_block ?_ | refine run_skip ?_)
      | refine seqQ_normal ?_)
    refine j_makeI (g := Go.AI.encI) (m := W.flatten.length) 0 rfl rfl rfl rfl rfl rfl rfl rfl rfl (by omega) rfl rfl (fun bz => ?_)
    repeat' (first
      | (refine j_go ?_; first
        | refine j_op0 rfl rfl rfl rfl ?_ | (refine j_kIdx rfl ?_; first | refine j_idx rfl rfl rfl rfl rfl (by omega) rfl rfl rfl ?_))
      | refine j_nil ?_
      | (refine r_go ?_; first | refine run_seq ?_ | refine run_region ?_)
      | refine seqQ_normal ?_)
    have tT := o_l06Take p hv _ hr (zeroL (p.parents.length + 1) p.kinds.toNat) zero_sh zero_nn 1 (by omega) (some bz) W.flatten.length
    rw [zero_flat, List.length_replicate, ← hWf] at tT
    have shT : Sh (p.parents.length + 1) p.kinds.toNat (p.tk p.rules[k] 1 (zeroL (p.parents.length + 1) p.kinds.toNat)) 20 := ((zero_sh (B := 0)).mixS ⟨R.o.1, q2.1⟩ ⟨R.i.1, q2.2⟩ (by omega)).mono (by omega)
    have shG : Sh (p.parents.length + 1) p.kinds.toNat (p.gv p.rules[k] 1 (p.tk p.rules[k] 1 (zeroL (p.parents.length + 1) p.kinds.toNat))) 40 := (shT.mixS ⟨R.i.1, q2.2⟩ ⟨R.o.1, q2.1⟩ (by omega)).mono (by omega)
    have tG := o_l06Give p hv _ hr _ (shT.mono (by omega)) 1 (by omega) (some bz) W.flatten.length
    rw [flat_length shT, ← hWf] at tG
    have eC : md (p.gv p.rules[k] 1 (p.tk p.rules[k] 1 (zeroL (p.parents.length + 1) p.kinds.toNat))) W = p.chg W p.rules[k] := by
      rw [md_step hv hWl hLZ hr (zero_sh (B := 0)) (by omega), md_zero]; omega
    have lG : W.flatten.length = (p.gv p.rules[k] 1 (p.tk p.rules[k] 1 (zeroL (p.parents.length + 1) p.kinds.toNat))).flatten.length := by rw [hWf, flat_length shG]
    have sm := small_md hv.1 (shG.mono (by omega)) hW
    rw [eC] at sm
    generalize p.gv p.rules[k] 1 (p.tk p.rules[k] 1 (zeroL (p.parents.length + 1) p.kinds.toNat)) = G at tG sm lG eC shG
    generalize p.tk p.rules[k] 1 (zeroL (p.parents.length + 1) p.kinds.toNat) = T at tT tG shT
    refine j_kCall rfl rfl rfl rfl ?_
    refine jcp _ tT (List.Perm.refl _) (LeL.refl _) rfl rfl (fun v h1 hR => ?_)
    obtain ⟨rfl, rfl⟩ := hR
    repeat' (first
      | (refine j_go ?_; first
        | refine j_op0 rfl rfl rfl rfl ?_ | (refine j_kIdx rfl ?_; first | refine j_idx rfl rfl rfl rfl rfl (by omega) rfl rfl rfl ?_))
      | refine j_nil ?_
      | (refine r_go ?_; first | refine run_seq ?_ | refine run_region ?_)
      | refine seqQ_normal ?_)
    refine j_kCall rfl rfl rfl rfl ?_
    refine jcp _ tG (List.Perm.refl _) (LeL.refl _) rfl rfl (fun v h1 hR => ?_)
    obtain rfl := hR
    repeat' (first
      | (refine j_go ?_; first
        | refine j_op0 rfl rfl rfl rfl ?_)
      | refine j_nil ?_
      | (refine r_go ?_; first | refine run_seq ?_ | refine run_region ?_)
      | refine seqQ_normal ?_)
    refine j_view (view_freeze 0 64 (ys := G.flatten) (g := Go.AI.encI) (z := 1) (by rw [← lG]; rfl) rfl rfl (fun _ => rfl) rfl rfl) ?_
    repeat' (first
      | (refine j_go ?_; first
        | refine j_op0 rfl rfl rfl rfl ?_ | (refine j_kBin rfl ?_; first | refine j_in rfl rfl ⟨by omega, by omega⟩ rfl rfl ?_) | (refine j_kCall rfl rfl rfl rfl ?_; first | refine jc (c_l06Dot _ _ sm.1 sm.2.1 sm.2.2.1) (LeL.refl _) rfl rfl ?_))
      | refine j_nil ?_
      | (refine r_go ?_; first | refine run_seq ?_ | refine run_region ?_ | (refine (run_ifn rfl (fun hb => ?_) (fun hb => ?_)) <;> first | (exfalso; omega) | skip) | refine run_ret ?_ | refine run_skip ?_)
      | refine seqQ_normal ?_ | refine seqQ_ret ?_ | refine blockQ_normal ?_ | refine blockQ_ret ?_ | refine loopQ_ret ?_)
    · exact end2 rfl rfl (List.Sublist.refl _) (by rw [dec_f (fun q => hb (sm.2.2.2.trans (q.2 _ hr)))]; rfl) (.inl rfl)
    · exact loopQ_nextD (k + 1) ⟨by omega, all_step kp (fun _ => sm.2.2.2.symm.trans hb)⟩ (by omega) (by first | exact List.Sublist.refl _ | exact sub1 | exact sub2 | exact sub3) ⟨rfl, rfl, nx _, trivial⟩
  · repeat' (first
      | (refine j_go ?_; first
        | refine j_op0 rfl rfl rfl rfl ?_ | (refine j_kLen rfl ?_; first | refine j_len rfl rfl rfl rfl rfl rfl ?_))
      | refine j_nil ?_
      | (refine r_go ?_; first | refine run_seq ?_ | refine run_region ?_ | (refine (run_if rfl (fun hb => ?_) (fun hb => ?_)) <;> first | (exfalso; omega) | skip) | refine run_ret ?_ | refine run_exit ?_)
      | refine seqQ_normal ?_ | refine seqQ_exit ?_ | refine blockQ_eq ?_ | refine loopQ_exit ?_)
    exact end2 rfl rfl (List.Sublist.refl _) (by rw [dec_t (show p.Inv W from ⟨hLZ, fun r hr => by obtain ⟨i, hi, rfl⟩ := List.getElem_of_mem hr; exact kp i hi (by omega)⟩)]; rfl) (.inl rfl)
end Go.Proofs.Ytahjliejgjjfeaa

/-
  A step of a passing system: the program's step, in memory of the call's own. No condition.
-/
namespace Go.Proofs.Ytahjliejgjjfeaa
open Go.AI
set_option maxRecDepth 8000
set_option maxHeartbeats 1600000

/-- What the program hands back. -/
def SPi (x : Stock) (c : Int) : A → Heap → Prop := fun v h' => ∃ a, v = .tup [a, .int c] ∧ ROStock x a h'
theorem SPi.nil {c : Int} : SPi ⟨[], []⟩ c (.tup [.agg [.sl [], .sl []], .int c]) [] := ⟨_, rfl, .sl [], [], .inr ⟨rfl, rfl, rfl⟩, .sl [], [], .inr ⟨rfl, rfl, rfl⟩, rfl, rfl⟩
theorem rows_snoc3 {L : List (List Int)} {vs : List A} {hs : List Heap} {k : Nat} (g2 : vs.length = k) (g3 : hs.length = k) (hk : k < L.length) (g4 : ∀ i (h0 : i < L.length) (h1 : i < vs.length) (h2 : i < hs.length), ROI L[i] vs[i] hs[i]) {v : A} {h : Heap} (hv : ROI L[k] v h) :
    ∀ i (h0 : i < L.length) (h1 : i < (vs ++ [v]).length) (h2 : i < (hs ++ [h]).length), ROI L[i] (vs ++ [v])[i] (hs ++ [h])[i] := by
  intro i h0 h1 h2
  by_cases hi : i < k
  · rw [List.getElem_append_left (by omega), List.getElem_append_left (by omega)]; exact g4 i h0 _ _
  · have e : i = k := by simp at h1; omega
    subst e
    rw [List.getElem_append_right (by omega), List.getElem_append_right (by omega)]
    simpa [g2, g3] using hv
structure StG (n : Nat) (L : List (List Int)) (k : Nat) (vs : List A) (hs : List Heap) (ar : A) (ha : Heap) : Prop where
  g1 : k ≤ n + 1
  g2 : vs.length = min k n
  g3 : hs.length = min k n
  g4 : ∀ i (h0 : i < L.length) (h1 : i < vs.length) (h2 : i < hs.length), ROI L[i] vs[i] hs[i]
  g5 : k ≤ n → ar = .os none 0 0 ∧ ha = []
  g6 : k = n + 1 → ROI (L.getD n []) ar ha
theorem o_step (p : Passing) (s : Stock) (cs : List Int) (hv : p.Ok) (hs0 : p.StockOk s) (hc : p.Cnts cs) : Does Try.prog 136 [.agg (encPassing p), .agg (encStock s), .sl (cs.map Go.AI.encI)] []
    (fun v h' => (p.StockOk (p.after s cs) → SPi (p.after s cs) 0 v h') ∧ (¬ p.StockOk (p.after s cs) → SPi ⟨[], []⟩ 3 v h')) := by
  refine fn_of_runD tyOk ztOk mix Try.func136 rfl (by decide) Try.ntmps136 (fun w0 F => ?_)
  change Run _ _ _ _ _ F
  have k8 := hv.1.1
  have p4 := hv.1.2.1
  have sh := chs_sh' hv hc hs0 (k := p.rules.length) (Nat.le_refl _)
  have eA : p.after s cs = stockOf p.parents.length (p.chs cs (plc s) p.rules.length) := rfl
  have cT := c_changedT p s cs hv hs0 hc
  generalize p.chs cs (plc s) p.rules.length = L at sh eA cT
  have ln := sh.n
  rw [stockOf_eq (by omega)] at eA
  repeat' (first
      | (refine j_go ?_; first
        | refine j_op0 rfl rfl rfl rfl ?_ | (refine j_kLen rfl ?_; first | refine j_len rfl rfl rfl rfl rfl rfl ?_) | (refine j_kCall rfl rfl rfl rfl ?_; first | refine jc (cT) (LeL.refl _) rfl rfl ?_) | (refine j_kStore rfl ?_; first | refine j_storeN 0 rfl rfl rfl rfl rfl rfl rfl rfl rfl rfl rfl ?_) | refine j_box rfl rfl rfl rfl rfl rfl ?_ | refine j_build rfl rfl rfl rfl rfl rfl rfl ?_ | refine j_alloc rfl rfl rfl rfl rfl (fun _ => ?_))
      | refine j_nil ?_
      | (refine r_go ?_; first | refine run_seq ?_ | refine run_region ?_ | refine run_block ?_)
      | refine seqQ_normal ?_)
  rename_i r6 st
  refine run_view (view_none 25 0 rfl) ?_
  refine run_loop (fun x : Nat × (Option Nat × Nat) × List A × List Heap × A × Heap => [(3, .ip (encPassing p)), (6, .op (some r6) 0), (9, .op (some st) 0), (17, .sl (L.map (encS Go.AI.encI))), (18, .int L.length), (19, .int (x.1 : Int))])
    (fun x => ⟨x.2.1.1, 25, x.2.1.2 * 1, (x.2.2.1.map fun a => [a]).flatten⟩ :: ⟨some st, 59, 2, [.os x.2.1.1 x.2.2.1.length x.2.1.2, x.2.2.2.2.1]⟩ :: ⟨some r6, 59, 2, [.os none 0 0, .os none 0 0]⟩ :: (x.2.2.2.1.flatten ++ (x.2.2.2.2.2 ++ F)))
    (fun x => StG p.parents.length L x.1 x.2.2.1 x.2.2.2.1 x.2.2.2.2.1 x.2.2.2.2.2) (fun x => L.length - x.1) (0, (none, 0), [], [], .os none 0 0, []) ⟨rfl, rfl, rfl, rfl, rfl, rfl, trivial⟩ rfl
    ⟨Nat.zero_le _, (by simp), (by simp), (fun _ _ q => absurd q (Nat.not_lt_zero _)), (fun _ => ⟨rfl, rfl⟩), (fun q => by omega)⟩ (fun ⟨k, ⟨oc, cc⟩, vs, hs, ar, ha⟩ G => ?_)
  obtain ⟨gk, gv, gh, gr, ga0, ga1⟩ := G
  dsimp only at gk gv gh gr ga0 ga1 ⊢
  by_cases hk : k < L.length
  · obtain ⟨rfl, rfl⟩ := ga0 (by omega)
    have rl : L[k].length = p.kinds.toNat := (sh.b _ (List.getElem_mem hk)).1
    have rne : L[k] ≠ [] := fun q => by rw [q] at rl; simp at rl; omega
    by_cases hn : k = p.parents.length
    · have vl : vs.length = p.parents.length := by omega
      have hl : hs.length = p.parents.length := by omega
      repeat' (first
      | (refine j_go ?_; first
        | refine j_op0 rfl rfl rfl rfl ?_ | (refine j_kIdx rfl ?_; first | refine j_idx rfl rfl rfl rfl rfl (by omega) rfl rfl rfl ?_) | (refine j_kCall rfl rfl rfl rfl ?_; first | refine jc (c_outside _) (LeL.refl _) rfl rfl ?_))
      | refine j_nil ?_
      | (refine r_go ?_; first | refine run_seq ?_ | refine run_region ?_ | (refine (run_if rfl (fun hb => ?_) (fun hb => ?_)) <;> first | (exfalso; omega) | skip) | refine run_block ?_ | refine run_skip ?_)
      | refine seqQ_normal ?_)
      refine j_kCall rfl rfl rfl rfl ?_
      refine jcp _ (o_cloneI L[k] rne (by omega)) (List.Perm.refl _) (LeL.refl _) rfl rfl (fun v h1 hR => ?_)
      obtain ⟨ov, cv, rfl, rfl⟩ := hR
      repeat' (first
      | (refine j_go ?_; first
        | refine j_op0 rfl rfl rfl rfl ?_ | (refine j_kBin rfl ?_; first | refine j_in rfl rfl ⟨by omega, by omega⟩ rfl rfl ?_) | (refine j_kStore rfl ?_; first | refine j_store 2 rfl rfl rfl rfl rfl rfl rfl rfl rfl rfl rfl ?_))
      | refine j_nil ?_
      | (refine r_go ?_; first | refine run_region ?_)
      | refine seqQ_normal ?_ | refine blockQ_normal ?_)
      refine loopQ_view (view_perm (h' := ⟨oc, 25, cc * 1, (vs.map fun a => [a]).flatten⟩ :: ⟨some st, 59, 2, [.os oc vs.length cc, .os ov L[k].length cv]⟩ :: ⟨some r6, 59, 2, [.os none 0 0, .os none 0 0]⟩ :: (hs.flatten ++ ([(⟨ov, 2, cv * 1, (L[k].map Go.AI.encI).flatten⟩ : Blk)] ++ F))) (by
        change List.Perm (_ :: _ :: ⟨some st, 59, 2, [.os oc vs.length cc, .os ov L[k].length cv]⟩ :: _ :: (hs.flatten ++ ([] ++ F))) _
        classical exact List.perm_iff_count.2 fun _ => by simp only [List.count_cons, List.count_append, List.count_nil]; omega)) ?_
      exact loopQ_next (k + 1, (oc, cc), vs, hs, A.os ov L[k].length cv, [(⟨ov, 2, cv * 1, (L[k].map Go.AI.encI).flatten⟩ : Blk)]) ⟨by dsimp only; omega, by dsimp only; omega, by dsimp only; omega, gr, (fun q => by dsimp only at q; omega), (fun _ => by
        subst hn
        dsimp only
        rw [getD_get hk]; exact Or.inl ⟨ov, cv, rfl, rfl⟩)⟩ (by dsimp only; omega) rfl ⟨rfl, rfl, rfl, rfl, rfl, nx _, trivial⟩
    · have vl : vs.length = k := by omega
      have hl : hs.length = k := by omega
      repeat' (first
      | (refine j_go ?_; first
        | refine j_op0 rfl rfl rfl rfl ?_ | (refine j_kIdx rfl ?_; first | refine j_idx rfl rfl rfl rfl rfl (by omega) rfl rfl rfl ?_) | (refine j_kCall rfl rfl rfl rfl ?_; first | refine jc (c_outside _) (LeL.refl _) rfl rfl ?_))
      | refine j_nil ?_
      | (refine j_goO ?_; first
        | refine j_op0O rfl rfl rfl rfl ?_ | (refine j_kLoadO rfl ?_; first | refine j_mloadS 1 rfl rfl rfl rfl rfl rfl rfl ?_))
      | (refine r_go ?_; first | refine run_seq ?_ | refine run_region ?_ | (refine (run_if rfl (fun hb => ?_) (fun hb => ?_)) <;> first | (exfalso; omega) | skip) | refine run_block ?_ | refine run_skip ?_ | refine run_opn 8 [⟨0, false, false, false⟩, ⟨1, false, false, false⟩, ⟨2, true, false, false⟩, ⟨3, false, true, false⟩, ⟨4, true, false, false⟩, ⟨5, false, true, false⟩, ⟨6, true, false, false⟩, ⟨7, false, true, false⟩] rfl rfl (by kernel_rfl) ?_)
      | refine seqQ_normal ?_)
      try (refine j_mloadS 1 rfl rfl rfl rfl rfl rfl rfl ?_)
      skip
      refine j_kCallO rfl rfl rfl rfl ?_
      refine jcdO 0 0 rfl (by intro k2 hk2; simp only [List.mem_singleton] at hk2; subst hk2; simp) (o_cloneI L[k] rne (by omega)) rfl (LeL.refl _) rfl rfl (fun v h1 hR => ?_)
      obtain ⟨ov, cv, rfl, rfl⟩ := hR
      repeat' (first
      | (refine j_goO ?_; first
        | (refine j_kBslO rfl ?_; first | refine j_bslO rfl rfl rfl rfl rfl rfl rfl rfl rfl rfl rfl ?_)))
      refine j_appendO 1 (g := fun a => [a]) (ys := vs) [A.os ov L[k].length cv] rfl (by intro k2 hk2; simp only [List.mem_singleton] at hk2; subst hk2; simp) rfl rfl rfl rfl rfl rfl rfl rfl rfl rfl rfl rfl (fun _ => rfl) (fun _ hy => by simp only [List.mem_singleton] at hy; subst hy; rfl) ⟨by rw [vl]; simp only [List.length_cons, List.length_nil]; omega, by rw [vl]; simp only [List.length_cons, List.length_nil]; omega⟩ rfl rfl (fun oc' cc' => ?_)
      refine j_dropO [1] rfl (by kernel_rfl) ?_
      repeat' (first
      | (refine j_go ?_; first
        | refine j_op0 rfl rfl rfl rfl ?_ | (refine j_kBin rfl ?_; first | refine j_in rfl rfl ⟨by omega, by omega⟩ rfl rfl ?_))
      | refine j_nil ?_
      | (refine j_goO ?_; first
        | refine j_op0O rfl rfl rfl rfl ?_ | (refine j_kStoreO rfl ?_; first | refine j_storeO 2 rfl rfl rfl rfl rfl rfl rfl rfl rfl rfl rfl rfl (by first | (intro _ hk; exact absurd hk List.not_mem_nil) | (intro k hk; simp at hk ⊢; try simp [hk])) ?_))
      | refine j_nilO ?_
      | (refine r_go ?_; first | refine run_region ?_)
      | refine seqQ_normal ?_ | refine blockQ_normal ?_)
      refine loopQ_view (view_perm (h' := ⟨oc', 25, cc' * 1, ((vs ++ [A.os ov L[k].length cv]).map fun a => [a]).flatten⟩ :: ⟨some st, 59, 2, [.os oc' (vs ++ [A.os ov L[k].length cv]).length cc', .os none 0 0]⟩ :: ⟨some r6, 59, 2, [.os none 0 0, .os none 0 0]⟩ :: ((hs ++ [[(⟨ov, 2, cv * 1, (L[k].map Go.AI.encI).flatten⟩ : Blk)]]).flatten ++ ([] ++ F))) (by
        change List.Perm (_ :: _ :: ⟨some st, 59, 2, [.os oc' (vs ++ [A.os ov L[k].length cv]).length cc', .os none 0 0]⟩ :: _ :: (hs.flatten ++ ([] ++ F))) _
        classical exact List.perm_iff_count.2 fun _ => by simp only [List.count_cons, List.count_append, List.count_nil, List.flatten_append, List.flatten_cons, List.flatten_nil]; omega)) ?_
      exact loopQ_next (k + 1, (oc', cc'), vs ++ [A.os ov L[k].length cv], hs ++ [[(⟨ov, 2, cv * 1, (L[k].map Go.AI.encI).flatten⟩ : Blk)]], .os none 0 0, []) ⟨by dsimp only; omega, by simp only [List.length_append, List.length_cons, List.length_nil]; omega, by simp only [List.length_append, List.length_cons, List.length_nil]; omega, rows_snoc3 vl hl (by omega) gr (Or.inl ⟨ov, cv, rfl, rfl⟩), (fun _ => ⟨rfl, rfl⟩), (fun q => by dsimp only at q; omega)⟩ (by dsimp only; omega) rfl ⟨rfl, rfl, rfl, rfl, rfl, nx _, trivial⟩
  · have hke : k = p.parents.length + 1 := by omega
    have hr := ga1 hke
    rw [getD_get (by omega)] at hr
    have vl : vs.length = p.parents.length := by omega
    have hl : hs.length = p.parents.length := by omega
    have tl : (L.take p.parents.length).length = p.parents.length := by rw [List.length_take]; omega
    have ro : ROStock ⟨L.take p.parents.length, L[p.parents.length]⟩ (.agg [.os oc vs.length cc, ar]) ((⟨oc, 25, cc * 1, (vs.map fun a => [a]).flatten⟩ :: hs.flatten) ++ ha) :=
      ⟨.os oc vs.length cc, _,   .inl ⟨oc, cc, vs, hs, vl.trans tl.symm, hl.trans tl.symm, fun i h0 h1 h2 => by simp only [List.getElem_take]; exact gr i _ h1 h2, by rw [tl, vl], rfl⟩, ar, ha, hr, rfl, rfl⟩
    have oka := OwnF.okc hr
    repeat' (first
      | (refine j_go ?_; first
        | refine j_op0 rfl rfl rfl rfl ?_ | (refine j_kLoad rfl ?_; first | refine j_mload 1 rfl rfl rfl rfl rfl rfl rfl ?_))
      | refine j_nil ?_
      | (refine r_go ?_; first | refine run_seq ?_ | refine run_region ?_ | (refine (run_if rfl (fun hb => ?_) (fun hb => ?_)) <;> first | (exfalso; omega) | skip) | refine run_exit ?_)
      | refine seqQ_normal ?_ | refine seqQ_exit ?_ | refine blockQ_eq ?_ | refine loopQ_exit ?_)
    refine j_kCall rfl rfl rfl rfl ?_
    refine jctq ((⟨oc, 25, cc * 1, (vs.map fun a => [a]).flatten⟩ :: hs.flatten) ++ ha) (c_iValidStock p ⟨L.take p.parents.length, L[p.parents.length]⟩) (Clo.raw _) (fun k hk => by
      rcases List.mem_append.1 hk with hk | hk
      · rcases List.mem_cons.1 hk with rfl | hk
        · simp
        · simp [hk]
      · simp [hk]) (FrzL.cons (Frz.same _ _) (FrzL.cons ro.frz (FrzL.nil _))) rfl rfl ?_
    repeat' (first
      | (refine j_go ?_; first
        | refine j_op0 rfl rfl rfl rfl ?_ | (refine j_kLoad rfl ?_; first | refine j_mload 1 rfl rfl rfl rfl rfl rfl rfl ?_) | (refine j_kStore rfl ?_; first | refine j_storeN 2 rfl rfl rfl rfl rfl rfl rfl rfl rfl rfl rfl ?_) | refine j_build rfl rfl rfl rfl rfl rfl rfl ?_)
      | refine j_nil ?_
      | (refine r_go ?_; first | refine run_seq ?_ | refine run_region ?_ | (refine (run_ifn rfl (fun hb => ?_) (fun hb => ?_)) <;> first | (exfalso; omega) | skip) | refine run_ret ?_ | refine run_skip ?_)
      | refine seqQ_normal ?_ | refine seqQ_ret ?_)
    · have hn : ¬ p.StockOk (p.after s cs) := by rw [eA]; exact fun q => hb ⟨hv, q⟩
      refine endD_view (view_freezeP 2 6 rfl rfl) ?_
      refine endD_view (view_sub (h0 := F) (by
        change List.Sublist F (_ :: _ :: (hs.flatten ++ (ha ++ F)))
        exact List.Sublist.cons _ (List.Sublist.cons _ ((List.sublist_append_right _ _).trans (List.sublist_append_right _ _))))) ?_
      exact endD_ret (h1 := []) rfl (.cons (.cellI rfl rfl) (.cons (.tmp rfl) .nil)) (Le.tup2 (Le.agg (LeL.cons (Le.nil 0) (LeL.cons (Le.nil 0) LeL.nil)))) ⟨fun q => absurd q hn, fun _ => SPi.nil⟩ (.inl rfl)
    · have hn : p.StockOk (p.after s cs) := by rw [eA]; exact hb.2
      refine j_storeN 2 rfl rfl rfl rfl rfl rfl rfl rfl (show [A.os oc vs.length cc, ar].all okCell = true by simp only [List.all_cons, List.all_nil, oka]; rfl) rfl rfl ?_
      repeat' (first
      | (refine j_go ?_; first
        | refine j_op0 rfl rfl rfl rfl ?_)
      | refine j_nil ?_
      | (refine r_go ?_; first | refine run_ret ?_)
      | refine seqQ_normal ?_)
      refine endD_view (view_freezeP 2 6 rfl rfl) ?_
      refine endD_view (view_erase 1) ?_
      rw [eA] at hn ⊢
      exact endD_ret (h1 := (⟨oc, 25, cc * 1, (vs.map fun a => [a]).flatten⟩ :: hs.flatten) ++ ha) (by simp [List.append_assoc]) (.cons (.cellI rfl rfl) (.cons (.tmp rfl) .nil)) (Le.refl _) ⟨fun _ => ⟨_, rfl, ro⟩, fun q => absurd hn q⟩ (.inl rfl)

theorem c_iPassStep (p : Passing) (s : Stock) (cs : List Int) : Does Try.prog 53 [.agg (encPassing p), .agg (encStock s), .sl (cs.map Go.AI.encI)] [] (SPi (resPassStep p s cs) (codePassStep p s cs)) := by
  refine fn_of_runD tyOk ztOk mix Try.func53 rfl (by decide) Try.ntmps53 (fun w0 F => ?_)
  change Run _ _ _ _ _ F
  have cC := c_passCode p s cs
  by_cases hv : p.Ok
  · by_cases hs : p.StockOk s ∧ p.Cnts cs
    · obtain ⟨hs, hc⟩ := hs
      rw [cd2_o hv ⟨hs, hc⟩] at cC
      repeat' (first
      | (refine j_go ?_; first
        | refine j_op0 rfl rfl rfl rfl ?_ | (refine j_kCall rfl rfl rfl rfl ?_; first | refine jc (cC) (LeL.refl _) rfl rfl ?_ | refine jc (c_fits _ _ _ hv hs hc) (LeL.refl _) rfl rfl ?_) | (refine j_kStore rfl ?_; first | refine j_storeN 0 rfl rfl rfl rfl rfl rfl rfl rfl rfl rfl rfl ?_) | refine j_box rfl rfl rfl rfl rfl rfl ?_ | refine j_build rfl rfl rfl rfl rfl rfl rfl ?_ | refine j_alloc rfl rfl rfl rfl rfl (fun _ => ?_))
      | refine j_nil ?_
      | (refine r_go ?_; first | refine run_seq ?_ | refine run_region ?_ | (refine (run_ifn rfl (fun hb => ?_) (fun hb => ?_)) <;> first | (exfalso; omega) | skip) | refine run_ret ?_ | refine run_skip ?_)
      | refine seqQ_normal ?_ | refine seqQ_ret ?_)
      all_goals first
        | exact absurd rfl (by assumption)
        | (have hN : ¬ Nn (p.left s cs) := by assumption
           rw [(ps_f4 hv hs hc hN).1, (ps_f4 hv hs hc hN).2]
           refine endD_view (view_freezeP 0 6 rfl rfl) ?_
           exact endD_ret (h1 := []) rfl (.cons (.cellI rfl rfl) (.cons (.tmp rfl) .nil)) (Le.tup2 (Le.agg (LeL.cons (Le.nil 0) (LeL.cons (Le.nil 0) LeL.nil)))) SPi.nil (.inl rfl))
        | skip
      have hN : Nn (p.left s cs) := by assumption
      rename_i r6 _
      refine j_kCall rfl rfl rfl rfl ?_
      refine jcp (⟨some r6, 59, 2, [.os none 0 0, .os none 0 0]⟩ :: F) (o_step p s cs hv hs hc) (List.Perm.refl _) (LeL.refl _) rfl rfl (fun v h1 hR => ?_)
      by_cases hA : p.StockOk (p.after s cs)
      · obtain ⟨a, rfl, oR⟩ := hR.1 hA
        rw [(ps_t hv hs hc hN hA).1, (ps_t hv hs hc hN hA).2]
        obtain ⟨a0, a1, rfl, okr⟩ := oR.cells
        repeat' (first
      | (refine j_go ?_; first
        | refine j_op0 rfl rfl rfl rfl ?_))
        refine j_view (view_perm List.perm_middle) ?_
        refine j_storeN 0 rfl rfl rfl rfl rfl rfl rfl rfl okr rfl rfl ?_
        repeat' (first
      | (refine j_go ?_; first
        | refine j_op0 rfl rfl rfl rfl ?_)
      | refine j_nil ?_
      | (refine r_go ?_; first | refine run_ret ?_)
      | refine seqQ_normal ?_)
        refine endD_view (view_freezeP 0 6 rfl rfl) ?_
        exact endD_ret (h1 := h1) rfl (.cons (.cellI rfl rfl) (.cons (.tmp rfl) .nil)) (Le.refl _) ⟨_, rfl, oR⟩ (.inl rfl)
      · obtain ⟨a, rfl, oR⟩ := hR.2 hA
        rw [(ps_f3 hv hs hc hN hA).1, (ps_f3 hv hs hc hN hA).2]
        obtain ⟨a0, a1, rfl, okr⟩ := oR.cells
        repeat' (first
      | (refine j_go ?_; first
        | refine j_op0 rfl rfl rfl rfl ?_))
        refine j_view (view_perm List.perm_middle) ?_
        refine j_storeN 0 rfl rfl rfl rfl rfl rfl rfl rfl okr rfl rfl ?_
        repeat' (first
      | (refine j_go ?_; first
        | refine j_op0 rfl rfl rfl rfl ?_)
      | refine j_nil ?_
      | (refine r_go ?_; first | refine run_ret ?_)
      | refine seqQ_normal ?_)
        refine endD_view (view_freezeP 0 6 rfl rfl) ?_
        exact endD_ret (h1 := h1) rfl (.cons (.cellI rfl rfl) (.cons (.tmp rfl) .nil)) (Le.refl _) ⟨_, rfl, oR⟩ (.inl rfl)
    · rw [cd2_t hv hs] at cC
      rw [(ps_f2 hv hs).1, (ps_f2 hv hs).2]
      repeat' (first
      | (refine j_go ?_; first
        | refine j_op0 rfl rfl rfl rfl ?_ | (refine j_kCall rfl rfl rfl rfl ?_; first | refine jc (cC) (LeL.refl _) rfl rfl ?_) | (refine j_kStore rfl ?_; first | refine j_storeN 0 rfl rfl rfl rfl rfl rfl rfl rfl rfl rfl rfl ?_) | refine j_box rfl rfl rfl rfl rfl rfl ?_ | refine j_build rfl rfl rfl rfl rfl rfl rfl ?_ | refine j_alloc rfl rfl rfl rfl rfl (fun _ => ?_))
      | refine j_nil ?_
      | (refine r_go ?_; first | refine run_seq ?_ | refine run_region ?_ | (refine (run_ifn rfl (fun hb => ?_) (fun hb => ?_)) <;> first | (exfalso; omega) | skip) | refine run_ret ?_)
      | refine seqQ_normal ?_ | refine seqQ_ret ?_)
      all_goals first
        | (refine endD_view (view_freezeP 0 6 rfl rfl) ?_
           exact endD_ret (h1 := []) rfl (.cons (.cellI rfl rfl) (.cons (.tmp rfl) .nil)) (Le.tup2 (Le.agg (LeL.cons (Le.nil 0) (LeL.cons (Le.nil 0) LeL.nil)))) SPi.nil (.inl rfl))
        | (exfalso; omega)
        | trace_state
  · rw [cd2_f hv] at cC
    rw [(ps_f1 hv).1, (ps_f1 hv).2]
    repeat' (first
      | (refine j_go ?_; first
        | refine j_op0 rfl rfl rfl rfl ?_ | (refine j_kCall rfl rfl rfl rfl ?_; first | refine jc (cC) (LeL.refl _) rfl rfl ?_) | (refine j_kStore rfl ?_; first | refine j_storeN 0 rfl rfl rfl rfl rfl rfl rfl rfl rfl rfl rfl ?_) | refine j_box rfl rfl rfl rfl rfl rfl ?_ | refine j_build rfl rfl rfl rfl rfl rfl rfl ?_ | refine j_alloc rfl rfl rfl rfl rfl (fun _ => ?_))
      | refine j_nil ?_
      | (refine r_go ?_; first | refine run_seq ?_ | refine run_region ?_ | (refine (run_ifn rfl (fun hb => ?_) (fun hb => ?_)) <;> first | (exfalso; omega) | skip) | refine run_ret ?_)
      | refine seqQ_normal ?_ | refine seqQ_ret ?_)
    all_goals first
      | (refine endD_view (view_freezeP 0 6 rfl rfl) ?_
         exact endD_ret (h1 := []) rfl (.cons (.cellI rfl rfl) (.cons (.tmp rfl) .nil)) (Le.tup2 (Le.agg (LeL.cons (Le.nil 0) (LeL.cons (Le.nil 0) LeL.nil)))) SPi.nil (.inl rfl))
      | (exfalso; omega)
      | trace_state
end Go.Proofs.Ytahjliejgjjfeaa
