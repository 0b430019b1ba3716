/-
  The law FnPassInvariant answers true whatever it reads. No condition.
-/
import Derived.Test.YtahjliejgjjfeaaZD5
import Derived.Test.YtahjliejgjjfeaaZS6g
import Derived.Test.YtahjliejgjjfeaaZG2
import Derived.KernelRfl
namespace Go.Proofs.Ytahjliejgjjfeaa
open Go.AI
set_option maxRecDepth 8000
set_option maxHeartbeats 1600000

theorem c_f6big (l : List UInt8) : Gives Try.prog 45 [.sl (l.map encY)] (.raw (.bool (dec (4096 < (l.length : Int))))) := by
  refine fn_of_run tyOk ztOk mix Try.func45 rfl (by decide) Try.ntmps45 (fun w0 h => ?_)
  repeat' (first
      | (refine j_go ?_; first
        | refine j_op0 rfl rfl rfl rfl ?_ | (refine j_kLen rfl ?_; first | refine j_len rfl rfl rfl rfl rfl rfl ?_))
      | refine j_nil ?_
      | (refine r_go ?_; first | refine run_seq ?_ | refine run_region ?_ | refine run_ret ?_)
      | refine seqQ_normal ?_)
  exact end1 rfl (List.Sublist.refl _) (rfl) (.inl rfl)
theorem c_PassStepF (p : Passing) (s : Stock) (cs : List Int) : Gives Try.prog 53 [.agg (encPassing p), .agg (encStock s), .sl (cs.map Go.AI.encI)] (.tup [.agg (encStock (resPassStep p s cs)), .int (codePassStep p s cs)]) :=
  (c_iPassStep p s cs).frozen fun v h1 ⟨a, q1, q2⟩ => by rw [q1]; exact FrzF.tup2 q2.frzF (Clo.int _)
theorem Wts.wok {p : Passing} {W : List (List Int)} (h : Wts p W) : p.WOk W := ⟨h.1, fun l hl => ⟨(h.2 l hl).1, fun x hx => by have := (h.2 l hl).2 x hx; omega⟩⟩
/-- What a step of a small system answers. -/
theorem step_small {p : Passing} {s : Stock} (hv : PasSm p) (hs : StkSm p s) {cs : List Int} (hc5 : ∀ x ∈ cs, 0 ≤ x ∧ x ≤ 5) (hcl : cs.length = p.rules.length) :
    p.Cnts cs ∧ ((codePassStep p s cs = 0 ∧ Nn (p.left s cs) ∧ p.StockOk (p.after s cs) ∧ resPassStep p s cs = p.after s cs) ∨ codePassStep p s cs = 4 ∧ ¬ Nn (p.left s cs)) := by
  have hc : p.Cnts cs := ⟨fun x hx => by have := hc5 x hx; omega, by omega⟩
  refine ⟨hc, ?_⟩
  by_cases hN : Nn (p.left s cs)
  · have hA := after_ok hv hs hc hc5 hN
    have q := ps_t hv.1 hs.1 hc hN hA
    exact .inl ⟨q.2, hN, hA, q.1⟩
  · exact .inr ⟨(ps_f4 hv.1 hs.1 hc hN).2, hN⟩
theorem md_after {p : Passing} {s : Stock} (hv : PasSm p) (hs : StkSm p s) {W : List (List Int)} (hW : p.WOk W) (hi : p.Inv W) {cs : List Int} (hc : p.Cnts cs) : md (plc (p.after s cs)) W = md (plc s) W := by
  unfold Passing.after
  rw [plc_stockOf (chs_sh hv.1 hc (plc_sh hs.1) p.rules.length (Nat.le_refl _)).n]
  exact md_chs hv.1 hW.1 hi hc (plc_sh hs.1) _ (Nat.le_refl _)
theorem c_FnPassInvariant (a0 a1 : List UInt8) : Gives Try.prog 7 [.sl (a0.map encY), .sl (a1.map encY)] (.raw (.bool true)) := by
  refine fn_of_run tyOk ztOk mix Try.func7 rfl (by decide) Try.ntmps7 (fun w0 h => ?_)
  repeat' (first
      | (refine j_go ?_; first
        | refine j_op0 rfl rfl rfl rfl ?_ | refine j_off rfl rfl rfl ?_ | (refine j_kCall rfl rfl rfl rfl ?_; first | refine jc (c_f6big _) (LeL.refl _) rfl rfl ?_) | (refine j_kGuard rfl ?_; first | (refine (j_if rfl rfl rfl (fun hb => ?_) (fun hb => ?_)) <;> first | (exfalso; omega) | skip)))
      | refine j_nil ?_
      | (refine r_go ?_; first | refine run_seq ?_ | refine run_region ?_ | refine run_cond_t rfl ?_ | (refine (run_if rfl (fun hb => ?_) (fun hb => ?_)) <;> first | (exfalso; omega) | skip) | refine run_ret ?_ | refine run_skip ?_)
      | refine seqQ_normal ?_ | refine seqQ_ret ?_)
  · exact end1 rfl (List.Sublist.refl _) (rfl) (.inl rfl)
  · exact end1 rfl (List.Sublist.refl _) (rfl) (.inl rfl)
  refine j_kCall rfl rfl rfl rfl ?_
  refine jcp _ (o_P6Passing a0) (List.Perm.refl _) (LeL.refl _) rfl rfl (fun v h1 hR => ?_)
  obtain ⟨p, s, k1, k2, hv, hs, rfl, rfl⟩ := hR
  refine j_view (view_sub ((List.sublist_cons_self _ _).trans (List.sublist_cons_self _ _))) ?_
  repeat' (first
      | (refine j_go ?_; first
        | refine j_op0 rfl rfl rfl rfl ?_ | (refine j_kLoad rfl ?_; first | refine j_mload 1 rfl rfl rfl rfl rfl rfl rfl ?_) | (refine j_kStore rfl ?_; first | refine j_storeN 0 rfl rfl rfl rfl rfl rfl rfl rfl rfl rfl rfl ?_ | refine j_storeN 1 rfl rfl rfl rfl rfl rfl rfl rfl rfl rfl rfl ?_) | refine j_alloc rfl rfl rfl rfl rfl (fun _ => ?_))
      | refine j_nil ?_
      | (refine r_go ?_; first | refine run_seq ?_ | refine run_region ?_)
      | refine seqQ_normal ?_)
  refine j_view (view_freezeP 1 5 rfl rfl) ?_
  refine j_view (view_freezeP 0 6 rfl rfl) ?_
  refine j_kCall rfl rfl rfl rfl ?_
  refine jcp _ (o_P6Weights a1 p hv) (List.Perm.refl _) (LeL.refl _) rfl rfl (fun v h1 hR => ?_)
  obtain ⟨W, b, cap, hW, rfl, rfl⟩ := hR
  have hWk := hW.wok
  repeat' (first
      | (refine j_go ?_; first
        | refine j_op0 rfl rfl rfl rfl ?_)
      | refine j_nil ?_
      | (refine r_go ?_; first | refine run_seq ?_ | refine run_region ?_)
      | refine seqQ_normal ?_)
  refine j_view (view_freeze 0 7 (ys := W) (g := encS Go.AI.encI) (z := 1) rfl rfl (slA_flat W) (fun _ => rfl) rfl rfl) ?_
  refine j_kCall rfl rfl rfl rfl ?_
  refine jcp _ (o_P6Counts a1 p s hv.1 hs.1) (List.Perm.refl _) (LeL.refl _) rfl rfl (fun v h1 hR => ?_)
  obtain ⟨cs, b2, cap2, rfl, hcl, hc5, rfl⟩ := hR
  obtain ⟨hc, hcd⟩ := step_small hv hs hc5 hcl
  repeat' (first
      | (refine j_go ?_; first
        | refine j_op0 rfl rfl rfl rfl ?_)
      | refine j_nil ?_
      | (refine r_go ?_; first | refine run_seq ?_ | refine run_region ?_)
      | refine seqQ_normal ?_)
  refine j_view (view_freeze 0 8 (ys := cs) (g := Go.AI.encI) (z := 1) (by rw [hcl]; rfl) rfl rfl (fun _ => rfl) rfl rfl) ?_
  repeat' (first
      | (refine j_go ?_; first
        | refine j_op0 rfl rfl rfl rfl ?_ | refine j_off rfl rfl rfl ?_ | (refine j_kCall rfl rfl rfl rfl ?_; first | refine jc (c_iIsPassInvariant p W hv.1 hWk) (LeL.refl _) rfl rfl ?_ | refine jc (c_sIsPassInvariant p W hv.1 hv.2.2.2.2 hWk) (LeL.refl _) rfl rfl ?_ | refine jc (c_iPassInvariant p s W hv.1 hs.1 hWk) (LeL.refl _) rfl rfl ?_ | refine jc (c_sPassInvariant p s W hv.1 hs.1 hWk) (LeL.refl _) rfl rfl ?_) | (refine j_kGuard rfl ?_; first | (refine (j_ifn rfl rfl rfl (fun hb => ?_) (fun hb => ?_)) <;> first | (exfalso; omega) | skip)))
      | refine j_nil ?_
      | (refine r_go ?_; first | refine run_seq ?_ | refine run_region ?_ | refine run_cond_t rfl ?_ | (refine (run_ifn rfl (fun hb => ?_) (fun hb => ?_)) <;> first | (exfalso; omega) | skip) | refine run_ret ?_ | refine run_skip ?_)
      | refine seqQ_normal ?_ | refine seqQ_ret ?_)
  all_goals try exact absurd rfl hb
  have cF := c_PassStepF p s cs
  rcases hcd with ⟨e0, hN, hA, eR⟩ | ⟨e4, hN⟩
  · rw [e0, eR] at cF
    have eM := fun hi => md_after hv hs hWk hi hc
    have cP := c_iPassInvariant p (p.after s cs) W hv.1 hA hWk
    repeat' (first
      | (refine j_go ?_; first
        | refine j_op0 rfl rfl rfl rfl ?_ | refine j_off rfl rfl rfl ?_ | (refine j_kCall rfl rfl rfl rfl ?_; first | refine jc (cF) (LeL.refl _) rfl rfl ?_ | refine jc (cP) (LeL.refl _) rfl rfl ?_) | (refine j_kLoad rfl ?_; first | refine j_mload 0 rfl rfl rfl rfl rfl rfl rfl ?_) | (refine j_kStore rfl ?_; first | refine j_storeN 0 rfl rfl rfl rfl rfl rfl rfl rfl rfl rfl rfl ?_) | (refine j_kGuard rfl ?_; first | (refine (j_if rfl rfl rfl (fun hb => ?_) (fun hb => ?_)) <;> first | (exfalso; omega) | skip) | (refine (j_ifn rfl rfl rfl (fun hb => ?_) (fun hb => ?_)) <;> first | (exfalso; omega) | skip)) | refine j_alloc rfl rfl rfl rfl rfl (fun _ => ?_))
      | refine j_nil ?_
      | (refine r_go ?_; first | refine run_seq ?_ | refine run_region ?_ | (refine (run_ifn rfl (fun hb => ?_) (fun hb => ?_)) <;> first | (exfalso; omega) | skip) | refine run_ret ?_ | refine run_skip ?_)
      | refine seqQ_normal ?_ | refine seqQ_ret ?_)
    all_goals first | exact absurd rfl hb | exact end1 rfl (by repeat' first | exact List.Sublist.refl _ | refine List.Sublist.cons _ ?_) rfl (.inl rfl) | exact end1 rfl (by repeat' first | exact List.Sublist.refl _ | refine List.Sublist.cons _ ?_) (rbT (eM (by assumption))).symm (.inl rfl)
  · rw [e4] at cF
    repeat' (first
      | (refine j_go ?_; first
        | refine j_op0 rfl rfl rfl rfl ?_ | refine j_off rfl rfl rfl ?_ | (refine j_kCall rfl rfl rfl rfl ?_; first | refine jc (cF) (LeL.refl _) rfl rfl ?_) | (refine j_kStore rfl ?_; first | refine j_storeN 0 rfl rfl rfl rfl rfl rfl rfl rfl rfl rfl rfl ?_) | (refine j_kGuard rfl ?_; first | (refine (j_if rfl rfl rfl (fun hb => ?_) (fun hb => ?_)) <;> first | (exfalso; omega) | skip) | (refine (j_ifn rfl rfl rfl (fun hb => ?_) (fun hb => ?_)) <;> first | (exfalso; omega) | skip)) | refine j_alloc rfl rfl rfl rfl rfl (fun _ => ?_))
      | refine j_nil ?_
      | (refine r_go ?_; first | refine run_seq ?_ | refine run_region ?_ | refine run_cond_t rfl ?_ | refine run_ret ?_)
      | refine seqQ_normal ?_ | refine seqQ_ret ?_)
    all_goals first | exact absurd hb (by decide) | exact end1 rfl (by repeat' first | exact List.Sublist.refl _ | refine List.Sublist.cons _ ?_) (rbT rfl).symm (.inl rfl)
end Go.Proofs.Ytahjliejgjjfeaa

/-
  Bytes read as data, and the program's own laws of layout. No condition.
-/
namespace Go.Proofs.Ytahjliejgjjfeaa
open Go.AI Go.RowKit
theorem rd_u8 {H : Type} {enc : TypeId × Value → H} {P : Program} {W : World} {t : TypeId} (ht : P.underlying t = some (.int .u8)) : Rd enc P W t encY := fun fuel cs x h => by
  obtain ⟨n, rfl, _, hw⟩ := DataW.trod_int ht h
  have := hw
  simp [Lit.wf, IntKind.min, IntKind.max, IntKind.signed, IntKind.bits] at this
  have e : n = ((UInt8.ofNat n.toNat).toNat : Int) := by
    rw [UInt8.toNat_ofNat']
    omega
  refine ⟨UInt8.ofNat n.toNat, RelL.cons ?_ RelL.nil⟩
  have r : Rel (Im W []) W (.u8 (UInt8.ofNat n.toNat)) (.int .u8 ((UInt8.ofNat n.toNat).toNat : Int)) := .u8 _
  rw [← e] at r
  exact r
theorem own : ownKnob Try.prog.godebug = none := by kernel_rfl
theorem laidOut : laidOutB Try.prog = true := by kernel_rfl
end Go.Proofs.Ytahjliejgjjfeaa
