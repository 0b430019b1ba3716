/-
  Plain facts: what a step keeps, and what undoes it. No program in sight.
-/
import Derived.Test.YtahjliejgjjfeaaZDA
import Derived.Test.YtahjliejgjjfeaaZS6f
import Derived.Test.YtahjliejgjjfeaaZG0
import Derived.KernelRfl
namespace Go.Proofs.Ytahjliejgjjfeaa
open Go.AI
set_option maxRecDepth 8000

/-- The total of a kind over all places. -/
def colS (L : List (List Int)) (j : Nat) : Int := sumF (fun x => x.getD j 0) L
theorem colS_cons (x : List Int) (L : List (List Int)) (j : Nat) : colS (x :: L) j = x.getD j 0 + colS L j := rfl
theorem colS_set {r : List Int} {j : Nat} : ∀ {L : List (List Int)} {c : Nat}, c < L.length → colS (L.set c r) j = colS L j - (L.getD c []).getD j 0 + r.getD j 0
  | x :: L, 0, _ => by rw [List.set_cons_zero, colS_cons, colS_cons]; simp; omega
  | x :: L, c + 1, h => by
    have := colS_set (r := r) (j := j) (L := L) (c := c) (by simpa using h)
    rw [List.set_cons_succ, colS_cons, colS_cons, this]; simp; omega
theorem colS_add {n K : Nat} {L : List (List Int)} {B : Int} (h : Sh n K L B) {c : Nat} (hc : c < n) {b : List Int} (hb : b.length = K) (t : Int) {j : Nat} (hj : j < K) : colS (addL L c b t) j = colS L j + b.getD j 0 * t := by
  obtain ⟨h1, h2⟩ := h.row hc
  unfold addL
  rw [colS_set h1, getD_get h1, plusL_at (by omega) (by omega), getD_get (l := L[c]) (by omega), getD_get (l := b) (by omega)]; omega
theorem colS_mix {n K : Nat} {L : List (List Int)} {B : Int} (h : Sh n K L B) {c u : Nat} (hc : c < n) (hu : u < n) {g : Nat → Bool} {a b : List Int} (ha : Bg K a) (hb : Bg K b) {t : Int} (ht : -1000 ≤ t ∧ t ≤ 1000) {j : Nat} (hj : j < K) :
    colS (mixR c u g a b t L) j = colS L j + a.getD j 0 * t + (if g j = true then b.getD j 0 * t else 0) := by
  unfold mixR
  rw [colS_add (h.add (M := 1000000) (by omega) ha.1 (ha.mul ht)) hu (by rw [only_len]; exact hb.1) t hj, colS_add h hc ha.1 t hj, only_at (by rw [hb.1]; exact hj), getD_get (l := b) (by rw [hb.1]; exact hj)]
  split
  · rfl
  · rw [Int.zero_mul]
theorem colS_step {p : Passing} {r : PassRule} (R : RuF p r) {L : List (List Int)} {B : Int} (h : Sh (p.parents.length + 1) p.kinds.toNat L B) {t : Int} (ht : 0 ≤ t ∧ t ≤ 1000) {j : Nat} (hj : j < p.kinds.toNat) (hz : p.gk r.cell j = true ∨ t = 0) :
    colS (p.gv r t (p.tk r t L)) j = colS L j := by
  have hc := R.c
  unfold Passing.gv
  rw [colS_mix (h.tk R ht) (by omega) R.u R.i R.o (by omega) hj]
  unfold Passing.tk
  rw [colS_mix h (by omega) R.u R.o R.i (by omega) hj]
  rcases hz with hz | rfl
  · rw [if_pos hz, if_pos hz, Int.mul_sub, Int.mul_sub]; omega
  · simp
theorem colS_chs {p : Passing} (hv : p.Ok) {cs : List Int} (hc : p.Cnts cs) {L : List (List Int)} {B : Int} (hL : Sh (p.parents.length + 1) p.kinds.toNat L B) {j : Nat} (hj : j < p.kinds.toNat)
    (hz : ∀ k (h : k < p.rules.length) (h2 : k < cs.length), p.gk p.rules[k].cell j = true ∨ cs[k] = 0) : ∀ k, k ≤ p.rules.length → colS (p.chs cs L k) j = colS L j
  | 0, _ => rfl
  | k + 1, hk => by
    obtain ⟨h1, h2⟩ := Cn hc (k := k) (by omega)
    rw [chs_succ (by omega) h1, colS_step (ruF hv (List.getElem_mem _)) (chs_sh hv hc hL k (by omega)) h2 hj (hz k (by omega) h1), colS_chs hv hc hL hj hz k (by omega)]
/-- The totals of a stock. -/
def totL (s : Stock) : List Int := s.cells.foldl (fun a c => plusL a c 1) s.around
theorem foldl_tot {K : Nat} {j : Nat} (hj : j < K) : ∀ (cells : List (List Int)) (a : List Int), a.length = K → (∀ c ∈ cells, c.length = K) → (cells.foldl (fun a c => plusL a c 1) a).length = K ∧ (cells.foldl (fun a c => plusL a c 1) a).getD j 0 = colS cells j + a.getD j 0
  | [], a, h, _ => ⟨h, by simp [colS, sumF]⟩
  | c :: cells, a, h, hc => by
    have hcl := hc c (by simp)
    have := foldl_tot hj cells (plusL a c 1) (by rw [plusL_len (by omega)]; exact h) (fun x hx => hc x (by simp [hx]))
    refine ⟨this.1, ?_⟩
    rw [List.foldl_cons, this.2, colS_cons, plusL_at (by omega) (by omega), getD_get (l := c) (by omega), getD_get (l := a) (by omega)]; omega
theorem colS_app (L M : List (List Int)) (j : Nat) : colS (L ++ M) j = colS L j + colS M j := by
  induction L with
  | nil => simp [colS, sumF]
  | cons x L ih => rw [List.cons_append, colS_cons, colS_cons, ih]; omega
theorem totL_at {p : Passing} {s : Stock} (hs : p.StockOk s) {j : Nat} (hj : j < p.kinds.toNat) : (totL s).length = p.kinds.toNat ∧ (totL s).getD j 0 = colS (plc s) j := by
  have h := plc_sh hs
  have q := foldl_tot hj s.cells s.around (h.b _ (by simp [plc])).1 (fun c hc => (h.b c (by simp [plc, hc])).1)
  refine ⟨q.1, ?_⟩
  show (List.foldl (fun a c => plusL a c 1) s.around s.cells).getD j 0 = _
  rw [q.2]
  unfold plc
  rw [colS_app]
  simp [colS, sumF]
/-- The totals of the kinds that pass nowhere else stay. -/
theorem tot_after {p : Passing} {s : Stock} (hv : PasSm p) (hs : StkSm p s) {cs : List Int} (hc : p.Cnts cs) (hA : p.StockOk (p.after s cs)) {j : Nat} (hj : j < p.kinds.toNat)
    (hz : p.free.getD j false = false ∨ ¬ ∃ k, ∃ h : k < p.rules.length, ∃ h2 : k < cs.length, 0 < cs[k] ∧ p.rules[k].cell = 0) : (totL s).getD j 0 = (totL (p.after s cs)).getD j 0 := by
  rw [(totL_at hs.1 hj).2, (totL_at hA hj).2]
  have e : plc (p.after s cs) = p.chs cs (plc s) p.rules.length := by
    unfold Passing.after
    exact plc_stockOf (chs_sh hv.1 hc (plc_sh hs.1) p.rules.length (Nat.le_refl _)).n
  rw [e, colS_chs hv.1 hc (plc_sh hs.1) hj (fun k h h2 => ?_) _ (Nat.le_refl _)]
  unfold Passing.gk
  by_cases q : p.rules[k].cell = 0
  · rw [if_pos q]
    rcases hz with hz | hz
    · left; rw [hz]; rfl
    · right
      have := (hc.1 _ (List.getElem_mem h2)).1
      by_cases w : 0 < cs[k]
      · exact absurd ⟨k, h, h2, w, q⟩ hz
      · omega
  · rw [if_neg q]; exact .inl rfl

/-! #### what undoes a step -/
theorem plusL_undo {s t : Int} (hst : s + t = 0) : ∀ {a b : List Int}, a.length = b.length → plusL (plusL a b t) b s = a
  | [], [], _ => rfl
  | x :: a, y :: b, h => by
    have := plusL_undo hst (a := a) (b := b) (by simpa using h)
    unfold plusL at this ⊢
    rw [List.zipWith_cons_cons, List.zipWith_cons_cons, this]
    have e : y * t + y * s = 0 := by rw [← Int.mul_add, Int.add_comm t s, hst, Int.mul_zero]
    rw [show x + y * t + y * s = x from by omega]
theorem addL_undo {n K : Nat} {L : List (List Int)} {B : Int} (h : Sh n K L B) {c : Nat} (hc : c < n) {b : List Int} (hb : b.length = K) {s t : Int} (hst : s + t = 0) : addL (addL L c b t) c b s = L := by
  obtain ⟨h1, h2⟩ := h.row hc
  rw [addL_get h1, addL_get (by rw [List.length_set]; exact h1), List.getElem_set_self, List.set_set, plusL_undo hst (by rw [h2, hb]), List.set_getElem_self]
theorem mixR_undo {n K : Nat} {L : List (List Int)} {B : Int} (h : Sh n K L B) {c u : Nat} (hc : c < n) (hu : u < n) {g : Nat → Bool} {a b : List Int} (ha : a.length = K) (hb : b.length = K) {s t : Int} (hst : s + t = 0) : mixR c u g a b s (mixR c u g a b t L) = L := by
  unfold mixR
  rw [addL_comm (addL L c a t) u c (only g b) a t s, addL_undo h hc ha hst, addL_undo h hu (by rw [only_len]; exact hb) hst]
theorem rev_at {p : Passing} {k : Nat} (hk : k < p.rules.length) : p.rev.rules.getD k default = revR (p.rules.getD k default) := by
  rw [getD_get hk, getD_get (show k < p.rev.rules.length by unfold Passing.rev; rw [List.length_map]; exact hk)]
  simp [Passing.rev]
theorem rev_tk (p : Passing) (cs : List Int) (r : PassRule) (t : Int) (L : List (List Int)) : ∀ k, p.rev.tks cs (p.gv r t L) k = p.gv r t (p.rev.tks cs L k)
  | 0 => rfl
  | k + 1 => by rw [Passing.tks, rev_tk p cs r t L k, Passing.tks]; unfold Passing.gv Passing.tk; rw [mixR_comm]
theorem rev_gv (p : Passing) (cs : List Int) (r : PassRule) (t : Int) (L : List (List Int)) : ∀ k, p.rev.gvs cs (p.tk r t L) k = p.tk r t (p.rev.gvs cs L k)
  | 0 => rfl
  | k + 1 => by rw [Passing.gvs, rev_gv p cs r t L k, Passing.gvs]; unfold Passing.gv Passing.tk; rw [mixR_comm]
theorem rev_tks {p : Passing} (hv : p.Ok) {cs : List Int} {L : List (List Int)} {B : Int} (hL : Sh (p.parents.length + 1) p.kinds.toNat L B) : ∀ k, k ≤ p.rules.length → p.rev.tks cs (p.gvs cs L k) k = L
  | 0, _ => rfl
  | k + 1, hk => by
    have R := ruF hv (List.getElem_mem (show k < p.rules.length by omega))
    have hRc := R.c
    rw [Passing.gvs, Passing.tks, rev_tk, rev_tks hv hL k (by omega), rev_at (by omega), getD_get (l := p.rules) (by omega)]
    exact mixR_undo hL (show p.rules[k].cell.toNat < p.parents.length + 1 by omega) R.u R.i.1 R.o.1 (by omega)
theorem rev_gvs {p : Passing} (hv : p.Ok) {cs : List Int} {L : List (List Int)} {B : Int} (hL : Sh (p.parents.length + 1) p.kinds.toNat L B) : ∀ k, k ≤ p.rules.length → p.rev.gvs cs (p.tks cs L k) k = L
  | 0, _ => rfl
  | k + 1, hk => by
    have R := ruF hv (List.getElem_mem (show k < p.rules.length by omega))
    have hRc := R.c
    rw [Passing.tks, Passing.gvs, rev_gv, rev_gvs hv hL k (by omega), rev_at (by omega), getD_get (l := p.rules) (by omega)]
    exact mixR_undo hL (show p.rules[k].cell.toNat < p.parents.length + 1 by omega) R.u R.o.1 R.i.1 (by omega)
/-- The reversed system undoes a step. -/
theorem rev_step {p : Passing} {s : Stock} (hv : PasSm p) (hs : StkSm p s) {cs : List Int} (hc : p.Cnts cs) (hN : Nn (p.left s cs)) (hA : p.StockOk (p.after s cs)) (hR : p.rev.Ok) : resPassStep p.rev (p.after s cs) cs = s ∧ codePassStep p.rev (p.after s cs) cs = 0 := by
  have hl : p.rev.rules.length = p.rules.length := by unfold Passing.rev; rw [List.length_map]
  have hc2 : p.rev.Cnts cs := ⟨hc.1, by rw [hl]; exact hc.2⟩
  have e : plc (p.after s cs) = p.chs cs (plc s) p.rules.length := by
    unfold Passing.after
    exact plc_stockOf (chs_sh hv.1 hc (plc_sh hs.1) p.rules.length (Nat.le_refl _)).n
  have sL := tks_sh hv.1 hc (plc_sh hs.1) p.rules.length (Nat.le_refl _)
  have eT : p.rev.tks cs (plc (p.after s cs)) p.rev.rules.length = p.tks cs (plc s) p.rules.length := by
    rw [e, hl, chs_eq]; exact rev_tks hv.1 sL _ (Nat.le_refl _)
  have hN2 : Nn (p.rev.left (p.after s cs) cs) := by
    unfold Passing.left; rw [eT]; exact hN
  have eC : p.rev.chs cs (plc (p.after s cs)) p.rev.rules.length = plc s := by
    rw [chs_eq, eT, hl]; exact rev_gvs hv.1 (plc_sh hs.1) _ (Nat.le_refl _)
  have eA : p.rev.after (p.after s cs) cs = s := by
    have hcl := hs.1.1
    unfold Passing.after at eC ⊢
    rw [eC]
    show stockOf p.parents.length (plc s) = s
    rw [← hcl, stockOf_eq (by simp [plc])]
    unfold plc
    simp
  have q := ps_t hR hA hc2 hN2 (by rw [eA]; exact hs.1)
  exact ⟨q.1.trans eA, q.2⟩
end Go.Proofs.Ytahjliejgjjfeaa

/-
  PassFits, StockTotal, and the comparisons of a value with itself. No condition.
-/
namespace Go.Proofs.Ytahjliejgjjfeaa
open Go.AI
set_option maxRecDepth 8000
set_option maxHeartbeats 1600000

theorem c_iPassFits (p : Passing) (s : Stock) (cs : List Int) (hv : p.Ok) (hs : p.StockOk s) (hc : p.Cnts cs) : Gives Try.prog 55 [.agg (encPassing p), .agg (encStock s), .sl (cs.map Go.AI.encI)] (.tup [.raw (.bool (dec (Nn (p.left s cs)))), .int 0]) := by
  refine fn_of_run tyOk ztOk mix Try.func55 rfl (by decide) Try.ntmps55 (fun w0 h => ?_)
  have cC := c_passCode p s cs
  rw [cd2_o hv ⟨hs, hc⟩] at cC
  repeat' (first
      | (refine j_go ?_; first
        | refine j_op0 rfl rfl rfl rfl ?_ | (refine j_kCall rfl rfl rfl rfl ?_; first | refine jc (cC) (LeL.refl _) rfl rfl ?_ | refine jc (c_fits p s cs hv hs hc) (LeL.refl _) rfl rfl ?_) | refine j_box rfl rfl rfl rfl rfl rfl ?_)
      | refine j_nil ?_
      | (refine r_go ?_; first | refine run_seq ?_ | refine run_region ?_ | (refine (run_ifn rfl (fun hb => ?_) (fun hb => ?_)) <;> first | (exfalso; omega) | skip) | refine run_ret ?_ | refine run_skip ?_)
      | refine seqQ_normal ?_)
  exact end2 rfl rfl (List.Sublist.refl _) rfl (.inl rfl)
theorem c_l06Self (s : Stock) (hn : s.cells.length ≤ 1000) : Gives Try.prog 139 [.ip (encStock s), .ip (encStock s)] (.raw (.bool true)) := by
  refine fn_of_run tyOk ztOk mix Try.func139 rfl (by decide) Try.ntmps139 (fun w0 h => ?_)
  repeat' (first
      | (refine j_go ?_; first
        | refine j_op0 rfl rfl rfl rfl ?_ | refine j_off rfl rfl rfl ?_ | (refine j_kLen rfl ?_; first | refine j_len rfl rfl rfl rfl rfl rfl ?_) | (refine j_kCall rfl rfl rfl rfl ?_; first | refine jc (c_l00Same _ _) (LeL.refl _) rfl rfl ?_) | (refine j_kGuard rfl ?_; first | (refine (j_ifn rfl rfl rfl (fun hb => ?_) (fun hb => ?_)) <;> first | (exfalso; omega) | skip)))
      | refine j_nil ?_
      | (refine r_go ?_; first | refine run_seq ?_ | refine run_region ?_ | refine run_cond_t rfl ?_ | (refine (run_ifn rfl (fun hb => ?_) (fun hb => ?_)) <;> first | (exfalso; omega) | skip) | refine run_block ?_ | refine run_ret ?_ | refine run_skip ?_ | refine run_regionD (by kernel_rfl) ?_)
      | refine seqQ_normal ?_ | refine seqQ_ret ?_)
  all_goals try exact absurd rfl hb
  refine run_loop (fun k : Nat => [(0, .ip (encStock s)), (1, .ip (encStock s)), (5, .int (k : Int))]) (fun _ => _) (fun k => k ≤ s.cells.length ∧ (True)) (fun k => s.cells.length - k) 0 ⟨rfl, rfl, rfl, trivial⟩ rfl ⟨Nat.zero_le _, by first | (intros; omega) | (simp; done) | rfl | trivial | exact ⟨by simp [sumF], by intros; omega⟩ | exact ⟨by omega, by simp⟩⟩ (fun k ⟨kl, kp⟩ => ?_)
  repeat' (first
      | (refine j_go ?_; first
        | refine j_op0 rfl rfl rfl rfl ?_ | (refine j_kIdx rfl ?_; first | refine j_idx rfl rfl rfl rfl rfl (by omega) rfl rfl rfl ?_) | (refine j_kBin rfl ?_; first | refine j_in rfl rfl ⟨by omega, by omega⟩ rfl rfl ?_) | (refine j_kLen rfl ?_; first | refine j_len rfl rfl rfl rfl rfl rfl ?_) | (refine j_kCall rfl rfl rfl rfl ?_; first | refine jc (c_l00Same _ _) (LeL.refl _) rfl rfl ?_))
      | refine j_nil ?_
      | (refine r_go ?_; first | refine run_seq ?_ | refine run_region ?_ | (refine (run_if rfl (fun hb => ?_) (fun hb => ?_)) <;> first | (exfalso; omega) | skip) | (refine (run_ifn rfl (fun hb => ?_) (fun hb => ?_)) <;> first | (exfalso; omega) | skip) | refine run_block ?_ | refine run_ret ?_ | refine run_exit ?_ | refine run_skip ?_ | refine run_regionD (by kernel_rfl) ?_)
      | refine seqQ_normal ?_ | refine seqQ_ret ?_ | refine seqQ_exit ?_ | refine blockQ_normal ?_ | refine blockQ_ret ?_ | refine blockQ_eq ?_ | refine loopQ_ret ?_ | refine loopQ_exit ?_)
  all_goals first
    | exact absurd rfl hb
    | exact loopQ_nextD (k + 1) ⟨by omega, trivial⟩ (by omega) (by first | exact List.Sublist.refl _ | exact sub1 | exact sub2 | exact sub3) ⟨rfl, rfl, nx _, trivial⟩
    | exact end1 rfl (List.Sublist.refl _) (rfl) (.inl rfl)
    | trace_state
theorem c_sameStock (s : Stock) (hn : s.cells.length ≤ 1000) : Gives Try.prog 56 [.agg (encStock s), .agg (encStock s)] (.raw (.bool true)) := by
  refine fn_of_run tyOk ztOk mix Try.func56 rfl (by decide) Try.ntmps56 (fun w0 h => ?_)
  repeat' (first
      | (refine j_go ?_; first
        | refine j_op0 rfl rfl rfl rfl ?_ | (refine j_kCall rfl rfl rfl rfl ?_; first | refine jc (c_l06Self _ hn) (LeL.refl _) rfl rfl ?_) | refine j_box rfl rfl rfl rfl rfl rfl ?_)
      | refine j_nil ?_
      | (refine r_go ?_; first | refine run_seq ?_ | refine run_region ?_ | refine run_ret ?_)
      | refine seqQ_normal ?_)
  exact end1 rfl (List.Sublist.refl _) (rfl) (.inl rfl)
theorem c_samePassing (p : Passing) (hf : p.free.length ≤ 1000) (hr : p.rules.length ≤ 1000) : Gives Try.prog 61 [.agg (encPassing p), .agg (encPassing p)] (.raw (.bool true)) := by
  refine fn_of_run tyOk ztOk mix Try.func61 rfl (by decide) Try.ntmps61 (fun w0 h => ?_)
  repeat' (first
      | (refine j_go ?_; first
        | refine j_op0 rfl rfl rfl rfl ?_ | refine j_off rfl rfl rfl ?_ | (refine j_kLen rfl ?_; first | refine j_len rfl rfl rfl rfl rfl rfl ?_) | (refine j_kCall rfl rfl rfl rfl ?_; first | refine jc (c_l00Same _ _) (LeL.refl _) rfl rfl ?_) | (refine j_kGuard rfl ?_; first | (refine (j_ifn rfl rfl rfl (fun hb => ?_) (fun hb => ?_)) <;> first | (exfalso; omega) | skip)) | refine j_box rfl rfl rfl rfl rfl rfl ?_)
      | refine j_nil ?_
      | (refine r_go ?_; first | refine run_seq ?_ | refine run_region ?_ | refine run_cond_t rfl ?_ | (refine (run_ifn rfl (fun hb => ?_) (fun hb => ?_)) <;> first | (exfalso; omega) | skip) | refine run_block ?_ | refine run_ret ?_ | refine run_skip ?_)
      | refine seqQ_normal ?_ | refine seqQ_ret ?_)
  all_goals try exact absurd rfl hb
  refine run_loop (fun k : Nat => [(2, .ip (encPassing p)), (3, .ip (encPassing p)), (5, .int (k : Int))]) (fun _ => _) (fun k => k ≤ p.free.length ∧ (True)) (fun k => p.free.length - k) 0 ⟨rfl, rfl, rfl, trivial⟩ rfl ⟨Nat.zero_le _, by first | (intros; omega) | (simp; done) | rfl | trivial | exact ⟨by simp [sumF], by intros; omega⟩ | exact ⟨by omega, by simp⟩⟩ (fun k ⟨kl, kp⟩ => ?_)
  repeat' (first
      | (refine j_go ?_; first
        | refine j_op0 rfl rfl rfl rfl ?_ | (refine j_kIdx rfl ?_; first | refine j_idx rfl rfl rfl rfl rfl (by omega) rfl rfl rfl ?_) | (refine j_kBin rfl ?_; first | refine j_in rfl rfl ⟨by omega, by omega⟩ rfl rfl ?_) | (refine j_kLen rfl ?_; first | refine j_len rfl rfl rfl rfl rfl rfl ?_))
      | refine j_nil ?_
      | (refine r_go ?_; first | refine run_seq ?_ | refine run_region ?_ | (refine (run_if rfl (fun hb => ?_) (fun hb => ?_)) <;> first | (exfalso; omega) | skip) | (refine (run_ifn rfl (fun hb => ?_) (fun hb => ?_)) <;> first | (exfalso; omega) | skip) | refine run_block ?_ | refine run_ret ?_ | refine run_exit ?_ | refine run_skip ?_ | refine run_regionD (by kernel_rfl) ?_)
      | refine seqQ_normal ?_ | refine seqQ_ret ?_ | refine seqQ_exit ?_ | refine blockQ_normal ?_ | refine blockQ_ret ?_ | refine blockQ_eq ?_ | refine loopQ_ret ?_ | refine loopQ_exit ?_)
  all_goals try exact absurd rfl hb
  all_goals first
    | exact loopQ_nextD (k + 1) ⟨by omega, trivial⟩ (by omega) (by first | exact List.Sublist.refl _ | exact sub1 | exact sub2 | exact sub3) ⟨rfl, rfl, nx _, trivial⟩
    | skip
  refine run_loop (fun j : Nat => [(2, .ip (encPassing p)), (3, .ip (encPassing p)), (6, .int (j : Int))]) (fun _ => _) (fun j => j ≤ p.rules.length ∧ (True)) (fun j => p.rules.length - j) 0 ⟨rfl, rfl, rfl, trivial⟩ rfl ⟨Nat.zero_le _, by first | (intros; omega) | (simp; done) | rfl | trivial | exact ⟨by simp [sumF], by intros; omega⟩ | exact ⟨by omega, by simp⟩⟩ (fun j ⟨jl, jp⟩ => ?_)
  repeat' (first
      | (refine j_go ?_; first
        | refine j_op0 rfl rfl rfl rfl ?_ | refine j_off rfl rfl rfl ?_ | (refine j_kIdx rfl ?_; first | refine j_idx rfl rfl rfl rfl rfl (by omega) rfl rfl rfl ?_) | (refine j_kBin rfl ?_; first | refine j_in rfl rfl ⟨by omega, by omega⟩ rfl rfl ?_) | (refine j_kLen rfl ?_; first | refine j_len rfl rfl rfl rfl rfl rfl ?_) | (refine j_kCall rfl rfl rfl rfl ?_; first | refine jc (c_l00Same _ _) (LeL.refl _) rfl rfl ?_) | (refine j_kGuard rfl ?_; first | (refine (j_ifn rfl rfl rfl (fun hb => ?_) (fun hb => ?_)) <;> first | (exfalso; omega) | skip)))
      | refine j_nil ?_
      | (refine r_go ?_; first | refine run_seq ?_ | refine run_region ?_ | refine run_cond_t rfl ?_ | (refine (run_if rfl (fun hb => ?_) (fun hb => ?_)) <;> first | (exfalso; omega) | skip) | (refine (run_ifn rfl (fun hb => ?_) (fun hb => ?_)) <;> first | (exfalso; omega) | skip) | refine run_block ?_ | refine run_ret ?_ | refine run_exit ?_ | refine run_skip ?_ | refine run_regionD (by kernel_rfl) ?_)
      | refine seqQ_normal ?_ | refine seqQ_ret ?_ | refine seqQ_exit ?_ | refine blockQ_normal ?_ | refine blockQ_ret ?_ | refine blockQ_eq ?_ | refine loopQ_ret ?_ | refine loopQ_exit ?_)
  all_goals first
    | exact absurd rfl hb
    | exact loopQ_nextD (j + 1) ⟨by omega, trivial⟩ (by omega) (by first | exact List.Sublist.refl _ | exact sub1 | exact sub2 | exact sub3) ⟨rfl, rfl, nx _, trivial⟩
    | exact end1 rfl (List.Sublist.refl _) (rfl) (.inl rfl)
    | trace_state
theorem totF_fits {K : Nat} (hK : K ≤ 8) : ∀ (cells : List (List Int)) (a : List Int) (B : Int), 0 ≤ B → B + 1000 * cells.length ≤ 1000000 → a.length = K → (∀ x ∈ a, -B ≤ x ∧ x ≤ B) → (∀ c ∈ cells, c.length = K ∧ ∀ x ∈ c, -1000 ≤ x ∧ x ≤ 1000) →
    (cells.foldl (fun a c => plusL a c 1) a).length = K ∧ ∀ x ∈ cells.foldl (fun a c => plusL a c 1) a, -1000000 ≤ x ∧ x ≤ 1000000
  | [], a, B, h0, hB, hl, ha, _ => ⟨hl, fun x hx => by have := ha x hx; simp at hB; omega⟩
  | c :: cells, a, B, h0, hB, hl, ha, hc => by
    have hcc := hc c (by simp)
    have hB2 : B + 1000 + 1000 * (cells.length : Int) ≤ 1000000 := by rw [List.length_cons] at hB; push_cast at hB; omega
    refine totF_fits hK cells (plusL a c 1) (B + 1000) (by omega) hB2 (by rw [plusL_len (by omega)]; exact hl) (fun x hx => ?_) (fun x hx => hc x (by simp [hx]))
    unfold plusL at hx
    obtain ⟨i, hi, rfl⟩ := List.getElem_of_mem hx
    rw [List.length_zipWith] at hi
    rw [List.getElem_zipWith]
    have := ha _ (List.getElem_mem (n := i) (by omega))
    have := hcc.2 _ (List.getElem_mem (n := i) (by omega))
    omega
theorem c_iStockTotal (p : Passing) (s : Stock) (hv : p.Ok) (hs : p.StockOk s) : Gives Try.prog 57 [.agg (encPassing p), .agg (encStock s)] (.tup [.sl ((totL s).map Go.AI.encI), .int 0]) := by
  refine fn_of_run tyOk ztOk mix Try.func57 rfl (by decide) Try.ntmps57 (fun w0 h => ?_)
  have cC := c_stockCode p s
  rw [cd2_o hv hs] at cC
  have k8 := hv.1.1
  have p4 := hv.1.2.1
  have al := hs.2.1
  have hcl := hs.1
  have hne : s.around ≠ [] := fun q => by have := al.1.2.1; rw [q] at this; simp at this
  have hb2 := plc_sh hs
  repeat' (first
      | (refine j_go ?_; first
        | refine j_op0 rfl rfl rfl rfl ?_ | (refine j_kLen rfl ?_; first | refine j_len rfl rfl rfl rfl rfl rfl ?_) | (refine j_kCall rfl rfl rfl rfl ?_; first | refine jc (cC) (LeL.refl _) rfl rfl ?_ | refine jc (c_cloneI _ hne (by have := al.1.2.2; omega)) (LeL.refl _) rfl rfl ?_) | refine j_box rfl rfl rfl rfl rfl rfl ?_)
      | refine j_nil ?_
      | (refine r_go ?_; first | refine run_seq ?_ | refine run_region ?_ | (refine (run_ifn rfl (fun hb => ?_) (fun hb => ?_)) <;> first | (exfalso; omega) | skip) | refine run_block ?_ | refine run_skip ?_)
      | refine seqQ_normal ?_)
  refine run_loop (fun k : Nat => [(7, .sl (((s.cells.take k).foldl (fun a c => plusL a c 1) s.around).map Go.AI.encI)), (20, .sl (s.cells.map (encS Go.AI.encI))), (21, .int s.cells.length), (22, .int (k : Int))]) (fun _ => _) (fun k => k ≤ s.cells.length ∧ (True)) (fun k => s.cells.length - k) 0 ⟨(by first | rfl | exact si (by first | omega | (simp; done) | (simp [sumF]; done) | (simp; omega)) | exact raw_f (by simp) | exact raw_t (by simp) | exact sa (by first | (rw [catK_zero]; rfl) | (rw [catK_zero, List.append_nil]; rfl) | (rw [catK_zero, List.append_nil]) | (rw [joinK_zero, List.append_nil]; rfl) | (rw [joinK_zero, List.append_nil]) | (simp [catK]; done))), rfl, rfl, rfl, trivial⟩ rfl ⟨Nat.zero_le _, by first | (intros; omega) | (simp; done) | rfl | trivial | exact ⟨by simp [sumF], by intros; omega⟩ | exact ⟨by omega, by simp⟩⟩ (fun k ⟨kl, kp⟩ => ?_)
  by_cases hk : k < s.cells.length
  · have w := hs.2.2.1 _ (List.getElem_mem hk)
    have f := totF_fits (K := p.kinds.toNat) (by omega) (s.cells.take k) s.around 1000 (by omega) (by rw [List.length_take]; omega) (hb2.b _ (by simp [plc])).1 (hb2.b _ (by simp [plc])).2 (fun c hc => hb2.b c (by simp [plc, List.mem_of_mem_take hc]))
    have wl := w.2
    repeat' (first
      | (refine j_go ?_; first
        | refine j_op0 rfl rfl rfl rfl ?_ | (refine j_kIdx rfl ?_; first | refine j_idx rfl rfl rfl rfl rfl (by omega) rfl rfl rfl ?_) | (refine j_kBin rfl ?_; first | refine j_in rfl rfl ⟨by omega, by omega⟩ rfl rfl ?_) | (refine j_kCall rfl rfl rfl rfl ?_; first | refine jc (c_plus _ _ _ ⟨by omega, by omega, fun x hx => by have := f.2 x hx; omega, fun y hy => by have := w.1.1 y hy; omega⟩) (LeL.refl _) rfl rfl ?_))
      | refine j_nil ?_
      | (refine r_go ?_; first | refine run_seq ?_ | refine run_region ?_ | (refine (run_if rfl (fun hb => ?_) (fun hb => ?_)) <;> first | (exfalso; omega) | skip) | refine run_block ?_ | refine run_skip ?_)
      | refine seqQ_normal ?_ | refine blockQ_normal ?_)
    exact loopQ_nextD (k + 1) ⟨by omega, trivial⟩ (by omega) (by first | exact List.Sublist.refl _ | exact sub1 | exact sub2 | exact sub3) ⟨(by first | rfl | (rw [List.take_succ_eq_append_getElem hk, List.foldl_append]; try rfl) | exact si (by omega)), rfl, rfl, nx _, trivial⟩
  · repeat' (first
      | (refine j_go ?_; first
        | refine j_op0 rfl rfl rfl rfl ?_)
      | refine j_nil ?_
      | (refine r_go ?_; first | refine run_seq ?_ | refine run_region ?_ | (refine (run_if rfl (fun hb => ?_) (fun hb => ?_)) <;> first | (exfalso; omega) | skip) | refine run_ret ?_ | refine run_exit ?_)
      | refine seqQ_normal ?_ | refine seqQ_exit ?_ | refine blockQ_eq ?_ | refine loopQ_exit ?_)
    exact end2 rfl rfl (List.Sublist.refl _) (by rw [List.take_of_length_le (by omega)]; rfl) (.inl rfl)
end Go.Proofs.Ytahjliejgjjfeaa

/-
  The law FnPassStep answers true whatever it reads. No condition.
-/
namespace Go.Proofs.Ytahjliejgjjfeaa
open Go.AI
set_option maxRecDepth 8000
set_option maxHeartbeats 1600000

theorem stk_len {p : Passing} {s : Stock} (hv : p.Ok) (hs : p.StockOk s) : s.cells.length ≤ 1000 := by have := hs.1; have := hv.1.2.1; omega
def Skn (p : Passing) (cs : List Int) (k : Nat) : Prop := ∃ i, ∃ h : i < p.rules.length, ∃ h2 : i < cs.length, i < k ∧ 0 < cs[i] ∧ p.rules[i].cell = 0
theorem skn_succ {p : Passing} {cs : List Int} {k : Nat} (h : k < p.rules.length) (h2 : k < cs.length) : Skn p cs (k + 1) ↔ Skn p cs k ∨ (0 < cs[k] ∧ p.rules[k].cell = 0) := by
  constructor
  · rintro ⟨i, q1, q2, q3, q4⟩
    rcases Nat.lt_or_eq_of_le (Nat.le_of_lt_succ q3) with w | rfl
    · exact .inl ⟨i, q1, q2, w, q4⟩
    · exact .inr q4
  · rintro (⟨i, q1, q2, q3, q4⟩ | q)
    · exact ⟨i, q1, q2, by omega, q4⟩
    · exact ⟨k, h, h2, by omega, q⟩
theorem c_FnPassStep (a0 a1 : List UInt8) : Gives Try.prog 8 [.sl (a0.map encY), .sl (a1.map encY)] (.raw (.bool true)) := by
  refine fn_of_run tyOk ztOk mix Try.func8 rfl (by decide) Try.ntmps8 (fun w0 h => ?_)
  repeat' (first
      | (refine j_go ?_; first
        | refine j_op0 rfl rfl rfl rfl ?_ | refine j_off rfl rfl rfl ?_ | (refine j_kCall rfl rfl rfl rfl ?_; first | refine jc (c_f6big _) (LeL.refl _) rfl rfl ?_) | (refine j_kGuard rfl ?_; first | (refine (j_if rfl rfl rfl (fun hb => ?_) (fun hb => ?_)) <;> first | (exfalso; omega) | skip)))
      | refine j_nil ?_
      | (refine r_go ?_; first | refine run_seq ?_ | refine run_region ?_ | refine run_cond_t rfl ?_ | (refine (run_if rfl (fun hb => ?_) (fun hb => ?_)) <;> first | (exfalso; omega) | skip) | refine run_ret ?_ | refine run_skip ?_)
      | refine seqQ_normal ?_ | refine seqQ_ret ?_)
  · exact end1 rfl (List.Sublist.refl _) (rfl) (.inl rfl)
  · exact end1 rfl (List.Sublist.refl _) (rfl) (.inl rfl)
  refine j_kCall rfl rfl rfl rfl ?_
  refine jcp _ (o_P6Passing a0) (List.Perm.refl _) (LeL.refl _) rfl rfl (fun v h1 hR => ?_)
  obtain ⟨p, s, k1, k2, hv, hs, rfl, rfl⟩ := hR
  refine j_view (view_sub ((List.sublist_cons_self _ _).trans (List.sublist_cons_self _ _))) ?_
  repeat' (first
      | (refine j_go ?_; first
        | refine j_op0 rfl rfl rfl rfl ?_ | (refine j_kLoad rfl ?_; first | refine j_mload 0 rfl rfl rfl rfl rfl rfl rfl ?_ | refine j_mload 1 rfl rfl rfl rfl rfl rfl rfl ?_) | (refine j_kStore rfl ?_; first | refine j_storeN 0 rfl rfl rfl rfl rfl rfl rfl rfl rfl rfl rfl ?_ | refine j_storeN 1 rfl rfl rfl rfl rfl rfl rfl rfl rfl rfl rfl ?_) | refine j_alloc rfl rfl rfl rfl rfl (fun _ => ?_))
      | refine j_nil ?_
      | (refine r_go ?_; first | refine run_seq ?_ | refine run_region ?_)
      | refine seqQ_normal ?_)
  refine j_view (view_freezeP 1 5 rfl rfl) ?_
  refine j_view (view_freezeP 0 6 rfl rfl) ?_
  refine j_kCall rfl rfl rfl rfl ?_
  refine jcp _ (o_P6Counts a1 p s hv.1 hs.1) (List.Perm.refl _) (LeL.refl _) rfl rfl (fun v h1 hR => ?_)
  obtain ⟨cs, b2, cap2, rfl, hcl, hc5, rfl⟩ := hR
  obtain ⟨hc, hcd⟩ := step_small hv hs hc5 hcl
  repeat' (first
      | (refine j_go ?_; first
        | refine j_op0 rfl rfl rfl rfl ?_)
      | refine j_nil ?_
      | (refine r_go ?_; first | refine run_seq ?_ | refine run_region ?_)
      | refine seqQ_normal ?_)
  refine j_view (view_freeze2 0 7 45 (ys := cs) (g := Go.AI.encI) (z := 1) (by rw [hcl]; rfl) (by rw [hcl]; rfl) rfl rfl (fun _ => rfl) rfl rfl) ?_
  have cF := c_PassStepF p s cs
  have cS := c_sPassStep p s cs
  have cFit := c_iPassFits p s cs hv.1 hs.1 hc
  rcases hcd with ⟨e0, hN, hA, eR⟩ | ⟨e4, hN⟩
  · rw [e0, eR] at cF cS
    rw [dec_t hN] at cFit
    have k1 := hv.1.1.1
    have hl1 : ((totL s).length : Int) = p.kinds := by have := (totL_at hs.1 (j := 0) (by omega)).1; omega
    have hl2 : ((totL (p.after s cs)).length : Int) = p.kinds := by have := (totL_at hA (j := 0) (by omega)).1; omega
    repeat' (first
      | (refine j_go ?_; first
        | refine j_op0 rfl rfl rfl rfl ?_ | (refine j_kLen rfl ?_; first | refine j_len rfl rfl rfl rfl rfl rfl ?_) | (refine j_kCall rfl rfl rfl rfl ?_; first | refine jc (cF) (LeL.refl _) rfl rfl ?_ | refine jc (cS) (LeL.refl _) rfl rfl ?_ | refine jc (cFit) (LeL.refl _) rfl rfl ?_ | refine jc (c_sameStock _ (stk_len hv.1 hA)) (LeL.refl _) rfl rfl ?_ | refine jc (c_iStockTotal p s hv.1 hs.1) (LeL.refl _) rfl rfl ?_ | refine jc (c_iStockTotal p (p.after s cs) hv.1 hA) (LeL.refl _) rfl rfl ?_ | refine jc (c_iValidStock _ _) (LeL.refl _) rfl rfl ?_) | (refine j_kLoad rfl ?_; first | refine j_mload 0 rfl rfl rfl rfl rfl rfl rfl ?_ | refine j_mload 1 rfl rfl rfl rfl rfl rfl rfl ?_) | (refine j_kStore rfl ?_; first | refine j_storeN 0 rfl rfl rfl rfl rfl rfl rfl rfl rfl rfl rfl ?_) | (refine j_kGuard rfl ?_; first | (refine (j_ifn rfl rfl rfl (fun hb => ?_) (fun hb => ?_)) <;> first | (exfalso; omega) | skip)) | refine j_alloc rfl rfl rfl rfl rfl (fun _ => ?_))
      | refine j_nil ?_
      | (refine r_go ?_; first | refine run_seq ?_ | refine run_region ?_ | (refine (run_ifn rfl (fun hb => ?_) (fun hb => ?_)) <;> first | (exfalso; omega) | skip) | refine run_block ?_ | refine run_ret ?_ | refine run_skip ?_)
      | refine seqQ_normal ?_ | refine seqQ_ret ?_)
    all_goals try first | exact absurd rfl hb | exact absurd (dec_t rfl).symm hb | exact absurd hl1 hb | exact absurd hl2 hb | exact absurd ⟨hv.1, hA⟩ hb
    refine run_view (view_freezeP 0 10 rfl rfl) ?_
    refine run_view (view_erase 0) ?_
    refine run_loop (fun k : Nat => [(5, .ip (encPassing p)), (6, .ip (encStock s)), (7, .sl (cs.map Go.AI.encI)), (10, .ip (encStock (p.after s cs))), (14, .sl ((totL s).map Go.AI.encI)), (16, .sl ((totL (p.after s cs)).map Go.AI.encI)), (18, .raw (.bool (dec (Skn p cs k)))), (19, .int (k : Int))])
      (fun _ => h) (fun k => k ≤ p.rules.length) (fun k => p.rules.length - k) 0 ⟨rfl, rfl, rfl, rfl, rfl, rfl, raw_f (fun ⟨_, _, _, q, _⟩ => Nat.not_lt_zero _ q), rfl, trivial⟩ rfl (Nat.zero_le _) (fun k kl => ?_)
    by_cases hk : k < p.rules.length
    · have hkc : k < cs.length := by omega
      have r8 := hv.2.2.2.1
      by_cases hS : Skn p cs k
      · rw [dec_t hS]
        repeat' (first
      | (refine j_go ?_; first
        | refine j_op0 rfl rfl rfl rfl ?_ | refine j_off rfl rfl rfl ?_ | (refine j_kBin rfl ?_; first | refine j_in rfl rfl ⟨by omega, by omega⟩ rfl rfl ?_) | (refine j_kLen rfl ?_; first | refine j_len rfl rfl rfl rfl rfl rfl ?_))
      | refine j_nil ?_
      | (refine r_go ?_; first | refine run_seq ?_ | refine run_region ?_ | (refine (run_if rfl (fun hb => ?_) (fun hb => ?_)) <;> first | (exfalso; omega) | skip) | refine run_block ?_ | refine run_skip ?_)
      | refine seqQ_normal ?_ | refine blockQ_normal ?_)
        exact loopQ_next (k + 1) (by omega) (by omega) rfl ⟨rfl, rfl, rfl, rfl, rfl, rfl, raw_t ((skn_succ hk hkc).2 (.inl hS)), nx _, trivial⟩
      · rw [dec_f hS]
        repeat' (first
      | (refine j_go ?_; first
        | refine j_op0 rfl rfl rfl rfl ?_ | refine j_off rfl rfl rfl ?_ | (refine j_kIdx rfl ?_; first | refine j_idx rfl rfl rfl rfl rfl (by omega) rfl rfl rfl ?_) | (refine j_kBin rfl ?_; first | refine j_in rfl rfl ⟨by omega, by omega⟩ rfl rfl ?_) | (refine j_kLen rfl ?_; first | refine j_len rfl rfl rfl rfl rfl rfl ?_) | (refine j_kGuard rfl ?_; first | (refine (j_if rfl rfl rfl (fun hb => ?_) (fun hb => ?_)) <;> first | (exfalso; omega) | skip)))
      | refine j_nil ?_
      | (refine r_go ?_; first | refine run_seq ?_ | refine run_region ?_ | (refine (run_if rfl (fun hb => ?_) (fun hb => ?_)) <;> first | (exfalso; omega) | skip) | refine run_block ?_ | refine run_skip ?_)
      | refine seqQ_normal ?_ | refine blockQ_normal ?_)
        · exact loopQ_next (k + 1) (by omega) (by omega) rfl ⟨rfl, rfl, rfl, rfl, rfl, rfl, congrArg some (rbD ⟨fun q => (skn_succ hk hkc).2 (.inr ⟨by assumption, q⟩), fun q => by rcases (skn_succ hk hkc).1 q with w | w <;> first | exact absurd w hS | exact w.2⟩), nx _, trivial⟩
        · exact loopQ_next (k + 1) (by omega) (by omega) rfl ⟨rfl, rfl, rfl, rfl, rfl, rfl, raw_f (fun q => by rcases (skn_succ hk hkc).1 q with w | w <;> first | exact hS w | exact absurd w.1 (by assumption)), nx _, trivial⟩
    obtain rfl : k = p.rules.length := by omega
    have hf8 := hv.1.1.2.2.2.1
    repeat' (first
      | (refine j_go ?_; first
        | refine j_op0 rfl rfl rfl rfl ?_ | (refine j_kLen rfl ?_; first | refine j_len rfl rfl rfl rfl rfl rfl ?_))
      | refine j_nil ?_
      | (refine r_go ?_; first | refine run_seq ?_ | refine run_region ?_ | (refine (run_if rfl (fun hb => ?_) (fun hb => ?_)) <;> first | (exfalso; omega) | skip) | refine run_block ?_ | refine run_exit ?_)
      | refine seqQ_normal ?_ | refine seqQ_exit ?_ | refine blockQ_eq ?_ | refine loopQ_exit ?_)
    refine run_loop (fun k : Nat => [(5, .ip (encPassing p)), (6, .ip (encStock s)), (7, .sl (cs.map Go.AI.encI)), (10, .ip (encStock (p.after s cs))), (14, .sl ((totL s).map Go.AI.encI)), (16, .sl ((totL (p.after s cs)).map Go.AI.encI)), (18, .raw (.bool (dec (Skn p cs p.rules.length)))), (20, .int (k : Int))])
      (fun _ => h) (fun k => (k : Int) ≤ p.kinds) (fun k => p.kinds.toNat - k) 0 ⟨rfl, rfl, rfl, rfl, rfl, rfl, rfl, rfl, trivial⟩ rfl (by omega) (fun k kl => ?_)
    by_cases hk : (k : Int) < p.kinds
    · have hkf : k < p.free.length := by omega
      have hka : k < (totL s).length := by omega
      have hkb : k < (totL (p.after s cs)).length := by omega
      have tA := fun hz => tot_after hv hs hc hA (j := k) (by omega) hz
      rw [getD_get hka, getD_get hkb, getD_get hkf] at tA
      repeat' (first
      | (refine j_go ?_; first
        | refine j_op0 rfl rfl rfl rfl ?_ | refine j_off rfl rfl rfl ?_ | (refine j_kIdx rfl ?_; first | refine j_idx rfl rfl rfl rfl rfl (by omega) rfl rfl rfl ?_) | (refine j_kBin rfl ?_; first | refine j_in rfl rfl ⟨by omega, by omega⟩ rfl rfl ?_) | (refine j_kGuard rfl ?_; first | (refine (j_ifn rfl rfl rfl (fun hb => ?_) (fun hb => ?_)) <;> first | (exfalso; omega) | skip) | (refine (j_branch rfl rfl rfl (fun hb => ?_) (fun hb => ?_)) <;> skip; (fail_if_success guard_hyp hb : true = true); (fail_if_success guard_hyp hb : true = false); (fail_if_success guard_hyp hb : false = true); (fail_if_success guard_hyp hb : false = false))))
      | refine j_nil ?_
      | (refine r_go ?_; first | refine run_seq ?_ | refine run_region ?_ | refine run_cond_t rfl ?_ | refine run_cond_f rfl ?_ | (refine (run_if rfl (fun hb => ?_) (fun hb => ?_)) <;> first | (exfalso; omega) | skip) | (refine (run_ifn rfl (fun hb => ?_) (fun hb => ?_)) <;> first | (exfalso; omega) | skip) | refine run_block ?_ | refine run_ret ?_ | refine run_skip ?_ | refine run_regionD (by kernel_rfl) ?_)
      | refine seqQ_normal ?_ | refine seqQ_ret ?_ | refine blockQ_normal ?_ | refine blockQ_ret ?_ | refine loopQ_ret ?_)
      all_goals first
        | exact absurd (tA (.inr (fun ⟨i, q1, q2, q3⟩ => (by assumption : ¬ Skn p cs p.rules.length) ⟨i, q1, q2, q1, q3⟩))) (by assumption)
        | exact absurd (tA (.inl (by simpa using hb))) (by assumption)
        | exact loopQ_next (k + 1) (by omega) (by omega) rfl ⟨rfl, rfl, rfl, rfl, rfl, rfl, rfl, nx _, trivial⟩
        | trace_state
    have cI := c_iRev p hv.1
    have cJ := c_sRev p hv.1
    by_cases hR : p.rev.Ok
    · have q := rev_step hv hs hc hN hA hR
      have cB := c_PassStepF p.rev (p.after s cs) cs
      rw [(rev_t hR).1, (rev_t hR).2] at cI cJ
      rw [q.1, q.2] at cB
      repeat' (first
      | (refine j_go ?_; first
        | refine j_op0 rfl rfl rfl rfl ?_ | (refine j_kCall rfl rfl rfl rfl ?_; first | refine jc (cI) (LeL.refl _) rfl rfl ?_ | refine jc (cJ) (LeL.refl _) rfl rfl ?_ | refine jc (c_samePassing p.rev (by show p.free.length ≤ 1000; omega) (by show (p.rules.map revR).length ≤ 1000; rw [List.length_map]; have := hv.2.2.2.1; omega)) (LeL.refl _) rfl rfl ?_ | refine jc (cB) (LeL.refl _) rfl rfl ?_ | refine jc (c_sameStock s (stk_len hv.1 hs.1)) (LeL.refl _) rfl rfl ?_) | (refine j_kLoad rfl ?_; first | refine j_mload 0 rfl rfl rfl rfl rfl rfl rfl ?_ | refine j_mload 1 rfl rfl rfl rfl rfl rfl rfl ?_) | (refine j_kStore rfl ?_; first | refine j_storeN 0 rfl rfl rfl rfl rfl rfl rfl rfl rfl rfl rfl ?_) | (refine j_kGuard rfl ?_; first | (refine (j_if rfl rfl rfl (fun hb => ?_) (fun hb => ?_)) <;> first | (exfalso; omega) | skip) | (refine (j_ifn rfl rfl rfl (fun hb => ?_) (fun hb => ?_)) <;> first | (exfalso; omega) | skip)) | refine j_alloc rfl rfl rfl rfl rfl (fun _ => ?_))
      | refine j_nil ?_
      | (refine r_go ?_; first | refine run_seq ?_ | refine run_region ?_ | refine run_cond_f rfl ?_ | (refine (run_if rfl (fun hb => ?_) (fun hb => ?_)) <;> first | (exfalso; omega) | skip) | (refine (run_ifn rfl (fun hb => ?_) (fun hb => ?_)) <;> first | (exfalso; omega) | skip) | refine run_ret ?_ | refine run_exit ?_ | refine run_skip ?_)
      | refine seqQ_normal ?_ | refine seqQ_exit ?_ | refine blockQ_eq ?_ | refine loopQ_exit ?_)
      all_goals first | exact absurd rfl hb | exact absurd hb (by decide) | exact end1 rfl (by repeat' first | exact List.Sublist.refl _ | refine List.Sublist.cons _ ?_) rfl (.inl rfl) | trace_state
    · rw [(rev_f hR).1, (rev_f hR).2] at cI cJ
      repeat' (first
      | (refine j_go ?_; first
        | refine j_op0 rfl rfl rfl rfl ?_ | (refine j_kCall rfl rfl rfl rfl ?_; first | refine jc (cI) (LeL.refl _) rfl rfl ?_ | refine jc (cJ) (LeL.refl _) rfl rfl ?_ | refine jc (c_samePassing ⟨0, [], [], []⟩ (by simp) (by simp)) (LeL.refl _) rfl rfl ?_) | (refine j_kLoad rfl ?_; first | refine j_mload 0 rfl rfl rfl rfl rfl rfl rfl ?_ | refine j_mload 1 rfl rfl rfl rfl rfl rfl rfl ?_) | (refine j_kStore rfl ?_; first | refine j_storeN 0 rfl rfl rfl rfl rfl rfl rfl rfl rfl rfl rfl ?_) | (refine j_kGuard rfl ?_; first | (refine (j_ifn rfl rfl rfl (fun hb => ?_) (fun hb => ?_)) <;> first | (exfalso; omega) | skip)) | refine j_alloc rfl rfl rfl rfl rfl (fun _ => ?_))
      | refine j_nil ?_
      | (refine r_go ?_; first | refine run_seq ?_ | refine run_region ?_ | refine run_cond_f rfl ?_ | (refine (run_if rfl (fun hb => ?_) (fun hb => ?_)) <;> first | (exfalso; omega) | skip) | (refine (run_ifn rfl (fun hb => ?_) (fun hb => ?_)) <;> first | (exfalso; omega) | skip) | refine run_ret ?_ | refine run_exit ?_ | refine run_skip ?_)
      | refine seqQ_normal ?_ | refine seqQ_ret ?_ | refine seqQ_exit ?_ | refine blockQ_eq ?_ | refine loopQ_exit ?_)
      all_goals first | exact absurd rfl hb | exact absurd hb (by decide) | exact end1 rfl (by repeat' first | exact List.Sublist.refl _ | refine List.Sublist.cons _ ?_) (rbT rfl).symm (.inl rfl) | exact end1 rfl (by repeat' first | exact List.Sublist.refl _ | refine List.Sublist.cons _ ?_) rfl (.inl rfl) | trace_state
  · rw [e4, (ps_f4 hv.1 hs.1 hc hN).1] at cF cS
    rw [dec_f hN] at cFit
    repeat' (first
      | (refine j_go ?_; first
        | refine j_op0 rfl rfl rfl rfl ?_ | (refine j_kCall rfl rfl rfl rfl ?_; first | refine jc (cF) (LeL.refl _) rfl rfl ?_ | refine jc (cS) (LeL.refl _) rfl rfl ?_ | refine jc (cFit) (LeL.refl _) rfl rfl ?_ | refine jc (c_sameStock ⟨[], []⟩ (by simp)) (LeL.refl _) rfl rfl ?_) | (refine j_kLoad rfl ?_; first | refine j_mload 0 rfl rfl rfl rfl rfl rfl rfl ?_ | refine j_mload 1 rfl rfl rfl rfl rfl rfl rfl ?_) | (refine j_kStore rfl ?_; first | refine j_storeN 0 rfl rfl rfl rfl rfl rfl rfl rfl rfl rfl rfl ?_) | (refine j_kGuard rfl ?_; first | (refine (j_ifn rfl rfl rfl (fun hb => ?_) (fun hb => ?_)) <;> first | (exfalso; omega) | skip)) | refine j_alloc rfl rfl rfl rfl rfl (fun _ => ?_))
      | refine j_nil ?_
      | (refine r_go ?_; first | refine run_seq ?_ | refine run_region ?_ | (refine (run_ifn rfl (fun hb => ?_) (fun hb => ?_)) <;> first | (exfalso; omega) | skip) | refine run_ret ?_ | refine run_skip ?_)
      | refine seqQ_normal ?_ | refine seqQ_ret ?_)
    all_goals first | exact absurd rfl hb | exact absurd (dec_f (by decide)).symm hb | exact absurd hb (by decide) | exact end1 rfl (by repeat' first | exact List.Sublist.refl _ | refine List.Sublist.cons _ ?_) (rbT rfl).symm (.inl rfl) | exact end1 rfl (by repeat' first | exact List.Sublist.refl _ | refine List.Sublist.cons _ ?_) rfl (.inl rfl) | trace_state
end Go.Proofs.Ytahjliejgjjfeaa

/-
  Bytes read as data, and the program's own laws of layout. No condition.
-/
namespace Go.Proofs.Ytahjliejgjjfeaa
open Go.AI Go.RowKit
theorem rd_u8 {H : Type} {enc : TypeId × Value → H} {P : Program} {W : World} {t : TypeId} (ht : P.underlying t = some (.int .u8)) : Rd enc P W t encY := fun fuel cs x h => by
  obtain ⟨n, rfl, _, hw⟩ := DataW.trod_int ht h
  have := hw
  simp [Lit.wf, IntKind.min, IntKind.max, IntKind.signed, IntKind.bits] at this
  have e : n = ((UInt8.ofNat n.toNat).toNat : Int) := by
    rw [UInt8.toNat_ofNat']
    omega
  refine ⟨UInt8.ofNat n.toNat, RelL.cons ?_ RelL.nil⟩
  have r : Rel (Im W []) W (.u8 (UInt8.ofNat n.toNat)) (.int .u8 ((UInt8.ofNat n.toNat).toNat : Int)) := .u8 _
  rw [← e] at r
  exact r
theorem own : ownKnob Try.prog.godebug = none := by kernel_rfl
theorem laidOut : laidOutB Try.prog = true := by kernel_rfl
end Go.Proofs.Ytahjliejgjjfeaa
