/-
  Weights of a passing system: valid ones, sums and invariants. No condition.
-/
import Derived.Test.YtahjliejgjjfeaaZS3f
import Derived.Test.YtahjliejgjjfeaaZS6f
import Derived.Test.YtahjliejgjjfeaaZS5f
import Derived.Test.YtahjliejgjjfeaaZS6e
import Derived.Test.YtahjliejgjjfeaaZE7
namespace Go.Proofs.Ytahjliejgjjfeaa
open Go.AI
set_option maxRecDepth 8000
set_option maxHeartbeats 1600000

/-- Weights, of any size. -/
def Passing.WOk (p : Passing) (W : List (List Int)) : Prop := W.length = p.parents.length + 1 ∧ ∀ l ∈ W, (l.length : Int) = p.kinds ∧ Wt l
theorem Passing.WOk.at {p : Passing} {W : List (List Int)} (h : p.WOk W) {i : Nat} (hi : i < W.length) : (W[i].length : Int) = p.kinds ∧ Wt W[i] := h.2 _ (List.getElem_mem hi)
end Go.Proofs.Ytahjliejgjjfeaa

/-
  Sums by weights, and whether weights are an invariant of a passing system. No condition.
-/
namespace Go.Proofs.Ytahjliejgjjfeaa
open Go.AI
set_option maxRecDepth 8000
set_option maxHeartbeats 1600000

theorem Passing.WOk.sh {p : Passing} {W : List (List Int)} (h : p.WOk W) : Sh (p.parents.length + 1) p.kinds.toNat W 1000 := ⟨h.1, fun x hx => ⟨by have := (h.2 x hx).1; omega, (h.2 x hx).2⟩⟩
end Go.Proofs.Ytahjliejgjjfeaa

/-
  Whether weights are an invariant of a passing system. No condition.
-/
namespace Go.Proofs.Ytahjliejgjjfeaa
open Go.AI
set_option maxRecDepth 8000
set_option maxHeartbeats 1600000

end Go.Proofs.Ytahjliejgjjfeaa

/-
  A step of a passing system: the program's step, in memory of the call's own. No condition.
-/
namespace Go.Proofs.Ytahjliejgjjfeaa
open Go.AI
set_option maxRecDepth 8000
set_option maxHeartbeats 1600000

/-- What the program hands back. -/
def SPi (x : Stock) (c : Int) : A → Heap → Prop := fun v h' => ∃ a, v = .tup [a, .int c] ∧ ROStock x a h'
theorem SPi.nil {c : Int} : SPi ⟨[], []⟩ c (.tup [.agg [.sl [], .sl []], .int c]) [] := ⟨_, rfl, .sl [], [], .inr ⟨rfl, rfl, rfl⟩, .sl [], [], .inr ⟨rfl, rfl, rfl⟩, rfl, rfl⟩
theorem rows_snoc3 {L : List (List Int)} {vs : List A} {hs : List Heap} {k : Nat} (g2 : vs.length = k) (g3 : hs.length = k) (hk : k < L.length) (g4 : ∀ i (h0 : i < L.length) (h1 : i < vs.length) (h2 : i < hs.length), ROI L[i] vs[i] hs[i]) {v : A} {h : Heap} (hv : ROI L[k] v h) :
    ∀ i (h0 : i < L.length) (h1 : i < (vs ++ [v]).length) (h2 : i < (hs ++ [h]).length), ROI L[i] (vs ++ [v])[i] (hs ++ [h])[i] := by
  intro i h0 h1 h2
  by_cases hi : i < k
  · rw [List.getElem_append_left (by omega), List.getElem_append_left (by omega)]; exact g4 i h0 _ _
  · have e : i = k := by simp at h1; omega
    subst e
    rw [List.getElem_append_right (by omega), List.getElem_append_right (by omega)]
    simpa [g2, g3] using hv
structure StG (n : Nat) (L : List (List Int)) (k : Nat) (vs : List A) (hs : List Heap) (ar : A) (ha : Heap) : Prop where
  g1 : k ≤ n + 1
  g2 : vs.length = min k n
  g3 : hs.length = min k n
  g4 : ∀ i (h0 : i < L.length) (h1 : i < vs.length) (h2 : i < hs.length), ROI L[i] vs[i] hs[i]
  g5 : k ≤ n → ar = .os none 0 0 ∧ ha = []
  g6 : k = n + 1 → ROI (L.getD n []) ar ha
theorem o_step (p : Passing) (s : Stock) (cs : List Int) (hv : p.Ok) (hs0 : p.StockOk s) (hc : p.Cnts cs) : Does Try.prog 136 [.agg (encPassing p), .agg (encStock s), .sl (cs.map Go.AI.encI)] []
    (fun v h' => (p.StockOk (p.after s cs) → SPi (p.after s cs) 0 v h') ∧ (¬ p.StockOk (p.after s cs) → SPi ⟨[], []⟩ 3 v h')) := by
  refine fn_of_runD tyOk ztOk mix Try.func136 rfl (by decide) Try.ntmps136 (fun w0 F => ?_)
  change Run _ _ _ _ _ F
  have k8 := hv.1.1
  have p4 := hv.1.2.1
  have sh := chs_sh' hv hc hs0 (k := p.rules.length) (Nat.le_refl _)
  have eA : p.after s cs = stockOf p.parents.length (p.chs cs (plc s) p.rules.length) := rfl
  have cT := c_changedT p s cs hv hs0 hc
  generalize p.chs cs (plc s) p.rules.length = L at sh eA cT
  have ln := sh.n
  rw [stockOf_eq (by omega)] at eA
  repeat' (first
      | (refine j_go ?_; first
        | refine j_op0 rfl rfl rfl rfl ?_ | (refine j_kLen rfl ?_; first | refine j_len rfl rfl rfl rfl rfl rfl ?_) | (refine j_kCall rfl rfl rfl rfl ?_; first | refine jc (cT) (LeL.refl _) rfl rfl ?_) | (refine j_kStore rfl ?_; first | refine j_storeN 0 rfl rfl rfl rfl rfl rfl rfl rfl rfl rfl rfl ?_) | refine j_box rfl rfl rfl rfl rfl rfl ?_ | refine j_build rfl rfl rfl rfl rfl rfl rfl ?_ | refine j_alloc rfl rfl rfl rfl rfl (fun _ => ?_))
      | refine j_nil ?_
      | (refine r_go ?_; first | refine run_seq ?_ | refine run_region ?_ | refine run_block ?_)
      | refine seqQ_normal ?_)
  rename_i r6 st
  refine run_view (view_none 25 0 rfl) ?_
  refine run_loop (fun x : Nat × (Option Nat × Nat) × List A × List Heap × A × Heap => [(3, .ip (encPassing p)), (6, .op (some r6) 0), (9, .op (some st) 0), (17, .sl (L.map (encS Go.AI.encI))), (18, .int L.length), (19, .int (x.1 : Int))])
    (fun x => ⟨x.2.1.1, 25, x.2.1.2 * 1, (x.2.2.1.map fun a => [a]).flatten⟩ :: ⟨some st, 59, 2, [.os x.2.1.1 x.2.2.1.length x.2.1.2, x.2.2.2.2.1]⟩ :: ⟨some r6, 59, 2, [.os none 0 0, .os none 0 0]⟩ :: (x.2.2.2.1.flatten ++ (x.2.2.2.2.2 ++ F)))
    (fun x => StG p.parents.length L x.1 x.2.2.1 x.2.2.2.1 x.2.2.2.2.1 x.2.2.2.2.2) (fun x => L.length - x.1) (0, (none, 0), [], [], .os none 0 0, []) ⟨rfl, rfl, rfl, rfl, rfl, rfl, trivial⟩ rfl
    ⟨Nat.zero_le _, (by simp), (by simp), (fun _ _ q => absurd q (Nat.not_lt_zero _)), (fun _ => ⟨rfl, rfl⟩), (fun q => by omega)⟩ (fun ⟨k, ⟨oc, cc⟩, vs, hs, ar, ha⟩ G => ?_)
  obtain ⟨gk, gv, gh, gr, ga0, ga1⟩ := G
  dsimp only at gk gv gh gr ga0 ga1 ⊢
  by_cases hk : k < L.length
  · obtain ⟨rfl, rfl⟩ := ga0 (by omega)
    have rl : L[k].length = p.kinds.toNat := (sh.b _ (List.getElem_mem hk)).1
    have rne : L[k] ≠ [] := fun q => by rw [q] at rl; simp at rl; omega
    by_cases hn : k = p.parents.length
    · have vl : vs.length = p.parents.length := by omega
      have hl : hs.length = p.parents.length := by omega
      repeat' (first
      | (refine j_go ?_; first
        | refine j_op0 rfl rfl rfl rfl ?_ | (refine j_kIdx rfl ?_; first | refine j_idx rfl rfl rfl rfl rfl (by omega) rfl rfl rfl ?_) | (refine j_kCall rfl rfl rfl rfl ?_; first | refine jc (c_outside _) (LeL.refl _) rfl rfl ?_))
      | refine j_nil ?_
      | (refine r_go ?_; first | refine run_seq ?_ | refine run_region ?_ | (refine (run_if rfl (fun hb => ?_) (fun hb => ?_)) <;> first | (exfalso; omega) | skip) | refine run_block ?_ | refine run_skip ?_)
      | refine seqQ_normal ?_)
      refine j_kCall rfl rfl rfl rfl ?_
      refine jcp _ (o_cloneI L[k] rne (by omega)) (List.Perm.refl _) (LeL.refl _) rfl rfl (fun v h1 hR => ?_)
      obtain ⟨ov, cv, rfl, rfl⟩ := hR
      repeat' (first
      | (refine j_go ?_; first
        | refine j_op0 rfl rfl rfl rfl ?_ | (refine j_kBin rfl ?_; first | refine j_in rfl rfl ⟨by omega, by omega⟩ rfl rfl ?_) | (refine j_kStore rfl ?_; first | refine j_store 2 rfl rfl rfl rfl rfl rfl rfl rfl rfl rfl rfl ?_))
      | refine j_nil ?_
      | (refine r_go ?_; first | refine run_region ?_)
      | refine seqQ_normal ?_ | refine blockQ_normal ?_)
      refine loopQ_view (view_perm (h' := ⟨oc, 25, cc * 1, (vs.map fun a => [a]).flatten⟩ :: ⟨some st, 59, 2, [.os oc vs.length cc, .os ov L[k].length cv]⟩ :: ⟨some r6, 59, 2, [.os none 0 0, .os none 0 0]⟩ :: (hs.flatten ++ ([(⟨ov, 2, cv * 1, (L[k].map Go.AI.encI).flatten⟩ : Blk)] ++ F))) (by
        change List.Perm (_ :: _ :: ⟨some st, 59, 2, [.os oc vs.length cc, .os ov L[k].length cv]⟩ :: _ :: (hs.flatten ++ ([] ++ F))) _
        classical exact List.perm_iff_count.2 fun _ => by simp only [List.count_cons, List.count_append, List.count_nil]; omega)) ?_
      exact loopQ_next (k + 1, (oc, cc), vs, hs, A.os ov L[k].length cv, [(⟨ov, 2, cv * 1, (L[k].map Go.AI.encI).flatten⟩ : Blk)]) ⟨by dsimp only; omega, by dsimp only; omega, by dsimp only; omega, gr, (fun q => by dsimp only at q; omega), (fun _ => by
        subst hn
        dsimp only
        rw [getD_get hk]; exact Or.inl ⟨ov, cv, rfl, rfl⟩)⟩ (by dsimp only; omega) rfl ⟨rfl, rfl, rfl, rfl, rfl, nx _, trivial⟩
    · have vl : vs.length = k := by omega
      have hl : hs.length = k := by omega
      repeat' (first
      | (refine j_go ?_; first
        | refine j_op0 rfl rfl rfl rfl ?_ | (refine j_kIdx rfl ?_; first | refine j_idx rfl rfl rfl rfl rfl (by omega) rfl rfl rfl ?_) | (refine j_kCall rfl rfl rfl rfl ?_; first | refine jc (c_outside _) (LeL.refl _) rfl rfl ?_))
      | refine j_nil ?_
      | (refine j_goO ?_; first
        | refine j_op0O rfl rfl rfl rfl ?_ | (refine j_kLoadO rfl ?_; first | refine j_mloadS 1 rfl rfl rfl rfl rfl rfl rfl ?_))
      | (refine r_go ?_; first | refine run_seq ?_ | refine run_region ?_ | (refine (run_if rfl (fun hb => ?_) (fun hb => ?_)) <;> first | (exfalso; omega) | skip) | refine run_block ?_ | refine run_skip ?_ | refine run_opn 8 [⟨0, false, false, false⟩, ⟨1, false, false, false⟩, ⟨2, true, false, false⟩, ⟨3, false, true, false⟩, ⟨4, true, false, false⟩, ⟨5, false, true, false⟩, ⟨6, true, false, false⟩, ⟨7, false, true, false⟩] rfl rfl (by kernel_rfl) ?_)
      | refine seqQ_normal ?_)
      try (refine j_mloadS 1 rfl rfl rfl rfl rfl rfl rfl ?_)
      skip
      refine j_kCallO rfl rfl rfl rfl ?_
      refine jcdO 0 0 rfl (by intro k2 hk2; simp only [List.mem_singleton] at hk2; subst hk2; simp) (o_cloneI L[k] rne (by omega)) rfl (LeL.refl _) rfl rfl (fun v h1 hR => ?_)
      obtain ⟨ov, cv, rfl, rfl⟩ := hR
      repeat' (first
      | (refine j_goO ?_; first
        | (refine j_kBslO rfl ?_; first | refine j_bslO rfl rfl rfl rfl rfl rfl rfl rfl rfl rfl rfl ?_)))
      refine j_appendO 1 (g := fun a => [a]) (ys := vs) [A.os ov L[k].length cv] rfl (by intro k2 hk2; simp only [List.mem_singleton] at hk2; subst hk2; simp) rfl rfl rfl rfl rfl rfl rfl rfl rfl rfl rfl rfl (fun _ => rfl) (fun _ hy => by simp only [List.mem_singleton] at hy; subst hy; rfl) ⟨by rw [vl]; simp only [List.length_cons, List.length_nil]; omega, by rw [vl]; simp only [List.length_cons, List.length_nil]; omega⟩ rfl rfl (fun oc' cc' => ?_)
      refine j_dropO [1] rfl (by kernel_rfl) ?_
      repeat' (first
      | (refine j_go ?_; first
        | refine j_op0 rfl rfl rfl rfl ?_ | (refine j_kBin rfl ?_; first | refine j_in rfl rfl ⟨by omega, by omega⟩ rfl rfl ?_))
      | refine j_nil ?_
      | (refine j_goO ?_; first
        | refine j_op0O rfl rfl rfl rfl ?_ | (refine j_kStoreO rfl ?_; first | refine j_storeO 2 rfl rfl rfl rfl rfl rfl rfl rfl rfl rfl rfl rfl (by first | (intro _ hk; exact absurd hk List.not_mem_nil) | (intro k hk; simp at hk ⊢; try simp [hk])) ?_))
      | refine j_nilO ?_
      | (refine r_go ?_; first | refine run_region ?_)
      | refine seqQ_normal ?_ | refine blockQ_normal ?_)
      refine loopQ_view (view_perm (h' := ⟨oc', 25, cc' * 1, ((vs ++ [A.os ov L[k].length cv]).map fun a => [a]).flatten⟩ :: ⟨some st, 59, 2, [.os oc' (vs ++ [A.os ov L[k].length cv]).length cc', .os none 0 0]⟩ :: ⟨some r6, 59, 2, [.os none 0 0, .os none 0 0]⟩ :: ((hs ++ [[(⟨ov, 2, cv * 1, (L[k].map Go.AI.encI).flatten⟩ : Blk)]]).flatten ++ ([] ++ F))) (by
        change List.Perm (_ :: _ :: ⟨some st, 59, 2, [.os oc' (vs ++ [A.os ov L[k].length cv]).length cc', .os none 0 0]⟩ :: _ :: (hs.flatten ++ ([] ++ F))) _
        classical exact List.perm_iff_count.2 fun _ => by simp only [List.count_cons, List.count_append, List.count_nil, List.flatten_append, List.flatten_cons, List.flatten_nil]; omega)) ?_
      exact loopQ_next (k + 1, (oc', cc'), vs ++ [A.os ov L[k].length cv], hs ++ [[(⟨ov, 2, cv * 1, (L[k].map Go.AI.encI).flatten⟩ : Blk)]], .os none 0 0, []) ⟨by dsimp only; omega, by simp only [List.length_append, List.length_cons, List.length_nil]; omega, by simp only [List.length_append, List.length_cons, List.length_nil]; omega, rows_snoc3 vl hl (by omega) gr (Or.inl ⟨ov, cv, rfl, rfl⟩), (fun _ => ⟨rfl, rfl⟩), (fun q => by dsimp only at q; omega)⟩ (by dsimp only; omega) rfl ⟨rfl, rfl, rfl, rfl, rfl, nx _, trivial⟩
  · have hke : k = p.parents.length + 1 := by omega
    have hr := ga1 hke
    rw [getD_get (by omega)] at hr
    have vl : vs.length = p.parents.length := by omega
    have hl : hs.length = p.parents.length := by omega
    have tl : (L.take p.parents.length).length = p.parents.length := by rw [List.length_take]; omega
    have ro : ROStock ⟨L.take p.parents.length, L[p.parents.length]⟩ (.agg [.os oc vs.length cc, ar]) ((⟨oc, 25, cc * 1, (vs.map fun a => [a]).flatten⟩ :: hs.flatten) ++ ha) :=
      ⟨.os oc vs.length cc, _,   .inl ⟨oc, cc, vs, hs, vl.trans tl.symm, hl.trans tl.symm, fun i h0 h1 h2 => by simp only [List.getElem_take]; exact gr i _ h1 h2, by rw [tl, vl], rfl⟩, ar, ha, hr, rfl, rfl⟩
    have oka := OwnF.okc hr
    repeat' (first
      | (refine j_go ?_; first
        | refine j_op0 rfl rfl rfl rfl ?_ | (refine j_kLoad rfl ?_; first | refine j_mload 1 rfl rfl rfl rfl rfl rfl rfl ?_))
      | refine j_nil ?_
      | (refine r_go ?_; first | refine run_seq ?_ | refine run_region ?_ | (refine (run_if rfl (fun hb => ?_) (fun hb => ?_)) <;> first | (exfalso; omega) | skip) | refine run_exit ?_)
      | refine seqQ_normal ?_ | refine seqQ_exit ?_ | refine blockQ_eq ?_ | refine loopQ_exit ?_)
    refine j_kCall rfl rfl rfl rfl ?_
    refine jctq ((⟨oc, 25, cc * 1, (vs.map fun a => [a]).flatten⟩ :: hs.flatten) ++ ha) (c_iValidStock p ⟨L.take p.parents.length, L[p.parents.length]⟩) (Clo.raw _) (fun k hk => by
      rcases List.mem_append.1 hk with hk | hk
      · rcases List.mem_cons.1 hk with rfl | hk
        · simp
        · simp [hk]
      · simp [hk]) (FrzL.cons (Frz.same _ _) (FrzL.cons ro.frz (FrzL.nil _))) rfl rfl ?_
    repeat' (first
      | (refine j_go ?_; first
        | refine j_op0 rfl rfl rfl rfl ?_ | (refine j_kLoad rfl ?_; first | refine j_mload 1 rfl rfl rfl rfl rfl rfl rfl ?_) | (refine j_kStore rfl ?_; first | refine j_storeN 2 rfl rfl rfl rfl rfl rfl rfl rfl rfl rfl rfl ?_) | refine j_build rfl rfl rfl rfl rfl rfl rfl ?_)
      | refine j_nil ?_
      | (refine r_go ?_; first | refine run_seq ?_ | refine run_region ?_ | (refine (run_ifn rfl (fun hb => ?_) (fun hb => ?_)) <;> first | (exfalso; omega) | skip) | refine run_ret ?_ | refine run_skip ?_)
      | refine seqQ_normal ?_ | refine seqQ_ret ?_)
    · have hn : ¬ p.StockOk (p.after s cs) := by rw [eA]; exact fun q => hb ⟨hv, q⟩
      refine endD_view (view_freezeP 2 6 rfl rfl) ?_
      refine endD_view (view_sub (h0 := F) (by
        change List.Sublist F (_ :: _ :: (hs.flatten ++ (ha ++ F)))
        exact List.Sublist.cons _ (List.Sublist.cons _ ((List.sublist_append_right _ _).trans (List.sublist_append_right _ _))))) ?_
      exact endD_ret (h1 := []) rfl (.cons (.cellI rfl rfl) (.cons (.tmp rfl) .nil)) (Le.tup2 (Le.agg (LeL.cons (Le.nil 0) (LeL.cons (Le.nil 0) LeL.nil)))) ⟨fun q => absurd q hn, fun _ => SPi.nil⟩ (.inl rfl)
    · have hn : p.StockOk (p.after s cs) := by rw [eA]; exact hb.2
      refine j_storeN 2 rfl rfl rfl rfl rfl rfl rfl rfl (show [A.os oc vs.length cc, ar].all okCell = true by simp only [List.all_cons, List.all_nil, oka]; rfl) rfl rfl ?_
      repeat' (first
      | (refine j_go ?_; first
        | refine j_op0 rfl rfl rfl rfl ?_)
      | refine j_nil ?_
      | (refine r_go ?_; first | refine run_ret ?_)
      | refine seqQ_normal ?_)
      refine endD_view (view_freezeP 2 6 rfl rfl) ?_
      refine endD_view (view_erase 1) ?_
      rw [eA] at hn ⊢
      exact endD_ret (h1 := (⟨oc, 25, cc * 1, (vs.map fun a => [a]).flatten⟩ :: hs.flatten) ++ ha) (by simp [List.append_assoc]) (.cons (.cellI rfl rfl) (.cons (.tmp rfl) .nil)) (Le.refl _) ⟨fun _ => ⟨_, rfl, ro⟩, fun q => absurd hn q⟩ (.inl rfl)

theorem c_iPassStep (p : Passing) (s : Stock) (cs : List Int) : Does Try.prog 53 [.agg (encPassing p), .agg (encStock s), .sl (cs.map Go.AI.encI)] [] (SPi (resPassStep p s cs) (codePassStep p s cs)) := by
  refine fn_of_runD tyOk ztOk mix Try.func53 rfl (by decide) Try.ntmps53 (fun w0 F => ?_)
  change Run _ _ _ _ _ F
  have cC := c_passCode p s cs
  by_cases hv : p.Ok
  · by_cases hs : p.StockOk s ∧ p.Cnts cs
    · obtain ⟨hs, hc⟩ := hs
      rw [cd2_o hv ⟨hs, hc⟩] at cC
      repeat' (first
      | (refine j_go ?_; first
        | refine j_op0 rfl rfl rfl rfl ?_ | (refine j_kCall rfl rfl rfl rfl ?_; first | refine jc (cC) (LeL.refl _) rfl rfl ?_ | refine jc (c_fits _ _ _ hv hs hc) (LeL.refl _) rfl rfl ?_) | (refine j_kStore rfl ?_; first | refine j_storeN 0 rfl rfl rfl rfl rfl rfl rfl rfl rfl rfl rfl ?_) | refine j_box rfl rfl rfl rfl rfl rfl ?_ | refine j_build rfl rfl rfl rfl rfl rfl rfl ?_ | refine j_alloc rfl rfl rfl rfl rfl (fun _ => ?_))
      | refine j_nil ?_
      | (refine r_go ?_; first | refine run_seq ?_ | refine run_region ?_ | (refine (run_ifn rfl (fun hb => ?_) (fun hb => ?_)) <;> first | (exfalso; omega) | skip) | refine run_ret ?_ | refine run_skip ?_)
      | refine seqQ_normal ?_ | refine seqQ_ret ?_)
      all_goals first
        | exact absurd rfl (by assumption)
        | (have hN : ¬ Nn (p.left s cs) := by assumption
           rw [(ps_f4 hv hs hc hN).1, (ps_f4 hv hs hc hN).2]
           refine endD_view (view_freezeP 0 6 rfl rfl) ?_
           exact endD_ret (h1 := []) rfl (.cons (.cellI rfl rfl) (.cons (.tmp rfl) .nil)) (Le.tup2 (Le.agg (LeL.cons (Le.nil 0) (LeL.cons (Le.nil 0) LeL.nil)))) SPi.nil (.inl rfl))
        | skip
      have hN : Nn (p.left s cs) := by assumption
      rename_i r6 _
      refine j_kCall rfl rfl rfl rfl ?_
      refine jcp (⟨some r6, 59, 2, [.os none 0 0, .os none 0 0]⟩ :: F) (o_step p s cs hv hs hc) (List.Perm.refl _) (LeL.refl _) rfl rfl (fun v h1 hR => ?_)
      by_cases hA : p.StockOk (p.after s cs)
      · obtain ⟨a, rfl, oR⟩ := hR.1 hA
        rw [(ps_t hv hs hc hN hA).1, (ps_t hv hs hc hN hA).2]
        obtain ⟨a0, a1, rfl, okr⟩ := oR.cells
        repeat' (first
      | (refine j_go ?_; first
        | refine j_op0 rfl rfl rfl rfl ?_))
        refine j_view (view_perm List.perm_middle) ?_
        refine j_storeN 0 rfl rfl rfl rfl rfl rfl rfl rfl okr rfl rfl ?_
        repeat' (first
      | (refine j_go ?_; first
        | refine j_op0 rfl rfl rfl rfl ?_)
      | refine j_nil ?_
      | (refine r_go ?_; first | refine run_ret ?_)
      | refine seqQ_normal ?_)
        refine endD_view (view_freezeP 0 6 rfl rfl) ?_
        exact endD_ret (h1 := h1) rfl (.cons (.cellI rfl rfl) (.cons (.tmp rfl) .nil)) (Le.refl _) ⟨_, rfl, oR⟩ (.inl rfl)
      · obtain ⟨a, rfl, oR⟩ := hR.2 hA
        rw [(ps_f3 hv hs hc hN hA).1, (ps_f3 hv hs hc hN hA).2]
        obtain ⟨a0, a1, rfl, okr⟩ := oR.cells
        repeat' (first
      | (refine j_go ?_; first
        | refine j_op0 rfl rfl rfl rfl ?_))
        refine j_view (view_perm List.perm_middle) ?_
        refine j_storeN 0 rfl rfl rfl rfl rfl rfl rfl rfl okr rfl rfl ?_
        repeat' (first
      | (refine j_go ?_; first
        | refine j_op0 rfl rfl rfl rfl ?_)
      | refine j_nil ?_
      | (refine r_go ?_; first | refine run_ret ?_)
      | refine seqQ_normal ?_)
        refine endD_view (view_freezeP 0 6 rfl rfl) ?_
        exact endD_ret (h1 := h1) rfl (.cons (.cellI rfl rfl) (.cons (.tmp rfl) .nil)) (Le.refl _) ⟨_, rfl, oR⟩ (.inl rfl)
    · rw [cd2_t hv hs] at cC
      rw [(ps_f2 hv hs).1, (ps_f2 hv hs).2]
      repeat' (first
      | (refine j_go ?_; first
        | refine j_op0 rfl rfl rfl rfl ?_ | (refine j_kCall rfl rfl rfl rfl ?_; first | refine jc (cC) (LeL.refl _) rfl rfl ?_) | (refine j_kStore rfl ?_; first | refine j_storeN 0 rfl rfl rfl rfl rfl rfl rfl rfl rfl rfl rfl ?_) | refine j_box rfl rfl rfl rfl rfl rfl ?_ | refine j_build rfl rfl rfl rfl rfl rfl rfl ?_ | refine j_alloc rfl rfl rfl rfl rfl (fun _ => ?_))
      | refine j_nil ?_
      | (refine r_go ?_; first | refine run_seq ?_ | refine run_region ?_ | (refine (run_ifn rfl (fun hb => ?_) (fun hb => ?_)) <;> first | (exfalso; omega) | skip) | refine run_ret ?_)
      | refine seqQ_normal ?_ | refine seqQ_ret ?_)
      all_goals first
        | (refine endD_view (view_freezeP 0 6 rfl rfl) ?_
           exact endD_ret (h1 := []) rfl (.cons (.cellI rfl rfl) (.cons (.tmp rfl) .nil)) (Le.tup2 (Le.agg (LeL.cons (Le.nil 0) (LeL.cons (Le.nil 0) LeL.nil)))) SPi.nil (.inl rfl))
        | (exfalso; omega)
        | trace_state
  · rw [cd2_f hv] at cC
    rw [(ps_f1 hv).1, (ps_f1 hv).2]
    repeat' (first
      | (refine j_go ?_; first
        | refine j_op0 rfl rfl rfl rfl ?_ | (refine j_kCall rfl rfl rfl rfl ?_; first | refine jc (cC) (LeL.refl _) rfl rfl ?_) | (refine j_kStore rfl ?_; first | refine j_storeN 0 rfl rfl rfl rfl rfl rfl rfl rfl rfl rfl rfl ?_) | refine j_box rfl rfl rfl rfl rfl rfl ?_ | refine j_build rfl rfl rfl rfl rfl rfl rfl ?_ | refine j_alloc rfl rfl rfl rfl rfl (fun _ => ?_))
      | refine j_nil ?_
      | (refine r_go ?_; first | refine run_seq ?_ | refine run_region ?_ | (refine (run_ifn rfl (fun hb => ?_) (fun hb => ?_)) <;> first | (exfalso; omega) | skip) | refine run_ret ?_)
      | refine seqQ_normal ?_ | refine seqQ_ret ?_)
    all_goals first
      | (refine endD_view (view_freezeP 0 6 rfl rfl) ?_
         exact endD_ret (h1 := []) rfl (.cons (.cellI rfl rfl) (.cons (.tmp rfl) .nil)) (Le.tup2 (Le.agg (LeL.cons (Le.nil 0) (LeL.cons (Le.nil 0) LeL.nil)))) SPi.nil (.inl rfl))
      | (exfalso; omega)
      | trace_state
end Go.Proofs.Ytahjliejgjjfeaa

/-
  The law FnPassInvariant answers true whatever it reads. No condition.
-/
namespace Go.Proofs.Ytahjliejgjjfeaa
open Go.AI
set_option maxRecDepth 8000
set_option maxHeartbeats 1600000

theorem c_f6big (l : List UInt8) : Gives Try.prog 45 [.sl (l.map encY)] (.raw (.bool (dec (4096 < (l.length : Int))))) := by
  refine fn_of_run tyOk ztOk mix Try.func45 rfl (by decide) Try.ntmps45 (fun w0 h => ?_)
  repeat' (first
      | (refine j_go ?_; first
        | refine j_op0 rfl rfl rfl rfl ?_ | (refine j_kLen rfl ?_; first | refine j_len rfl rfl rfl rfl rfl rfl ?_))
      | refine j_nil ?_
      | (refine r_go ?_; first | refine run_seq ?_ | refine run_region ?_ | refine run_ret ?_)
      | refine seqQ_normal ?_)
  exact end1 rfl (List.Sublist.refl _) (rfl) (.inl rfl)
theorem c_PassStepF (p : Passing) (s : Stock) (cs : List Int) : Gives Try.prog 53 [.agg (encPassing p), .agg (encStock s), .sl (cs.map Go.AI.encI)] (.tup [.agg (encStock (resPassStep p s cs)), .int (codePassStep p s cs)]) :=
  (c_iPassStep p s cs).frozen fun v h1 ⟨a, q1, q2⟩ => by rw [q1]; exact FrzF.tup2 q2.frzF (Clo.int _)
/-- What a step of a small system answers. -/
theorem step_small {p : Passing} {s : Stock} (hv : PasSm p) (hs : StkSm p s) {cs : List Int} (hc5 : ∀ x ∈ cs, 0 ≤ x ∧ x ≤ 5) (hcl : cs.length = p.rules.length) :
    p.Cnts cs ∧ ((codePassStep p s cs = 0 ∧ Nn (p.left s cs) ∧ p.StockOk (p.after s cs) ∧ resPassStep p s cs = p.after s cs) ∨ codePassStep p s cs = 4 ∧ ¬ Nn (p.left s cs)) := by
  have hc : p.Cnts cs := ⟨fun x hx => by have := hc5 x hx; omega, by omega⟩
  refine ⟨hc, ?_⟩
  by_cases hN : Nn (p.left s cs)
  · have hA := after_ok hv hs hc hc5 hN
    have q := ps_t hv.1 hs.1 hc hN hA
    exact .inl ⟨q.2, hN, hA, q.1⟩
  · exact .inr ⟨(ps_f4 hv.1 hs.1 hc hN).2, hN⟩
end Go.Proofs.Ytahjliejgjjfeaa

/-
  The reversed system, on both sides. No condition.
-/
namespace Go.Proofs.Ytahjliejgjjfeaa
open Go.AI
set_option maxRecDepth 8000
set_option maxHeartbeats 1600000

def revR (r : PassRule) : PassRule := ⟨r.cell, r.in_, r.out⟩
def Passing.rev (p : Passing) : Passing := ⟨p.kinds, p.parents, p.free, p.rules.map revR⟩
open Classical in
noncomputable def resRev (p : Passing) : Passing := if p.rev.Ok then p.rev else ⟨0, [], [], []⟩
open Classical in
noncomputable def codeRev (p : Passing) : Int := if p.rev.Ok then 0 else 4
theorem rev_t {p : Passing} (h : p.rev.Ok) : resRev p = p.rev ∧ codeRev p = 0 := by unfold resRev codeRev; rw [if_pos h, if_pos h]; exact ⟨rfl, rfl⟩
theorem rev_f {p : Passing} (h : ¬ p.rev.Ok) : resRev p = ⟨0, [], [], []⟩ ∧ codeRev p = 4 := by unfold resRev codeRev; rw [if_neg h, if_neg h]; exact ⟨rfl, rfl⟩
theorem rev_take {p : Passing} {k : Nat} (h : k < p.rules.length) : (p.rules.take k).map revR ++ [revR p.rules[k]] = (p.rules.take (k + 1)).map revR := by
  rw [List.take_succ_eq_append_getElem h, List.map_append]; rfl
theorem c_cloneI (l : List Int) (hne : l ≠ []) (hn : l.length ≤ 1000000) : Gives Try.prog 140 [.sl (l.map Go.AI.encI)] (.sl (l.map Go.AI.encI)) :=
  (o_cloneI l hne hn).frozen fun _ _ ⟨_, _, q1, q2⟩ => by rw [q1, q2]; exact FrzF.flat rfl rfl (fun _ => rfl) rfl rfl
theorem o_cloneB (l : List Bool) (hne : l ≠ []) (hn : l.length ≤ 1000000) : Does Try.prog 144 [.sl (l.map encB)] [] (fun v h1 => ∃ b cap, v = .os b l.length cap ∧ h1 = [⟨b, 4, cap * 1, (l.map encB).flatten⟩]) := by
  refine fn_of_runD tyOk ztOk mix Try.func144 rfl (by decide) Try.ntmps144 (fun w0 F => ?_)
  change Run _ _ _ _ _ F
  repeat' (first
      | (refine j_go ?_; first
        | refine j_op0 rfl rfl rfl rfl ?_)
      | refine j_nil ?_
      | (refine r_go ?_; first | refine run_seq ?_ | refine run_region ?_)
      | refine seqQ_normal ?_)
  refine j_slnil rfl rfl rfl rfl (by simpa using hne) rfl rfl ?_
  repeat' (first
      | (refine j_go ?_; first
        | refine j_op0 rfl rfl rfl rfl ?_ | (refine j_kBsl rfl ?_; first | refine j_bs0 rfl rfl rfl rfl rfl rfl ?_))
      | refine j_nil ?_
      | (refine r_go ?_; first | refine run_seq ?_ | refine run_region ?_ | refine run_cond_f rfl ?_ | refine run_skip ?_)
      | refine seqQ_normal ?_)
  refine j_append0 (g := encB) l rfl rfl rfl rfl rfl rfl rfl rfl (fun _ => rfl) (fun _ _ => rfl) ⟨by omega, by omega⟩ rfl rfl (fun b' cap' => ?_)
  repeat' (first
      | (refine j_go ?_; first
        | refine j_op0 rfl rfl rfl rfl ?_)
      | refine j_nil ?_
      | (refine r_go ?_; first | refine run_ret ?_)
      | refine seqQ_normal ?_)
  exact endD_ret (h1 := [⟨b', 4, cap' * 1, (l.map encB).flatten⟩]) rfl (vs := [_]) (.cons (.tmp rfl) .nil) (Le.refl _) ⟨_, _, rfl, rfl⟩ (.inl rfl)
theorem c_cloneB (l : List Bool) (hne : l ≠ []) (hn : l.length ≤ 1000000) : Gives Try.prog 144 [.sl (l.map encB)] (.sl (l.map encB)) :=
  (o_cloneB l hne hn).frozen fun _ _ ⟨_, _, q1, q2⟩ => by rw [q1, q2]; exact FrzF.flat rfl rfl (fun _ => rfl) rfl rfl
theorem c_sRev (p : Passing) (hv : p.Ok) : Gives Try.prog 60 [.agg (encPassing p)] (.tup [.agg (encPassing (resRev p)), .int (codeRev p)]) := by
  refine fn_of_run tyOk ztOk mix Try.func60 rfl (by decide) Try.ntmps60 (fun w0 h => ?_)
  have k8 := hv.1.1
  have p4 := hv.1.2.1
  have hfl := hv.1.2.2.2.1
  have h8 := hv.1.2.2.2.2.1
  repeat' (first
      | (refine j_go ?_; first
        | refine j_op0 rfl rfl rfl rfl ?_ | (refine j_kCall rfl rfl rfl rfl ?_; first | refine jc (c_l06Ok _) (LeL.refl _) rfl rfl ?_) | (refine j_kStore rfl ?_; first | refine j_storeN 0 rfl rfl rfl rfl rfl rfl rfl rfl rfl rfl rfl ?_) | refine j_box rfl rfl rfl rfl rfl rfl ?_ | refine j_build rfl rfl rfl rfl rfl rfl rfl ?_ | refine j_alloc rfl rfl rfl rfl rfl (fun _ => ?_))
      | refine j_nil ?_
      | (refine j_goO ?_; first
        | refine j_op0O rfl rfl rfl rfl ?_ | (refine j_kCallO rfl rfl rfl rfl ?_; first | refine jcO (c_l00Own _ (by omega)) (LeL.refl _) rfl rfl ?_) | (refine j_kBslO rfl ?_; first | refine j_bs0O rfl rfl rfl rfl rfl rfl ?_))
      | (refine r_go ?_; first | refine run_seq ?_ | refine run_region ?_ | (refine (run_ifn rfl (fun hb => ?_) (fun hb => ?_)) <;> first | (exfalso; omega) | skip) | refine run_ret ?_ | refine run_skip ?_ | refine run_opn 3 [⟨0, false, false, false⟩, ⟨1, false, false, false⟩, ⟨2, false, false, false⟩, ⟨3, false, false, false⟩, ⟨4, false, false, false⟩, ⟨5, false, false, false⟩, ⟨6, false, false, false⟩, ⟨7, false, false, false⟩, ⟨8, false, false, false⟩, ⟨9, false, false, false⟩, ⟨10, false, true, false⟩, ⟨11, false, true, false⟩] rfl rfl (by kernel_rfl) ?_)
      | refine seqQ_normal ?_ | refine seqQ_ret ?_)
  · exact absurd hv (by assumption)
  refine j_appendQO (g := encB) p.free rfl rfl rfl rfl rfl rfl rfl rfl (fun _ => rfl) (fun _ _ => rfl) ⟨by omega, by omega⟩ rfl rfl ?_
  repeat' (first
      | (refine j_go ?_; first
        | refine j_op0 rfl rfl rfl rfl ?_)
      | refine j_nil ?_
      | (refine j_goO ?_; first
        | (refine j_kStoreO rfl ?_; first | refine j_storeNO 0 rfl rfl rfl rfl rfl rfl rfl rfl rfl rfl rfl rfl (by first | (intro _ hk; exact absurd hk List.not_mem_nil) | (intro k hk; simp at hk ⊢; try simp [hk])) ?_) | refine j_buildO rfl rfl rfl rfl rfl rfl rfl ?_ | refine j_allocO rfl (by first | (intro _ hk; exact absurd hk List.not_mem_nil) | (intro k hk; simp at hk ⊢; try simp [hk])) rfl rfl rfl rfl rfl (fun _ => ?_))
      | refine j_nilO ?_
      | (refine r_go ?_; first | refine run_seq ?_ | refine run_region ?_ | refine run_block ?_)
      | refine seqQ_normal ?_)
  rename_i b2 b4
  refine run_view (view_none 99 (0 * 3) rfl) ?_
  refine run_loop (fun x : Nat × Option Nat × Nat => [(1, .ip (encPassing p)), (2, .op (some b2) 0), (4, .op (some b4) 0), (5, .int (x.1 : Int))])
    (fun x => rsB x.2.1 x.2.2 ((p.rules.take x.1).map revR) :: pasB b4 [.int p.kinds, .sl (p.parents.map Go.AI.encI), .sl (p.free.map encB), .os x.2.1 ((p.rules.take x.1).map revR).length x.2.2] :: pasB b2 [.int 0, .os none 0 0, .os none 0 0, .os none 0 0] :: h)
    (fun x => x.1 ≤ p.rules.length) (fun x => p.rules.length - x.1) (0, none, 0) ⟨rfl, rfl, rfl, rfl, trivial⟩ rfl (Nat.zero_le _) (fun ⟨k, b, cap⟩ kl => ?_)
  dsimp only at kl ⊢
  have tl : ((p.rules.take k).map revR).length = k := by rw [List.length_map, List.length_take]; omega
  by_cases hk : k < p.rules.length
  · have hr := List.getElem_mem hk
    have R := ruF hv hr
    have o8 := R.o'.1.2
    have i8 := R.i'.1.2
    repeat' (first
      | (refine j_go ?_; first
        | refine j_op0 rfl rfl rfl rfl ?_ | (refine j_kIdx rfl ?_; first | refine j_idx rfl rfl rfl rfl rfl (by omega) rfl rfl rfl ?_) | (refine j_kLen rfl ?_; first | refine j_len rfl rfl rfl rfl rfl rfl ?_))
      | refine j_nil ?_
      | (refine j_goO ?_; first
        | refine j_op0O rfl rfl rfl rfl ?_ | (refine j_kCallO rfl rfl rfl rfl ?_; first | refine jcO (c_l00Own _ (by omega)) (LeL.refl _) rfl rfl ?_) | (refine j_kLoadO rfl ?_; first | refine j_mloadO 1 rfl rfl rfl rfl rfl rfl rfl rfl ?_) | (refine j_kBslO rfl ?_; first | refine j_bslO rfl rfl rfl rfl rfl rfl rfl rfl rfl rfl rfl ?_) | refine j_buildO rfl rfl rfl rfl rfl rfl rfl ?_)
      | (refine r_go ?_; first | refine run_seq ?_ | refine run_region ?_ | (refine (run_if rfl (fun hb => ?_) (fun hb => ?_)) <;> first | (exfalso; omega) | skip) | refine run_block ?_ | refine run_skip ?_ | refine run_opn 8 [⟨0, true, false, false⟩, ⟨1, true, false, false⟩, ⟨2, true, false, false⟩, ⟨3, true, false, false⟩, ⟨4, true, false, false⟩, ⟨5, true, false, false⟩, ⟨6, true, false, false⟩, ⟨7, true, false, false⟩, ⟨8, true, false, false⟩, ⟨9, true, false, false⟩, ⟨10, true, false, false⟩, ⟨11, true, false, false⟩, ⟨12, true, false, false⟩, ⟨13, true, false, false⟩, ⟨14, true, false, false⟩, ⟨15, true, false, false⟩, ⟨16, true, false, false⟩, ⟨17, true, false, false⟩, ⟨18, false, true, false⟩, ⟨19, true, false, false⟩, ⟨20, false, true, false⟩] rfl rfl (by kernel_rfl) ?_)
      | refine seqQ_normal ?_)
    refine j_appendO 0 (g := encPassRule) (ys := (p.rules.take k).map revR) [revR p.rules[k]] rfl (fun _ hk => nomatch hk) rfl rfl rfl rfl rfl rfl rfl rfl rfl rfl rfl rfl (fun _ => rfl) (fun _ hy => by simp only [List.mem_singleton] at hy; subst hy; rfl) ⟨by rw [tl]; simp only [List.length_cons, List.length_nil]; omega, by rw [tl]; simp only [List.length_cons, List.length_nil]; omega⟩ rfl rfl (fun b' cap' => ?_)
    rw [rev_take hk]
    repeat' (first
      | (refine j_go ?_; first
        | refine j_op0 rfl rfl rfl rfl ?_ | (refine j_kBin rfl ?_; first | refine j_in rfl rfl ⟨by omega, by omega⟩ rfl rfl ?_))
      | refine j_nil ?_
      | (refine j_goO ?_; first
        | refine j_op0O rfl rfl rfl rfl ?_ | (refine j_kStoreO rfl ?_; first | refine j_storeO 1 rfl rfl rfl rfl rfl rfl rfl rfl rfl rfl rfl rfl (by first | (intro _ hk; exact absurd hk List.not_mem_nil) | (intro k hk; simp at hk ⊢; try simp [hk])) ?_))
      | refine j_nilO ?_
      | (refine r_go ?_; first | refine run_region ?_)
      | refine seqQ_normal ?_ | refine blockQ_normal ?_)
    exact loopQ_next (k + 1, b', cap') (by dsimp only; omega) (by dsimp only; omega) rfl ⟨rfl, rfl, rfl, nx _, trivial⟩
  obtain rfl : k = p.rules.length := by omega
  rw [List.take_length]
  refine run_view (view_cellF (k := 3) (b := some b4) (h1 := [rsB b cap _]) (F := _ :: h) (List.Perm.swap _ _ _) rfl (FrzF.flat (g := encPassRule) (ys := p.rules.map revR) (z := 3) rfl rfl (fun _ => rfl) rfl rfl)) ?_
  refine run_view (view_freezeP 0 4 rfl rfl) ?_
  repeat' (first
      | (refine j_go ?_; first
        | refine j_op0 rfl rfl rfl rfl ?_ | (refine j_kLen rfl ?_; first | refine j_len rfl rfl rfl rfl rfl rfl ?_) | (refine j_kCall rfl rfl rfl rfl ?_; first | refine jc (c_l06Ok p.rev) (LeL.refl _) rfl rfl ?_) | (refine j_kStore rfl ?_; first | refine j_storeN 0 rfl rfl rfl rfl rfl rfl rfl rfl rfl rfl rfl ?_) | refine j_build rfl rfl rfl rfl rfl rfl rfl ?_)
      | refine j_nil ?_
      | (refine r_go ?_; first | refine run_seq ?_ | refine run_region ?_ | (refine (run_if rfl (fun hb => ?_) (fun hb => ?_)) <;> first | (exfalso; omega) | skip) | (refine (run_ifn rfl (fun hb => ?_) (fun hb => ?_)) <;> first | (exfalso; omega) | skip) | refine run_ret ?_ | refine run_exit ?_ | refine run_skip ?_)
      | refine seqQ_normal ?_ | refine seqQ_ret ?_ | refine seqQ_exit ?_ | refine blockQ_eq ?_ | refine loopQ_exit ?_)
  · rw [(rev_f hb).1, (rev_f hb).2]
    exact end_view (view_freezeP 0 2 rfl rfl) (end_le (List.Sublist.refl _) (vs := [_, _]) (.cons (.cellI rfl rfl) (.cons (.tmp rfl) .nil)) (Le.tup2 (Le.agg (LeL.cons (Le.refl _) (LeL.cons (Le.nil 0) (LeL.cons (Le.nil 0) (LeL.cons (Le.nil 0) LeL.nil)))))) (.inl rfl))
  · rw [(rev_t hb).1, (rev_t hb).2]
    exact end_view (view_freezeP 0 2 rfl rfl) (end_le (List.Sublist.refl _) (vs := [_, _]) (.cons (.cellI rfl rfl) (.cons (.tmp rfl) .nil)) (Le.refl _) (.inl rfl))
theorem c_iRev (p : Passing) (hv : p.Ok) : Gives Try.prog 59 [.agg (encPassing p)] (.tup [.agg (encPassing (resRev p)), .int (codeRev p)]) := by
  refine fn_of_run tyOk ztOk mix Try.func59 rfl (by decide) Try.ntmps59 (fun w0 h => ?_)
  have k8 := hv.1.1
  have p4 := hv.1.2.1
  have hfl := hv.1.2.2.2.1
  have h8 := hv.1.2.2.2.2.1
  have hfn : p.free ≠ [] := fun q => by rw [q] at hfl; simp at hfl; omega
  have hpn : p.parents ≠ [] := fun q => by rw [q] at p4; simp at p4
  repeat' (first
      | (refine j_go ?_; first
        | refine j_op0 rfl rfl rfl rfl ?_ | (refine j_kLen rfl ?_; first | refine j_len rfl rfl rfl rfl rfl rfl ?_) | (refine j_kCall rfl rfl rfl rfl ?_; first | refine jc (c_iValidPassing _) (LeL.refl _) rfl rfl ?_) | (refine j_kStore rfl ?_; first | refine j_storeN 0 rfl rfl rfl rfl rfl rfl rfl rfl rfl rfl rfl ?_) | refine j_box rfl rfl rfl rfl rfl rfl ?_ | refine j_build rfl rfl rfl rfl rfl rfl rfl ?_ | refine j_alloc rfl rfl rfl rfl rfl (fun _ => ?_))
      | refine j_nil ?_
      | (refine j_goO ?_; first
        | refine j_op0O rfl rfl rfl rfl ?_ | (refine j_kCallO rfl rfl rfl rfl ?_; first | refine jcO (c_cloneI _ hpn (by omega)) (LeL.refl _) rfl rfl ?_ | refine jcO (c_cloneB _ hfn (by omega)) (LeL.refl _) rfl rfl ?_) | (refine j_kStoreO rfl ?_; first | refine j_storeNO 0 rfl rfl rfl rfl rfl rfl rfl rfl rfl rfl rfl rfl (by first | (intro _ hk; exact absurd hk List.not_mem_nil) | (intro k hk; simp at hk ⊢; try simp [hk])) ?_) | refine j_buildO rfl rfl rfl rfl rfl rfl rfl ?_ | refine j_allocO rfl (by first | (intro _ hk; exact absurd hk List.not_mem_nil) | (intro k hk; simp at hk ⊢; try simp [hk])) rfl rfl rfl rfl rfl (fun _ => ?_))
      | refine j_nilO ?_
      | (refine r_go ?_; first | refine run_seq ?_ | refine run_region ?_ | (refine (run_ifn rfl (fun hb => ?_) (fun hb => ?_)) <;> first | (exfalso; omega) | skip) | refine run_block ?_ | refine run_ret ?_ | refine run_skip ?_ | refine run_opn 3 [⟨0, false, false, false⟩, ⟨1, false, false, false⟩, ⟨2, false, false, false⟩, ⟨3, false, false, false⟩, ⟨4, false, false, false⟩, ⟨5, false, false, false⟩, ⟨6, false, false, false⟩, ⟨7, false, false, false⟩, ⟨8, false, false, false⟩, ⟨9, false, true, false⟩, ⟨10, false, true, false⟩] rfl rfl (by kernel_rfl) ?_)
      | refine seqQ_normal ?_ | refine seqQ_ret ?_)
  · exact absurd hv (by assumption)
  rename_i b2 b4
  refine run_view (view_none 99 (0 * 3) rfl) ?_
  refine run_loop (fun x : Nat × Option Nat × Nat => [(2, .op (some b2) 0), (4, .op (some b4) 0), (21, .sl (p.rules.map encPassRule)), (22, .int p.rules.length), (23, .int (x.1 : Int))])
    (fun x => rsB x.2.1 x.2.2 ((p.rules.take x.1).map revR) :: pasB b4 [.int p.kinds, .sl (p.parents.map Go.AI.encI), .sl (p.free.map encB), .os x.2.1 ((p.rules.take x.1).map revR).length x.2.2] :: pasB b2 [.int 0, .os none 0 0, .os none 0 0, .os none 0 0] :: h)
    (fun x => x.1 ≤ p.rules.length) (fun x => p.rules.length - x.1) (0, none, 0) ⟨rfl, rfl, rfl, rfl, rfl, trivial⟩ rfl (Nat.zero_le _) (fun ⟨k, b, cap⟩ kl => ?_)
  dsimp only at kl ⊢
  have tl : ((p.rules.take k).map revR).length = k := by rw [List.length_map, List.length_take]; omega
  by_cases hk : k < p.rules.length
  · have hr := List.getElem_mem hk
    have R := ruF hv hr
    have o8 := R.o'.1.2
    have i8 := R.i'.1.2
    have hon : p.rules[k].out ≠ [] := fun q => by rw [q] at o8; simp at o8
    have hin : p.rules[k].in_ ≠ [] := fun q => by rw [q] at i8; simp at i8
    repeat' (first
      | (refine j_go ?_; first
        | refine j_op0 rfl rfl rfl rfl ?_ | (refine j_kIdx rfl ?_; first | refine j_idx rfl rfl rfl rfl rfl (by omega) rfl rfl rfl ?_) | (refine j_kStore rfl ?_; first | refine j_storeN 0 rfl rfl rfl rfl rfl rfl rfl rfl rfl rfl rfl ?_) | refine j_alloc rfl rfl rfl rfl rfl (fun _ => ?_))
      | refine j_nil ?_
      | (refine r_go ?_; first | refine run_seq ?_ | refine run_region ?_ | (refine (run_if rfl (fun hb => ?_) (fun hb => ?_)) <;> first | (exfalso; omega) | skip) | refine run_block ?_ | refine run_skip ?_)
      | refine seqQ_normal ?_)
    refine run_view (view_freezeP 0 6 rfl rfl) ?_
    repeat' (first
      | (refine j_goO ?_; first
        | refine j_op0O rfl rfl rfl rfl ?_ | (refine j_kCallO rfl rfl rfl rfl ?_; first | refine jcO (c_cloneI _ hin (by omega)) (LeL.refl _) rfl rfl ?_ | refine jcO (c_cloneI _ hon (by omega)) (LeL.refl _) rfl rfl ?_) | (refine j_kLoadO rfl ?_; first | refine j_mloadO 1 rfl rfl rfl rfl rfl rfl rfl rfl ?_) | (refine j_kBslO rfl ?_; first | refine j_bslO rfl rfl rfl rfl rfl rfl rfl rfl rfl rfl rfl ?_) | refine j_buildO rfl rfl rfl rfl rfl rfl rfl ?_)
      | (refine r_go ?_; first | refine run_opn 7 [⟨0, true, false, false⟩, ⟨1, true, false, false⟩, ⟨2, true, false, false⟩, ⟨3, true, false, false⟩, ⟨4, true, false, false⟩, ⟨5, true, false, false⟩, ⟨6, true, false, false⟩, ⟨7, true, false, false⟩, ⟨8, true, false, false⟩, ⟨9, true, false, false⟩, ⟨10, true, false, false⟩, ⟨11, true, false, false⟩, ⟨12, false, true, false⟩, ⟨13, true, false, false⟩, ⟨14, false, true, false⟩] rfl rfl (by kernel_rfl) ?_))
    refine j_appendO 0 (g := encPassRule) (ys := (p.rules.take k).map revR) [revR p.rules[k]] rfl (fun _ hk => nomatch hk) rfl rfl rfl rfl rfl rfl rfl rfl rfl rfl rfl rfl (fun _ => rfl) (fun _ hy => by simp only [List.mem_singleton] at hy; subst hy; rfl) ⟨by rw [tl]; simp only [List.length_cons, List.length_nil]; omega, by rw [tl]; simp only [List.length_cons, List.length_nil]; omega⟩ rfl rfl (fun b' cap' => ?_)
    rw [rev_take hk]
    repeat' (first
      | (refine j_go ?_; first
        | refine j_op0 rfl rfl rfl rfl ?_ | (refine j_kBin rfl ?_; first | refine j_in rfl rfl ⟨by omega, by omega⟩ rfl rfl ?_))
      | refine j_nil ?_
      | (refine j_goO ?_; first
        | refine j_op0O rfl rfl rfl rfl ?_ | (refine j_kStoreO rfl ?_; first | refine j_storeO 1 rfl rfl rfl rfl rfl rfl rfl rfl rfl rfl rfl rfl (by first | (intro _ hk; exact absurd hk List.not_mem_nil) | (intro k hk; simp at hk ⊢; try simp [hk])) ?_))
      | refine j_nilO ?_
      | (refine r_go ?_; first | refine run_region ?_)
      | refine seqQ_normal ?_ | refine blockQ_normal ?_)
    exact loopQ_next (k + 1, b', cap') (by dsimp only; omega) (by dsimp only; omega) rfl ⟨rfl, rfl, rfl, rfl, nx _, trivial⟩
  obtain rfl : k = p.rules.length := by omega
  rw [List.take_length]
  refine run_view (view_cellF (k := 3) (b := some b4) (h1 := [rsB b cap _]) (F := _ :: h) (List.Perm.swap _ _ _) rfl (FrzF.flat (g := encPassRule) (ys := p.rules.map revR) (z := 3) rfl rfl (fun _ => rfl) rfl rfl)) ?_
  refine run_view (view_freezeP 0 4 rfl rfl) ?_
  repeat' (first
      | (refine j_go ?_; first
        | refine j_op0 rfl rfl rfl rfl ?_ | (refine j_kCall rfl rfl rfl rfl ?_; first | refine jc (c_iValidPassing p.rev) (LeL.refl _) rfl rfl ?_) | (refine j_kStore rfl ?_; first | refine j_storeN 0 rfl rfl rfl rfl rfl rfl rfl rfl rfl rfl rfl ?_) | refine j_build rfl rfl rfl rfl rfl rfl rfl ?_)
      | refine j_nil ?_
      | (refine r_go ?_; first | refine run_seq ?_ | refine run_region ?_ | (refine (run_if rfl (fun hb => ?_) (fun hb => ?_)) <;> first | (exfalso; omega) | skip) | (refine (run_ifn rfl (fun hb => ?_) (fun hb => ?_)) <;> first | (exfalso; omega) | skip) | refine run_ret ?_ | refine run_exit ?_ | refine run_skip ?_)
      | refine seqQ_normal ?_ | refine seqQ_ret ?_ | refine seqQ_exit ?_ | refine blockQ_eq ?_ | refine loopQ_exit ?_)
  · rw [(rev_f hb).1, (rev_f hb).2]
    exact end_view (view_freezeP 0 2 rfl rfl) (end_le (List.Sublist.refl _) (vs := [_, _]) (.cons (.cellI rfl rfl) (.cons (.tmp rfl) .nil)) (Le.tup2 (Le.agg (LeL.cons (Le.refl _) (LeL.cons (Le.nil 0) (LeL.cons (Le.nil 0) (LeL.cons (Le.nil 0) LeL.nil)))))) (.inl rfl))
  · rw [(rev_t hb).1, (rev_t hb).2]
    exact end_view (view_freezeP 0 2 rfl rfl) (end_le (List.Sublist.refl _) (vs := [_, _]) (.cons (.cellI rfl rfl) (.cons (.tmp rfl) .nil)) (Le.refl _) (.inl rfl))
end Go.Proofs.Ytahjliejgjjfeaa
