/-
  A step of a passing system: the program's step, in memory of the call's own. No condition.
-/
import Derived.Test.YtbpmmdecaonopaaGreatZS6f
namespace Go.Proofs.YtbpmmdecaonopaaGreat
open Go.AI
set_option maxRecDepth 8000
set_option maxHeartbeats 1600000

/-- What the program hands back. -/
def SPi (x : Stock) (c : Int) : A → Heap → Prop := fun v h' => ∃ a, v = .tup [a, .int c] ∧ ROStock x a h'
theorem SPi.nil {c : Int} : SPi ⟨[], []⟩ c (.tup [.agg [.sl [], .sl []], .int c]) [] := ⟨_, rfl, .sl [], [], .inr ⟨rfl, rfl, rfl⟩, .sl [], [], .inr ⟨rfl, rfl, rfl⟩, rfl, rfl⟩
theorem rows_snoc3 {L : List (List Int)} {vs : List A} {hs : List Heap} {k : Nat} (g2 : vs.length = k) (g3 : hs.length = k) (hk : k < L.length) (g4 : ∀ i (h0 : i < L.length) (h1 : i < vs.length) (h2 : i < hs.length), ROI L[i] vs[i] hs[i]) {v : A} {h : Heap} (hv : ROI L[k] v h) :
    ∀ i (h0 : i < L.length) (h1 : i < (vs ++ [v]).length) (h2 : i < (hs ++ [h]).length), ROI L[i] (vs ++ [v])[i] (hs ++ [h])[i] := by
  intro i h0 h1 h2
  by_cases hi : i < k
  · rw [List.getElem_append_left (by omega), List.getElem_append_left (by omega)]; exact g4 i h0 _ _
  · have e : i = k := by simp at h1; omega
    subst e
    rw [List.getElem_append_right (by omega), List.getElem_append_right (by omega)]
    simpa [g2, g3] using hv
structure StG (n : Nat) (L : List (List Int)) (k : Nat) (vs : List A) (hs : List Heap) (ar : A) (ha : Heap) : Prop where
  g1 : k ≤ n + 1
  g2 : vs.length = min k n
  g3 : hs.length = min k n
  g4 : ∀ i (h0 : i < L.length) (h1 : i < vs.length) (h2 : i < hs.length), ROI L[i] vs[i] hs[i]
  g5 : k ≤ n → ar = .os none 0 0 ∧ ha = []
  g6 : k = n + 1 → ROI (L.getD n []) ar ha
theorem o_step (p : Passing) (s : Stock) (cs : List Int) (hv : p.Ok) (hs0 : p.StockOk s) (hc : p.Cnts cs) : Does Tryz.prog 23 [.agg (encPassing p), .agg (encStock s), .sl (cs.map Go.AI.encI)] []
    (fun v h' => (p.StockOk (p.after s cs) → SPi (p.after s cs) 0 v h') ∧ (¬ p.StockOk (p.after s cs) → SPi ⟨[], []⟩ 3 v h')) := by
  refine fn_of_runD tyOk ztOk mix Tryz.func23 rfl (by decide) Tryz.ntmps23 (fun w0 F => ?_)
  change Run _ _ _ _ _ F
  have k8 := hv.1.1
  have p4 := hv.1.2.1
  have sh := chs_sh' hv hc hs0 (k := p.rules.length) (Nat.le_refl _)
  have eA : p.after s cs = stockOf p.parents.length (p.chs cs (plc s) p.rules.length) := rfl
  have cT := c_changedT p s cs hv hs0 hc
  generalize p.chs cs (plc s) p.rules.length = L at sh eA cT
  have ln := sh.n
  rw [stockOf_eq (by omega)] at eA
  repeat' (first
      | (refine j_go ?_; first
        | refine j_op0 rfl rfl rfl rfl ?_ | (refine j_kLen rfl ?_; first | refine j_len rfl rfl rfl rfl rfl rfl ?_) | (refine j_kCall rfl rfl rfl rfl ?_; first | refine jc (cT) (LeL.refl _) rfl rfl ?_) | (refine j_kStore rfl ?_; first | refine j_storeN 0 rfl rfl rfl rfl rfl rfl rfl rfl rfl rfl rfl ?_) | refine j_box rfl rfl rfl rfl rfl rfl ?_ | refine j_build rfl rfl rfl rfl rfl rfl rfl ?_ | refine j_alloc rfl rfl rfl rfl rfl (fun _ => ?_))
      | refine j_nil ?_
      | (refine r_go ?_; first | refine run_seq ?_ | refine run_region ?_ | refine run_block ?_)
      | refine seqQ_normal ?_)
  rename_i r6 st
  refine run_view (view_none 24 0 rfl) ?_
  refine run_loop (fun x : Nat × (Option Nat × Nat) × List A × List Heap × A × Heap => [(3, .ip (encPassing p)), (6, .op (some r6) 0), (9, .op (some st) 0), (17, .sl (L.map (encS Go.AI.encI))), (18, .int L.length), (19, .int (x.1 : Int))])
    (fun x => ⟨x.2.1.1, 24, x.2.1.2 * 1, (x.2.2.1.map fun a => [a]).flatten⟩ :: ⟨some st, 31, 2, [.os x.2.1.1 x.2.2.1.length x.2.1.2, x.2.2.2.2.1]⟩ :: ⟨some r6, 31, 2, [.os none 0 0, .os none 0 0]⟩ :: (x.2.2.2.1.flatten ++ (x.2.2.2.2.2 ++ F)))
    (fun x => StG p.parents.length L x.1 x.2.2.1 x.2.2.2.1 x.2.2.2.2.1 x.2.2.2.2.2) (fun x => L.length - x.1) (0, (none, 0), [], [], .os none 0 0, []) ⟨rfl, rfl, rfl, rfl, rfl, rfl, trivial⟩ rfl
    ⟨Nat.zero_le _, (by simp), (by simp), (fun _ _ q => absurd q (Nat.not_lt_zero _)), (fun _ => ⟨rfl, rfl⟩), (fun q => by omega)⟩ (fun ⟨k, ⟨oc, cc⟩, vs, hs, ar, ha⟩ G => ?_)
  obtain ⟨gk, gv, gh, gr, ga0, ga1⟩ := G
  dsimp only at gk gv gh gr ga0 ga1 ⊢
  by_cases hk : k < L.length
  · obtain ⟨rfl, rfl⟩ := ga0 (by omega)
    have rl : L[k].length = p.kinds.toNat := (sh.b _ (List.getElem_mem hk)).1
    have rne : L[k] ≠ [] := fun q => by rw [q] at rl; simp at rl; omega
    by_cases hn : k = p.parents.length
    · have vl : vs.length = p.parents.length := by omega
      have hl : hs.length = p.parents.length := by omega
      repeat' (first
      | (refine j_go ?_; first
        | refine j_op0 rfl rfl rfl rfl ?_ | (refine j_kIdx rfl ?_; first | refine j_idx rfl rfl rfl rfl rfl (by omega) rfl rfl rfl ?_) | (refine j_kCall rfl rfl rfl rfl ?_; first | refine jc (c_outside _) (LeL.refl _) rfl rfl ?_))
      | refine j_nil ?_
      | (refine r_go ?_; first | refine run_seq ?_ | refine run_region ?_ | (refine (run_if rfl (fun hb => ?_) (fun hb => ?_)) <;> first | (exfalso; omega) | skip) | refine run_block ?_ | refine run_skip ?_)
      | refine seqQ_normal ?_)
      refine j_kCall rfl rfl rfl rfl ?_
      refine jcp _ (o_cloneI L[k] rne (by omega)) (List.Perm.refl _) (LeL.refl _) rfl rfl (fun v h1 hR => ?_)
      obtain ⟨ov, cv, rfl, rfl⟩ := hR
      repeat' (first
      | (refine j_go ?_; first
        | refine j_op0 rfl rfl rfl rfl ?_ | (refine j_kBin rfl ?_; first | refine j_in rfl rfl ⟨by omega, by omega⟩ rfl rfl ?_) | (refine j_kStore rfl ?_; first | refine j_store 2 rfl rfl rfl rfl rfl rfl rfl rfl rfl rfl rfl ?_))
      | refine j_nil ?_
      | (refine r_go ?_; first | refine run_region ?_)
      | refine seqQ_normal ?_ | refine blockQ_normal ?_)
      refine loopQ_view (view_perm (h' := ⟨oc, 24, cc * 1, (vs.map fun a => [a]).flatten⟩ :: ⟨some st, 31, 2, [.os oc vs.length cc, .os ov L[k].length cv]⟩ :: ⟨some r6, 31, 2, [.os none 0 0, .os none 0 0]⟩ :: (hs.flatten ++ ([(⟨ov, 2, cv * 1, (L[k].map Go.AI.encI).flatten⟩ : Blk)] ++ F))) (by
        change List.Perm (_ :: _ :: ⟨some st, 31, 2, [.os oc vs.length cc, .os ov L[k].length cv]⟩ :: _ :: (hs.flatten ++ ([] ++ F))) _
        classical exact List.perm_iff_count.2 fun _ => by simp only [List.count_cons, List.count_append, List.count_nil]; omega)) ?_
      exact loopQ_next (k + 1, (oc, cc), vs, hs, A.os ov L[k].length cv, [(⟨ov, 2, cv * 1, (L[k].map Go.AI.encI).flatten⟩ : Blk)]) ⟨by dsimp only; omega, by dsimp only; omega, by dsimp only; omega, gr, (fun q => by dsimp only at q; omega), (fun _ => by
        subst hn
        dsimp only
        rw [getD_get hk]; exact Or.inl ⟨ov, cv, rfl, rfl⟩)⟩ (by dsimp only; omega) rfl ⟨rfl, rfl, rfl, rfl, rfl, nx _, trivial⟩
    · have vl : vs.length = k := by omega
      have hl : hs.length = k := by omega
      repeat' (first
      | (refine j_go ?_; first
        | refine j_op0 rfl rfl rfl rfl ?_ | (refine j_kIdx rfl ?_; first | refine j_idx rfl rfl rfl rfl rfl (by omega) rfl rfl rfl ?_) | (refine j_kCall rfl rfl rfl rfl ?_; first | refine jc (c_outside _) (LeL.refl _) rfl rfl ?_))
      | refine j_nil ?_
      | (refine j_goO ?_; first
        | refine j_op0O rfl rfl rfl rfl ?_ | (refine j_kLoadO rfl ?_; first | refine j_mloadS 1 rfl rfl rfl rfl rfl rfl rfl ?_))
      | (refine r_go ?_; first | refine run_seq ?_ | refine run_region ?_ | (refine (run_if rfl (fun hb => ?_) (fun hb => ?_)) <;> first | (exfalso; omega) | skip) | refine run_block ?_ | refine run_skip ?_ | refine run_opn 8 [⟨0, false, false, 0⟩, ⟨1, false, false, 0⟩, ⟨2, true, false, 0⟩, ⟨3, false, true, 0⟩, ⟨4, true, false, 0⟩, ⟨5, false, true, 0⟩, ⟨6, true, false, 0⟩, ⟨7, false, true, 0⟩] rfl rfl (by kernel_rfl) ?_)
      | refine seqQ_normal ?_)
      try (refine j_mloadS 1 rfl rfl rfl rfl rfl rfl rfl ?_)
      skip
      refine j_kCallO rfl rfl rfl rfl ?_
      refine jcdO 0 0 rfl (by intro k2 hk2; simp only [List.mem_singleton] at hk2; subst hk2; simp) (o_cloneI L[k] rne (by omega)) rfl (LeL.refl _) rfl rfl (fun v h1 hR => ?_)
      obtain ⟨ov, cv, rfl, rfl⟩ := hR
      repeat' (first
      | (refine j_goO ?_; first
        | (refine j_kBslO rfl ?_; first | refine j_bslO rfl rfl rfl rfl rfl rfl rfl rfl rfl rfl rfl ?_)))
      refine j_appendO 1 (g := fun a => [a]) (ys := vs) [A.os ov L[k].length cv] rfl (by intro k2 hk2; simp only [List.mem_singleton] at hk2; subst hk2; simp) rfl rfl rfl rfl rfl rfl rfl rfl rfl rfl rfl rfl (fun _ => rfl) (fun _ hy => by simp only [List.mem_singleton] at hy; subst hy; rfl) ⟨by rw [vl]; simp only [List.length_cons, List.length_nil]; omega, by rw [vl]; simp only [List.length_cons, List.length_nil]; omega⟩ rfl rfl (fun oc' cc' => ?_)
      refine j_dropO [1] rfl (by kernel_rfl) ?_
      repeat' (first
      | (refine j_go ?_; first
        | refine j_op0 rfl rfl rfl rfl ?_ | (refine j_kBin rfl ?_; first | refine j_in rfl rfl ⟨by omega, by omega⟩ rfl rfl ?_))
      | refine j_nil ?_
      | (refine j_goO ?_; first
        | refine j_op0O rfl rfl rfl rfl ?_ | (refine j_kStoreO rfl ?_; first | refine j_storeO 2 rfl rfl rfl rfl rfl rfl rfl rfl rfl rfl rfl rfl (by first | (intro _ hk; exact absurd hk List.not_mem_nil) | (intro k hk; simp at hk ⊢; try simp [hk])) ?_))
      | refine j_nilO ?_
      | (refine r_go ?_; first | refine run_region ?_)
      | refine seqQ_normal ?_ | refine blockQ_normal ?_)
      refine loopQ_view (view_perm (h' := ⟨oc', 24, cc' * 1, ((vs ++ [A.os ov L[k].length cv]).map fun a => [a]).flatten⟩ :: ⟨some st, 31, 2, [.os oc' (vs ++ [A.os ov L[k].length cv]).length cc', .os none 0 0]⟩ :: ⟨some r6, 31, 2, [.os none 0 0, .os none 0 0]⟩ :: ((hs ++ [[(⟨ov, 2, cv * 1, (L[k].map Go.AI.encI).flatten⟩ : Blk)]]).flatten ++ ([] ++ F))) (by
        change List.Perm (_ :: _ :: ⟨some st, 31, 2, [.os oc' (vs ++ [A.os ov L[k].length cv]).length cc', .os none 0 0]⟩ :: _ :: (hs.flatten ++ ([] ++ F))) _
        classical exact List.perm_iff_count.2 fun _ => by simp only [List.count_cons, List.count_append, List.count_nil, List.flatten_append, List.flatten_cons, List.flatten_nil]; omega)) ?_
      exact loopQ_next (k + 1, (oc', cc'), vs ++ [A.os ov L[k].length cv], hs ++ [[(⟨ov, 2, cv * 1, (L[k].map Go.AI.encI).flatten⟩ : Blk)]], .os none 0 0, []) ⟨by dsimp only; omega, by simp only [List.length_append, List.length_cons, List.length_nil]; omega, by simp only [List.length_append, List.length_cons, List.length_nil]; omega, rows_snoc3 vl hl (by omega) gr (Or.inl ⟨ov, cv, rfl, rfl⟩), (fun _ => ⟨rfl, rfl⟩), (fun q => by dsimp only at q; omega)⟩ (by dsimp only; omega) rfl ⟨rfl, rfl, rfl, rfl, rfl, nx _, trivial⟩
  · have hke : k = p.parents.length + 1 := by omega
    have hr := ga1 hke
    rw [getD_get (by omega)] at hr
    have vl : vs.length = p.parents.length := by omega
    have hl : hs.length = p.parents.length := by omega
    have tl : (L.take p.parents.length).length = p.parents.length := by rw [List.length_take]; omega
    have ro : ROStock ⟨L.take p.parents.length, L[p.parents.length]⟩ (.agg [.os oc vs.length cc, ar]) ((⟨oc, 24, cc * 1, (vs.map fun a => [a]).flatten⟩ :: hs.flatten) ++ ha) :=
      ⟨.os oc vs.length cc, _,   .inl ⟨oc, cc, vs, hs, vl.trans tl.symm, hl.trans tl.symm, fun i h0 h1 h2 => by simp only [List.getElem_take]; exact gr i _ h1 h2, by rw [tl, vl], rfl⟩, ar, ha, hr, rfl, rfl⟩
    have oka := OwnF.okc hr
    repeat' (first
      | (refine j_go ?_; first
        | refine j_op0 rfl rfl rfl rfl ?_ | (refine j_kLoad rfl ?_; first | refine j_mload 1 rfl rfl rfl rfl rfl rfl rfl ?_))
      | refine j_nil ?_
      | (refine r_go ?_; first | refine run_seq ?_ | refine run_region ?_ | (refine (run_if rfl (fun hb => ?_) (fun hb => ?_)) <;> first | (exfalso; omega) | skip) | refine run_exit ?_)
      | refine seqQ_normal ?_ | refine seqQ_exit ?_ | refine blockQ_eq ?_ | refine loopQ_exit ?_)
    refine j_kCall rfl rfl rfl rfl ?_
    refine jctq ((⟨oc, 24, cc * 1, (vs.map fun a => [a]).flatten⟩ :: hs.flatten) ++ ha) (c_iValidStock p ⟨L.take p.parents.length, L[p.parents.length]⟩) (Clo.raw _) (fun k hk => by
      rcases List.mem_append.1 hk with hk | hk
      · rcases List.mem_cons.1 hk with rfl | hk
        · simp
        · simp [hk]
      · simp [hk]) (FrzL.cons (Frz.same _ _) (FrzL.cons ro.frz (FrzL.nil _))) rfl rfl ?_
    repeat' (first
      | (refine j_go ?_; first
        | refine j_op0 rfl rfl rfl rfl ?_ | (refine j_kLoad rfl ?_; first | refine j_mload 1 rfl rfl rfl rfl rfl rfl rfl ?_) | (refine j_kStore rfl ?_; first | refine j_storeN 2 rfl rfl rfl rfl rfl rfl rfl rfl rfl rfl rfl ?_) | refine j_build rfl rfl rfl rfl rfl rfl rfl ?_)
      | refine j_nil ?_
      | (refine r_go ?_; first | refine run_seq ?_ | refine run_region ?_ | (refine (run_ifn rfl (fun hb => ?_) (fun hb => ?_)) <;> first | (exfalso; omega) | skip) | refine run_ret ?_ | refine run_skip ?_)
      | refine seqQ_normal ?_ | refine seqQ_ret ?_)
    · have hn : ¬ p.StockOk (p.after s cs) := by rw [eA]; exact fun q => hb ⟨hv, q⟩
      refine endD_view (view_freezeP 2 6 rfl rfl) ?_
      refine endD_view (view_sub (h0 := F) (by
        change List.Sublist F (_ :: _ :: (hs.flatten ++ (ha ++ F)))
        exact List.Sublist.cons _ (List.Sublist.cons _ ((List.sublist_append_right _ _).trans (List.sublist_append_right _ _))))) ?_
      exact endD_ret (h1 := []) rfl (.cons (.cellI rfl rfl) (.cons (.tmp rfl) .nil)) (Le.tup2 (Le.agg (LeL.cons (Le.nil 0) (LeL.cons (Le.nil 0) LeL.nil)))) ⟨fun q => absurd q hn, fun _ => SPi.nil⟩ (.inl rfl)
    · have hn : p.StockOk (p.after s cs) := by rw [eA]; exact hb.2
      refine j_storeN 2 rfl rfl rfl rfl rfl rfl rfl rfl (show [A.os oc vs.length cc, ar].all okCell = true by simp only [List.all_cons, List.all_nil, oka]; rfl) rfl rfl ?_
      repeat' (first
      | (refine j_go ?_; first
        | refine j_op0 rfl rfl rfl rfl ?_)
      | refine j_nil ?_
      | (refine r_go ?_; first | refine run_ret ?_)
      | refine seqQ_normal ?_)
      refine endD_view (view_freezeP 2 6 rfl rfl) ?_
      refine endD_view (view_erase 1) ?_
      rw [eA] at hn ⊢
      exact endD_ret (h1 := (⟨oc, 24, cc * 1, (vs.map fun a => [a]).flatten⟩ :: hs.flatten) ++ ha) (by simp [List.append_assoc]) (.cons (.cellI rfl rfl) (.cons (.tmp rfl) .nil)) (Le.refl _) ⟨fun _ => ⟨_, rfl, ro⟩, fun q => absurd hn q⟩ (.inl rfl)

theorem c_iPassStep (p : Passing) (s : Stock) (cs : List Int) : Does Tryz.prog 14 [.agg (encPassing p), .agg (encStock s), .sl (cs.map Go.AI.encI)] [] (SPi (resPassStep p s cs) (codePassStep p s cs)) := by
  refine fn_of_runD tyOk ztOk mix Tryz.func14 rfl (by decide) Tryz.ntmps14 (fun w0 F => ?_)
  change Run _ _ _ _ _ F
  have cC := c_passCode p s cs
  by_cases hv : p.Ok
  · by_cases hs : p.StockOk s ∧ p.Cnts cs
    · obtain ⟨hs, hc⟩ := hs
      rw [cd2_o hv ⟨hs, hc⟩] at cC
      repeat' (first
      | (refine j_go ?_; first
        | refine j_op0 rfl rfl rfl rfl ?_ | (refine j_kCall rfl rfl rfl rfl ?_; first | refine jc (cC) (LeL.refl _) rfl rfl ?_ | refine jc (c_fits _ _ _ hv hs hc.w) (LeL.refl _) rfl rfl ?_) | (refine j_kStore rfl ?_; first | refine j_storeN 0 rfl rfl rfl rfl rfl rfl rfl rfl rfl rfl rfl ?_) | refine j_box rfl rfl rfl rfl rfl rfl ?_ | refine j_build rfl rfl rfl rfl rfl rfl rfl ?_ | refine j_alloc rfl rfl rfl rfl rfl (fun _ => ?_))
      | refine j_nil ?_
      | (refine r_go ?_; first | refine run_seq ?_ | refine run_region ?_ | (refine (run_ifn rfl (fun hb => ?_) (fun hb => ?_)) <;> first | (exfalso; omega) | skip) | refine run_ret ?_ | refine run_skip ?_)
      | refine seqQ_normal ?_ | refine seqQ_ret ?_)
      all_goals first
        | exact absurd rfl (by assumption)
        | (have hN : ¬ Nn (p.left s cs) := by assumption
           rw [(ps_f4 hv hs hc hN).1, (ps_f4 hv hs hc hN).2]
           refine endD_view (view_freezeP 0 6 rfl rfl) ?_
           exact endD_ret (h1 := []) rfl (.cons (.cellI rfl rfl) (.cons (.tmp rfl) .nil)) (Le.tup2 (Le.agg (LeL.cons (Le.nil 0) (LeL.cons (Le.nil 0) LeL.nil)))) SPi.nil (.inl rfl))
        | skip
      have hN : Nn (p.left s cs) := by assumption
      rename_i r6 _
      refine j_kCall rfl rfl rfl rfl ?_
      refine jcp (⟨some r6, 31, 2, [.os none 0 0, .os none 0 0]⟩ :: F) (o_step p s cs hv hs hc) (List.Perm.refl _) (LeL.refl _) rfl rfl (fun v h1 hR => ?_)
      by_cases hA : p.StockOk (p.after s cs)
      · obtain ⟨a, rfl, oR⟩ := hR.1 hA
        rw [(ps_t hv hs hc hN hA).1, (ps_t hv hs hc hN hA).2]
        obtain ⟨a0, a1, rfl, okr⟩ := oR.cells
        repeat' (first
      | (refine j_go ?_; first
        | refine j_op0 rfl rfl rfl rfl ?_))
        refine j_view (view_perm List.perm_middle) ?_
        refine j_storeN 0 rfl rfl rfl rfl rfl rfl rfl rfl okr rfl rfl ?_
        repeat' (first
      | (refine j_go ?_; first
        | refine j_op0 rfl rfl rfl rfl ?_)
      | refine j_nil ?_
      | (refine r_go ?_; first | refine run_ret ?_)
      | refine seqQ_normal ?_)
        refine endD_view (view_freezeP 0 6 rfl rfl) ?_
        exact endD_ret (h1 := h1) rfl (.cons (.cellI rfl rfl) (.cons (.tmp rfl) .nil)) (Le.refl _) ⟨_, rfl, oR⟩ (.inl rfl)
      · obtain ⟨a, rfl, oR⟩ := hR.2 hA
        rw [(ps_f3 hv hs hc hN hA).1, (ps_f3 hv hs hc hN hA).2]
        obtain ⟨a0, a1, rfl, okr⟩ := oR.cells
        repeat' (first
      | (refine j_go ?_; first
        | refine j_op0 rfl rfl rfl rfl ?_))
        refine j_view (view_perm List.perm_middle) ?_
        refine j_storeN 0 rfl rfl rfl rfl rfl rfl rfl rfl okr rfl rfl ?_
        repeat' (first
      | (refine j_go ?_; first
        | refine j_op0 rfl rfl rfl rfl ?_)
      | refine j_nil ?_
      | (refine r_go ?_; first | refine run_ret ?_)
      | refine seqQ_normal ?_)
        refine endD_view (view_freezeP 0 6 rfl rfl) ?_
        exact endD_ret (h1 := h1) rfl (.cons (.cellI rfl rfl) (.cons (.tmp rfl) .nil)) (Le.refl _) ⟨_, rfl, oR⟩ (.inl rfl)
    · rw [cd2_t hv hs] at cC
      rw [(ps_f2 hv hs).1, (ps_f2 hv hs).2]
      repeat' (first
      | (refine j_go ?_; first
        | refine j_op0 rfl rfl rfl rfl ?_ | (refine j_kCall rfl rfl rfl rfl ?_; first | refine jc (cC) (LeL.refl _) rfl rfl ?_) | (refine j_kStore rfl ?_; first | refine j_storeN 0 rfl rfl rfl rfl rfl rfl rfl rfl rfl rfl rfl ?_) | refine j_box rfl rfl rfl rfl rfl rfl ?_ | refine j_build rfl rfl rfl rfl rfl rfl rfl ?_ | refine j_alloc rfl rfl rfl rfl rfl (fun _ => ?_))
      | refine j_nil ?_
      | (refine r_go ?_; first | refine run_seq ?_ | refine run_region ?_ | (refine (run_ifn rfl (fun hb => ?_) (fun hb => ?_)) <;> first | (exfalso; omega) | skip) | refine run_ret ?_)
      | refine seqQ_normal ?_ | refine seqQ_ret ?_)
      all_goals first
        | (refine endD_view (view_freezeP 0 6 rfl rfl) ?_
           exact endD_ret (h1 := []) rfl (.cons (.cellI rfl rfl) (.cons (.tmp rfl) .nil)) (Le.tup2 (Le.agg (LeL.cons (Le.nil 0) (LeL.cons (Le.nil 0) LeL.nil)))) SPi.nil (.inl rfl))
        | (exfalso; omega)
        | trace_state
  · rw [cd2_f hv] at cC
    rw [(ps_f1 hv).1, (ps_f1 hv).2]
    repeat' (first
      | (refine j_go ?_; first
        | refine j_op0 rfl rfl rfl rfl ?_ | (refine j_kCall rfl rfl rfl rfl ?_; first | refine jc (cC) (LeL.refl _) rfl rfl ?_) | (refine j_kStore rfl ?_; first | refine j_storeN 0 rfl rfl rfl rfl rfl rfl rfl rfl rfl rfl rfl ?_) | refine j_box rfl rfl rfl rfl rfl rfl ?_ | refine j_build rfl rfl rfl rfl rfl rfl rfl ?_ | refine j_alloc rfl rfl rfl rfl rfl (fun _ => ?_))
      | refine j_nil ?_
      | (refine r_go ?_; first | refine run_seq ?_ | refine run_region ?_ | (refine (run_ifn rfl (fun hb => ?_) (fun hb => ?_)) <;> first | (exfalso; omega) | skip) | refine run_ret ?_)
      | refine seqQ_normal ?_ | refine seqQ_ret ?_)
    all_goals first
      | (refine endD_view (view_freezeP 0 6 rfl rfl) ?_
         exact endD_ret (h1 := []) rfl (.cons (.cellI rfl rfl) (.cons (.tmp rfl) .nil)) (Le.tup2 (Le.agg (LeL.cons (Le.nil 0) (LeL.cons (Le.nil 0) LeL.nil)))) SPi.nil (.inl rfl))
      | (exfalso; omega)
      | trace_state
end Go.Proofs.YtbpmmdecaonopaaGreat
