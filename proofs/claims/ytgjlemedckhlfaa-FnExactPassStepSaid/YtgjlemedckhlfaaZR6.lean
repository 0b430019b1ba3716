/-
  A step of a passing system: the program's step, in memory of the call's own. No condition.
-/
import Derived.Test.YtgjlemedckhlfaaZS6f
import Derived.Test.YtgjlemedckhlfaaZPS6
import Derived.Test.YtgjlemedckhlfaaZG6
import Derived.KernelRfl
namespace Go.Proofs.Ytgjlemedckhlfaa
open Go.AI
set_option maxRecDepth 8000
set_option maxHeartbeats 1600000

/-- What the program hands back. -/
def SPi (x : Stock) (c : Int) : A → Heap → Prop := fun v h' => ∃ a, v = .tup [a, .int c] ∧ ROStock x a h'
theorem SPi.nil {c : Int} : SPi ⟨[], []⟩ c (.tup [.agg [.sl [], .sl []], .int c]) [] := ⟨_, rfl, .sl [], [], .inr ⟨rfl, rfl, rfl⟩, .sl [], [], .inr ⟨rfl, rfl, rfl⟩, rfl, rfl⟩
theorem rows_snoc3 {L : List (List Int)} {vs : List A} {hs : List Heap} {k : Nat} (g2 : vs.length = k) (g3 : hs.length = k) (hk : k < L.length) (g4 : ∀ i (h0 : i < L.length) (h1 : i < vs.length) (h2 : i < hs.length), ROI L[i] vs[i] hs[i]) {v : A} {h : Heap} (hv : ROI L[k] v h) :
    ∀ i (h0 : i < L.length) (h1 : i < (vs ++ [v]).length) (h2 : i < (hs ++ [h]).length), ROI L[i] (vs ++ [v])[i] (hs ++ [h])[i] := by
  intro i h0 h1 h2
  by_cases hi : i < k
  · rw [List.getElem_append_left (by omega), List.getElem_append_left (by omega)]; exact g4 i h0 _ _
  · have e : i = k := by simp at h1; omega
    subst e
    rw [List.getElem_append_right (by omega), List.getElem_append_right (by omega)]
    simpa [g2, g3] using hv
structure StG (n : Nat) (L : List (List Int)) (k : Nat) (vs : List A) (hs : List Heap) (ar : A) (ha : Heap) : Prop where
  g1 : k ≤ n + 1
  g2 : vs.length = min k n
  g3 : hs.length = min k n
  g4 : ∀ i (h0 : i < L.length) (h1 : i < vs.length) (h2 : i < hs.length), ROI L[i] vs[i] hs[i]
  g5 : k ≤ n → ar = .os none 0 0 ∧ ha = []
  g6 : k = n + 1 → ROI (L.getD n []) ar ha
theorem o_step (p : Passing) (s : Stock) (cs : List Int) (hv : p.Ok) (hs0 : p.StockOk s) (hc : p.Cnts cs) : Does Try.prog 97 [.agg (encPassing p), .agg (encStock s), .sl (cs.map encI)] []
    (fun v h' => (p.StockOk (p.after s cs) → SPi (p.after s cs) 0 v h') ∧ (¬ p.StockOk (p.after s cs) → SPi ⟨[], []⟩ 3 v h')) := by
  refine fn_of_runD tyOk ztOk mix Try.func97 rfl (by decide) Try.ntmps97 (fun w0 F => ?_)
  change Run _ _ _ _ _ F
  have k8 := hv.1.1
  have p4 := hv.1.2.1
  have sh := chs_sh' hv hc hs0 (k := p.rules.length) (Nat.le_refl _)
  have eA : p.after s cs = stockOf p.parents.length (p.chs cs (plc s) p.rules.length) := rfl
  have cT := c_changedT p s cs hv hs0 hc
  generalize p.chs cs (plc s) p.rules.length = L at sh eA cT
  have ln := sh.n
  rw [stockOf_eq (by omega)] at eA
  repeat' (first
      | (refine j_go ?_; first
        | refine j_op0 rfl rfl rfl rfl ?_ | (refine j_kLen rfl ?_; first | refine j_len rfl rfl rfl rfl rfl rfl ?_) | (refine j_kCall rfl rfl rfl rfl ?_; first | refine jc (cT) (LeL.refl _) rfl rfl ?_) | (refine j_kStore rfl ?_; first | refine j_storeN 0 rfl rfl rfl rfl rfl rfl rfl rfl rfl rfl rfl ?_) | refine j_box rfl rfl rfl rfl rfl rfl ?_ | refine j_build rfl rfl rfl rfl rfl rfl rfl ?_ | refine j_alloc rfl rfl rfl rfl rfl (fun _ => ?_))
      | refine j_nil ?_
      | (refine r_go ?_; first | refine run_seq ?_ | refine run_region ?_ | refine run_block ?_)
      | refine seqQ_normal ?_)
  rename_i r6 st
  refine run_view (view_none 22 0 rfl) ?_
  refine run_loop (fun x : Nat × (Option Nat × Nat) × List A × List Heap × A × Heap => [(3, .ip (encPassing p)), (6, .op (some r6) 0), (9, .op (some st) 0), (17, .sl (L.map (encS encI))), (18, .int L.length), (19, .int (x.1 : Int))])
    (fun x => ⟨x.2.1.1, 22, x.2.1.2 * 1, (x.2.2.1.map fun a => [a]).flatten⟩ :: ⟨some st, 54, 2, [.os x.2.1.1 x.2.2.1.length x.2.1.2, x.2.2.2.2.1]⟩ :: ⟨some r6, 54, 2, [.os none 0 0, .os none 0 0]⟩ :: (x.2.2.2.1.flatten ++ (x.2.2.2.2.2 ++ F)))
    (fun x => StG p.parents.length L x.1 x.2.2.1 x.2.2.2.1 x.2.2.2.2.1 x.2.2.2.2.2) (fun x => L.length - x.1) (0, (none, 0), [], [], .os none 0 0, []) ⟨rfl, rfl, rfl, rfl, rfl, rfl, trivial⟩ rfl
    ⟨Nat.zero_le _, (by simp), (by simp), (fun _ _ q => absurd q (Nat.not_lt_zero _)), (fun _ => ⟨rfl, rfl⟩), (fun q => by omega)⟩ (fun ⟨k, ⟨oc, cc⟩, vs, hs, ar, ha⟩ G => ?_)
  obtain ⟨gk, gv, gh, gr, ga0, ga1⟩ := G
  dsimp only at gk gv gh gr ga0 ga1 ⊢
  by_cases hk : k < L.length
  · obtain ⟨rfl, rfl⟩ := ga0 (by omega)
    have rl : L[k].length = p.kinds.toNat := (sh.b _ (List.getElem_mem hk)).1
    have rne : L[k] ≠ [] := fun q => by rw [q] at rl; simp at rl; omega
    by_cases hn : k = p.parents.length
    · have vl : vs.length = p.parents.length := by omega
      have hl : hs.length = p.parents.length := by omega
      repeat' (first
      | (refine j_go ?_; first
        | refine j_op0 rfl rfl rfl rfl ?_ | (refine j_kIdx rfl ?_; first | refine j_idx rfl rfl rfl rfl rfl (by omega) rfl rfl rfl ?_) | (refine j_kCall rfl rfl rfl rfl ?_; first | refine jc (c_outside _) (LeL.refl _) rfl rfl ?_))
      | refine j_nil ?_
      | (refine r_go ?_; first | refine run_seq ?_ | refine run_region ?_ | (refine (run_if rfl (fun hb => ?_) (fun hb => ?_)) <;> first | (exfalso; omega) | skip) | refine run_block ?_ | refine run_skip ?_)
      | refine seqQ_normal ?_)
      refine j_kCall rfl rfl rfl rfl ?_
      refine jcp _ (o_cloneI L[k] rne (by omega)) (List.Perm.refl _) (LeL.refl _) rfl rfl (fun v h1 hR => ?_)
      obtain ⟨ov, cv, rfl, rfl⟩ := hR
      repeat' (first
      | (refine j_go ?_; first
        | refine j_op0 rfl rfl rfl rfl ?_ | (refine j_kBin rfl ?_; first | refine j_in rfl rfl ⟨by omega, by omega⟩ rfl rfl ?_) | (refine j_kStore rfl ?_; first | refine j_store 2 rfl rfl rfl rfl rfl rfl rfl rfl rfl rfl rfl ?_))
      | refine j_nil ?_
      | (refine r_go ?_; first | refine run_region ?_)
      | refine seqQ_normal ?_ | refine blockQ_normal ?_)
      refine loopQ_view (view_perm (h' := ⟨oc, 22, cc * 1, (vs.map fun a => [a]).flatten⟩ :: ⟨some st, 54, 2, [.os oc vs.length cc, .os ov L[k].length cv]⟩ :: ⟨some r6, 54, 2, [.os none 0 0, .os none 0 0]⟩ :: (hs.flatten ++ ([(⟨ov, 2, cv * 1, (L[k].map encI).flatten⟩ : Blk)] ++ F))) (by
        change List.Perm (_ :: _ :: ⟨some st, 54, 2, [.os oc vs.length cc, .os ov L[k].length cv]⟩ :: _ :: (hs.flatten ++ ([] ++ F))) _
        classical exact List.perm_iff_count.2 fun _ => by simp only [List.count_cons, List.count_append, List.count_nil]; omega)) ?_
      exact loopQ_next (k + 1, (oc, cc), vs, hs, A.os ov L[k].length cv, [(⟨ov, 2, cv * 1, (L[k].map encI).flatten⟩ : Blk)]) ⟨by dsimp only; omega, by dsimp only; omega, by dsimp only; omega, gr, (fun q => by dsimp only at q; omega), (fun _ => by
        subst hn
        dsimp only
        rw [getD_get hk]; exact Or.inl ⟨ov, cv, rfl, rfl⟩)⟩ (by dsimp only; omega) rfl ⟨rfl, rfl, rfl, rfl, rfl, nx _, trivial⟩
    · have vl : vs.length = k := by omega
      have hl : hs.length = k := by omega
      repeat' (first
      | (refine j_go ?_; first
        | refine j_op0 rfl rfl rfl rfl ?_ | (refine j_kIdx rfl ?_; first | refine j_idx rfl rfl rfl rfl rfl (by omega) rfl rfl rfl ?_) | (refine j_kCall rfl rfl rfl rfl ?_; first | refine jc (c_outside _) (LeL.refl _) rfl rfl ?_))
      | refine j_nil ?_
      | (refine j_goO ?_; first
        | refine j_op0O rfl rfl rfl rfl ?_)
      | (refine r_go ?_; first | refine run_seq ?_ | refine run_region ?_ | (refine (run_if rfl (fun hb => ?_) (fun hb => ?_)) <;> first | (exfalso; omega) | skip) | refine run_block ?_ | refine run_skip ?_ | refine run_opn 8 [⟨0, false, false, false⟩, ⟨1, false, false, false⟩, ⟨2, true, false, false⟩, ⟨3, false, true, false⟩, ⟨4, true, false, false⟩, ⟨5, false, true, false⟩, ⟨6, true, false, false⟩, ⟨7, false, true, false⟩] rfl rfl (by kernel_rfl) ?_)
      | refine seqQ_normal ?_)
      refine j_mloadS 1 rfl rfl rfl rfl rfl rfl rfl ?_
      repeat' (first
      | (refine j_goO ?_; first
        | refine j_op0O rfl rfl rfl rfl ?_))
      refine j_kCallO rfl rfl rfl rfl ?_
      refine jcdO 0 0 rfl (by intro k2 hk2; simp only [List.mem_singleton] at hk2; subst hk2; simp) (o_cloneI L[k] rne (by omega)) rfl (LeL.refl _) rfl rfl (fun v h1 hR => ?_)
      obtain ⟨ov, cv, rfl, rfl⟩ := hR
      repeat' (first
      | (refine j_goO ?_; first
        | (refine j_kBslO rfl ?_; first | refine j_bslO rfl rfl rfl rfl rfl rfl rfl rfl rfl rfl rfl ?_)))
      refine j_appendO 1 (g := fun a => [a]) (ys := vs) [A.os ov L[k].length cv] rfl (by intro k2 hk2; simp only [List.mem_singleton] at hk2; subst hk2; simp) rfl rfl rfl rfl rfl rfl rfl rfl rfl rfl rfl rfl (fun _ => rfl) (fun _ hy => by simp only [List.mem_singleton] at hy; subst hy; rfl) ⟨by rw [vl]; simp only [List.length_cons, List.length_nil]; omega, by rw [vl]; simp only [List.length_cons, List.length_nil]; omega⟩ rfl rfl (fun oc' cc' => ?_)
      refine j_dropO [1] rfl (by kernel_rfl) ?_
      repeat' (first
      | (refine j_go ?_; first
        | refine j_op0 rfl rfl rfl rfl ?_ | (refine j_kBin rfl ?_; first | refine j_in rfl rfl ⟨by omega, by omega⟩ rfl rfl ?_))
      | refine j_nil ?_
      | (refine j_goO ?_; first
        | refine j_op0O rfl rfl rfl rfl ?_ | (refine j_kStoreO rfl ?_; first | refine j_storeO 2 rfl rfl rfl rfl rfl rfl rfl rfl rfl rfl rfl rfl (by first | exact fun _ hk => nomatch hk | (intro k hk; simp at hk ⊢; try simp [hk])) ?_))
      | refine j_nilO ?_
      | (refine r_go ?_; first | refine run_region ?_)
      | refine seqQ_normal ?_ | refine blockQ_normal ?_)
      refine loopQ_view (view_perm (h' := ⟨oc', 22, cc' * 1, ((vs ++ [A.os ov L[k].length cv]).map fun a => [a]).flatten⟩ :: ⟨some st, 54, 2, [.os oc' (vs ++ [A.os ov L[k].length cv]).length cc', .os none 0 0]⟩ :: ⟨some r6, 54, 2, [.os none 0 0, .os none 0 0]⟩ :: ((hs ++ [[(⟨ov, 2, cv * 1, (L[k].map encI).flatten⟩ : Blk)]]).flatten ++ ([] ++ F))) (by
        change List.Perm (_ :: _ :: ⟨some st, 54, 2, [.os oc' (vs ++ [A.os ov L[k].length cv]).length cc', .os none 0 0]⟩ :: _ :: (hs.flatten ++ ([] ++ F))) _
        classical exact List.perm_iff_count.2 fun _ => by simp only [List.count_cons, List.count_append, List.count_nil, List.flatten_append, List.flatten_cons, List.flatten_nil]; omega)) ?_
      exact loopQ_next (k + 1, (oc', cc'), vs ++ [A.os ov L[k].length cv], hs ++ [[(⟨ov, 2, cv * 1, (L[k].map encI).flatten⟩ : Blk)]], .os none 0 0, []) ⟨by dsimp only; omega, by simp only [List.length_append, List.length_cons, List.length_nil]; omega, by simp only [List.length_append, List.length_cons, List.length_nil]; omega, rows_snoc3 vl hl (by omega) gr (Or.inl ⟨ov, cv, rfl, rfl⟩), (fun _ => ⟨rfl, rfl⟩), (fun q => by dsimp only at q; omega)⟩ (by dsimp only; omega) rfl ⟨rfl, rfl, rfl, rfl, rfl, nx _, trivial⟩
  · have hke : k = p.parents.length + 1 := by omega
    have hr := ga1 hke
    rw [getD_get (by omega)] at hr
    have vl : vs.length = p.parents.length := by omega
    have hl : hs.length = p.parents.length := by omega
    have tl : (L.take p.parents.length).length = p.parents.length := by rw [List.length_take]; omega
    have ro : ROStock ⟨L.take p.parents.length, L[p.parents.length]⟩ (.agg [.os oc vs.length cc, ar]) ((⟨oc, 22, cc * 1, (vs.map fun a => [a]).flatten⟩ :: hs.flatten) ++ ha) :=
      ⟨.os oc vs.length cc, _,   .inl ⟨oc, cc, vs, hs, vl.trans tl.symm, hl.trans tl.symm, fun i h0 h1 h2 => by simp only [List.getElem_take]; exact gr i _ h1 h2, by rw [tl, vl], rfl⟩, ar, ha, hr, rfl, rfl⟩
    have oka := OwnF.okc hr
    repeat' (first
      | (refine j_go ?_; first
        | refine j_op0 rfl rfl rfl rfl ?_ | (refine j_kLoad rfl ?_; first | refine j_mload 1 rfl rfl rfl rfl rfl rfl rfl ?_))
      | refine j_nil ?_
      | (refine r_go ?_; first | refine run_seq ?_ | refine run_region ?_ | (refine (run_if rfl (fun hb => ?_) (fun hb => ?_)) <;> first | (exfalso; omega) | skip) | refine run_exit ?_)
      | refine seqQ_normal ?_ | refine seqQ_exit ?_ | refine blockQ_eq ?_ | refine loopQ_exit ?_)
    refine j_kCall rfl rfl rfl rfl ?_
    refine jctq ((⟨oc, 22, cc * 1, (vs.map fun a => [a]).flatten⟩ :: hs.flatten) ++ ha) (c_iValidStock p ⟨L.take p.parents.length, L[p.parents.length]⟩) (Clo.raw _) (fun k hk => by
      rcases List.mem_append.1 hk with hk | hk
      · rcases List.mem_cons.1 hk with rfl | hk
        · simp
        · simp [hk]
      · simp [hk]) (FrzL.cons (Frz.same _ _) (FrzL.cons ro.frz (FrzL.nil _))) rfl rfl ?_
    repeat' (first
      | (refine j_go ?_; first
        | refine j_op0 rfl rfl rfl rfl ?_ | (refine j_kLoad rfl ?_; first | refine j_mload 1 rfl rfl rfl rfl rfl rfl rfl ?_) | (refine j_kStore rfl ?_; first | refine j_storeN 2 rfl rfl rfl rfl rfl rfl rfl rfl rfl rfl rfl ?_) | refine j_build rfl rfl rfl rfl rfl rfl rfl ?_)
      | refine j_nil ?_
      | (refine r_go ?_; first | refine run_seq ?_ | refine run_region ?_ | (refine (run_ifn rfl (fun hb => ?_) (fun hb => ?_)) <;> first | (exfalso; omega) | skip) | refine run_ret ?_ | refine run_skip ?_)
      | refine seqQ_normal ?_ | refine seqQ_ret ?_)
    · have hn : ¬ p.StockOk (p.after s cs) := by rw [eA]; exact fun q => hb ⟨hv, q⟩
      refine endD_view (view_freezeP 2 6 rfl rfl) ?_
      refine endD_view (view_sub (h0 := F) (by
        change List.Sublist F (_ :: _ :: (hs.flatten ++ (ha ++ F)))
        exact List.Sublist.cons _ (List.Sublist.cons _ ((List.sublist_append_right _ _).trans (List.sublist_append_right _ _))))) ?_
      exact endD_ret (h1 := []) rfl (.cons (.cellI rfl rfl) (.cons (.tmp rfl) .nil)) (Le.tup2 (Le.agg (LeL.cons (Le.nil 0) (LeL.cons (Le.nil 0) LeL.nil)))) ⟨fun q => absurd q hn, fun _ => SPi.nil⟩ (.inl rfl)
    · have hn : p.StockOk (p.after s cs) := by rw [eA]; exact hb.2
      refine j_storeN 2 rfl rfl rfl rfl rfl rfl rfl rfl (show [A.os oc vs.length cc, ar].all okCell = true by simp only [List.all_cons, List.all_nil, oka]; rfl) rfl rfl ?_
      repeat' (first
      | (refine j_go ?_; first
        | refine j_op0 rfl rfl rfl rfl ?_)
      | refine j_nil ?_
      | (refine r_go ?_; first | refine run_ret ?_)
      | refine seqQ_normal ?_)
      refine endD_view (view_freezeP 2 6 rfl rfl) ?_
      refine endD_view (view_erase 1) ?_
      rw [eA] at hn ⊢
      exact endD_ret (h1 := (⟨oc, 22, cc * 1, (vs.map fun a => [a]).flatten⟩ :: hs.flatten) ++ ha) (by simp [List.append_assoc]) (.cons (.cellI rfl rfl) (.cons (.tmp rfl) .nil)) (Le.refl _) ⟨fun _ => ⟨_, rfl, ro⟩, fun q => absurd hn q⟩ (.inl rfl)

theorem c_iPassStep (p : Passing) (s : Stock) (cs : List Int) : Does Try.prog 31 [.agg (encPassing p), .agg (encStock s), .sl (cs.map encI)] [] (SPi (resPassStep p s cs) (codePassStep p s cs)) := by
  refine fn_of_runD tyOk ztOk mix Try.func31 rfl (by decide) Try.ntmps31 (fun w0 F => ?_)
  change Run _ _ _ _ _ F
  have cC := c_passCode p s cs
  by_cases hv : p.Ok
  · by_cases hs : p.StockOk s ∧ p.Cnts cs
    · obtain ⟨hs, hc⟩ := hs
      rw [cd2_o hv ⟨hs, hc⟩] at cC
      repeat' (first
      | (refine j_go ?_; first
        | refine j_op0 rfl rfl rfl rfl ?_ | (refine j_kCall rfl rfl rfl rfl ?_; first | refine jc (cC) (LeL.refl _) rfl rfl ?_ | refine jc (c_fits _ _ _ hv hs hc) (LeL.refl _) rfl rfl ?_) | (refine j_kStore rfl ?_; first | refine j_storeN 0 rfl rfl rfl rfl rfl rfl rfl rfl rfl rfl rfl ?_) | refine j_box rfl rfl rfl rfl rfl rfl ?_ | refine j_build rfl rfl rfl rfl rfl rfl rfl ?_ | refine j_alloc rfl rfl rfl rfl rfl (fun _ => ?_))
      | refine j_nil ?_
      | (refine r_go ?_; first | refine run_seq ?_ | refine run_region ?_ | (refine (run_ifn rfl (fun hb => ?_) (fun hb => ?_)) <;> first | (exfalso; omega) | skip) | refine run_ret ?_ | refine run_skip ?_)
      | refine seqQ_normal ?_ | refine seqQ_ret ?_)
      all_goals first
        | exact absurd rfl (by assumption)
        | (have hN : ¬ Nn (p.left s cs) := by assumption
           rw [(ps_f4 hv hs hc hN).1, (ps_f4 hv hs hc hN).2]
           refine endD_view (view_freezeP 0 6 rfl rfl) ?_
           exact endD_ret (h1 := []) rfl (.cons (.cellI rfl rfl) (.cons (.tmp rfl) .nil)) (Le.tup2 (Le.agg (LeL.cons (Le.nil 0) (LeL.cons (Le.nil 0) LeL.nil)))) SPi.nil (.inl rfl))
        | skip
      have hN : Nn (p.left s cs) := by assumption
      rename_i r6 _
      refine j_kCall rfl rfl rfl rfl ?_
      refine jcp (⟨some r6, 54, 2, [.os none 0 0, .os none 0 0]⟩ :: F) (o_step p s cs hv hs hc) (List.Perm.refl _) (LeL.refl _) rfl rfl (fun v h1 hR => ?_)
      by_cases hA : p.StockOk (p.after s cs)
      · obtain ⟨a, rfl, oR⟩ := hR.1 hA
        rw [(ps_t hv hs hc hN hA).1, (ps_t hv hs hc hN hA).2]
        obtain ⟨a0, a1, rfl, okr⟩ := oR.cells
        repeat' (first
      | (refine j_go ?_; first
        | refine j_op0 rfl rfl rfl rfl ?_))
        refine j_view (view_perm List.perm_middle) ?_
        refine j_storeN 0 rfl rfl rfl rfl rfl rfl rfl rfl okr rfl rfl ?_
        repeat' (first
      | (refine j_go ?_; first
        | refine j_op0 rfl rfl rfl rfl ?_)
      | refine j_nil ?_
      | (refine r_go ?_; first | refine run_ret ?_)
      | refine seqQ_normal ?_)
        refine endD_view (view_freezeP 0 6 rfl rfl) ?_
        exact endD_ret (h1 := h1) rfl (.cons (.cellI rfl rfl) (.cons (.tmp rfl) .nil)) (Le.refl _) ⟨_, rfl, oR⟩ (.inl rfl)
      · obtain ⟨a, rfl, oR⟩ := hR.2 hA
        rw [(ps_f3 hv hs hc hN hA).1, (ps_f3 hv hs hc hN hA).2]
        obtain ⟨a0, a1, rfl, okr⟩ := oR.cells
        repeat' (first
      | (refine j_go ?_; first
        | refine j_op0 rfl rfl rfl rfl ?_))
        refine j_view (view_perm List.perm_middle) ?_
        refine j_storeN 0 rfl rfl rfl rfl rfl rfl rfl rfl okr rfl rfl ?_
        repeat' (first
      | (refine j_go ?_; first
        | refine j_op0 rfl rfl rfl rfl ?_)
      | refine j_nil ?_
      | (refine r_go ?_; first | refine run_ret ?_)
      | refine seqQ_normal ?_)
        refine endD_view (view_freezeP 0 6 rfl rfl) ?_
        exact endD_ret (h1 := h1) rfl (.cons (.cellI rfl rfl) (.cons (.tmp rfl) .nil)) (Le.refl _) ⟨_, rfl, oR⟩ (.inl rfl)
    · rw [cd2_t hv hs] at cC
      rw [(ps_f2 hv hs).1, (ps_f2 hv hs).2]
      repeat' (first
      | (refine j_go ?_; first
        | refine j_op0 rfl rfl rfl rfl ?_ | (refine j_kCall rfl rfl rfl rfl ?_; first | refine jc (cC) (LeL.refl _) rfl rfl ?_) | (refine j_kStore rfl ?_; first | refine j_storeN 0 rfl rfl rfl rfl rfl rfl rfl rfl rfl rfl rfl ?_) | refine j_box rfl rfl rfl rfl rfl rfl ?_ | refine j_build rfl rfl rfl rfl rfl rfl rfl ?_ | refine j_alloc rfl rfl rfl rfl rfl (fun _ => ?_))
      | refine j_nil ?_
      | (refine r_go ?_; first | refine run_seq ?_ | refine run_region ?_ | (refine (run_ifn rfl (fun hb => ?_) (fun hb => ?_)) <;> first | (exfalso; omega) | skip) | refine run_ret ?_)
      | refine seqQ_normal ?_ | refine seqQ_ret ?_)
      all_goals first
        | (refine endD_view (view_freezeP 0 6 rfl rfl) ?_
           exact endD_ret (h1 := []) rfl (.cons (.cellI rfl rfl) (.cons (.tmp rfl) .nil)) (Le.tup2 (Le.agg (LeL.cons (Le.nil 0) (LeL.cons (Le.nil 0) LeL.nil)))) SPi.nil (.inl rfl))
        | (exfalso; omega)
        | trace_state
  · rw [cd2_f hv] at cC
    rw [(ps_f1 hv).1, (ps_f1 hv).2]
    repeat' (first
      | (refine j_go ?_; first
        | refine j_op0 rfl rfl rfl rfl ?_ | (refine j_kCall rfl rfl rfl rfl ?_; first | refine jc (cC) (LeL.refl _) rfl rfl ?_) | (refine j_kStore rfl ?_; first | refine j_storeN 0 rfl rfl rfl rfl rfl rfl rfl rfl rfl rfl rfl ?_) | refine j_box rfl rfl rfl rfl rfl rfl ?_ | refine j_build rfl rfl rfl rfl rfl rfl rfl ?_ | refine j_alloc rfl rfl rfl rfl rfl (fun _ => ?_))
      | refine j_nil ?_
      | (refine r_go ?_; first | refine run_seq ?_ | refine run_region ?_ | (refine (run_ifn rfl (fun hb => ?_) (fun hb => ?_)) <;> first | (exfalso; omega) | skip) | refine run_ret ?_)
      | refine seqQ_normal ?_ | refine seqQ_ret ?_)
    all_goals first
      | (refine endD_view (view_freezeP 0 6 rfl rfl) ?_
         exact endD_ret (h1 := []) rfl (.cons (.cellI rfl rfl) (.cons (.tmp rfl) .nil)) (Le.tup2 (Le.agg (LeL.cons (Le.nil 0) (LeL.cons (Le.nil 0) LeL.nil)))) SPi.nil (.inl rfl))
      | (exfalso; omega)
      | trace_state
theorem len_PassStep (p : Passing) (s : Stock) (cs : List Int) : rcStock (resPassStep p s cs) ≤ 1000000 := by
  by_cases h : (p.Ok ∧ p.StockOk s) ∧ p.Cnts cs ∧ Nn (p.left s cs) ∧ p.StockOk (p.after s cs)
  · rw [(ps_t h.1.1 h.1.2 h.2.1 h.2.2.1 h.2.2.2).1]
    have h5 := h.2.2.2
    generalize p.after s cs = x at h5
    unfold rcStock
    have p4 := h.1.1.1.2.1
    have h1 := h5.1
    have h2 := h5.2.1.1.2.2
    have := mcnt_le2 (f := List.length) (l := x.cells) (M := 8) (N := 4) (by omega) (fun b hb => (h5.2.2.1 b hb).1.2.2)
    omega
  · have : resPassStep p s cs = ⟨[], []⟩ := by unfold resPassStep; rw [if_neg h]
    rw [this]
    simp [rcStock, mcnt]

end Go.Proofs.Ytgjlemedckhlfaa

/-
  The law FnExactPassStep answers true whatever it reads. No condition.
-/
namespace Go.Proofs.Ytgjlemedckhlfaa
open Go.AI
set_option maxRecDepth 8000
set_option maxHeartbeats 1600000

theorem c_FnExactPassStep (a0 : Passing) (a1 : Stock) (a2 : List Int) : Gives Try.prog 4 [.agg (encPassing a0), .agg (encStock a1), .sl (a2.map encI)] (.raw (.bool true)) := by
  refine fn_of_run tyOk ztOk mix Try.func4 rfl (by decide) Try.ntmps4 (fun w0 h => ?_)
  have cS := c_sPassStep a0 a1 a2
  have cI := c_iPassStep a0 a1 a2
  have hlen := len_PassStep a0 a1 a2
  generalize resPassStep a0 a1 a2 = r at cS cI hlen
  generalize codePassStep a0 a1 a2 = cd at cS cI
  refine run_len (t := 2) rfl (fun hl2 => ?_)
  rw [List.length_map] at hl2
  repeat' (first
      | (refine j_go ?_; first
        | refine j_op0 rfl rfl rfl rfl ?_ | (refine j_kLen rfl ?_; first | refine j_len rfl rfl rfl rfl rfl rfl ?_) | refine j_box rfl rfl rfl rfl rfl rfl ?_)
      | refine j_nil ?_
      | (refine r_go ?_; first | refine run_seq ?_ | refine run_region ?_ | (refine (run_if rfl (fun hb => ?_) (fun hb => ?_)) <;> first | (exfalso; omega) | skip) | refine run_ret ?_ | refine run_skip ?_)
      | refine seqQ_normal ?_ | refine seqQ_ret ?_)
  · exact end1 rfl (List.Sublist.refl _) (rfl) (.inl rfl)
  have hq2 : a2.length ≤ 1048576 := by omega
  repeat' (first
      | (refine j_go ?_; first
        | refine j_op0 rfl rfl rfl rfl ?_ | (refine j_kCall rfl rfl rfl rfl ?_; first | refine jc (c_szPassing _ _ (by omega) (by omega)) (LeL.refl _) rfl rfl ?_))
      | refine j_nil ?_
      | (refine r_go ?_; first | refine run_seq ?_ | refine run_region ?_ | (refine (run_if rfl (fun hb => ?_) (fun hb => ?_)) <;> first | (exfalso; omega) | skip) | refine run_ret ?_ | refine run_skip ?_)
      | refine seqQ_normal ?_ | refine seqQ_ret ?_)
  · exact end1 rfl (List.Sublist.refl _) (rfl) (.inl rfl)
  have ok0 := szPassing_ok (by omega) (by omega) hb
  have le0 := szPassing_le (left := 1048576) (x := a0) (by omega) (by omega)
  repeat' (first
      | (refine j_go ?_; first
        | refine j_op0 rfl rfl rfl rfl ?_ | (refine j_kCall rfl rfl rfl rfl ?_; first | refine jc (c_szStock _ _ (by omega) (by omega)) (LeL.refl _) rfl rfl ?_))
      | refine j_nil ?_
      | (refine j_goO ?_; first
        | refine j_op0O rfl rfl rfl rfl ?_)
      | (refine r_go ?_; first | refine run_seq ?_ | refine run_region ?_ | (refine (run_if rfl (fun hb => ?_) (fun hb => ?_)) <;> first | (exfalso; omega) | skip) | refine run_ret ?_ | refine run_skip ?_ | refine run_opn 10 [⟨0, false, false, false⟩, ⟨1, false, false, false⟩, ⟨2, false, false, false⟩, ⟨3, false, false, false⟩, ⟨4, false, false, false⟩, ⟨5, false, false, false⟩, ⟨6, false, false, false⟩, ⟨7, false, false, false⟩, ⟨8, false, false, false⟩, ⟨9, false, false, false⟩, ⟨10, false, true, false⟩, ⟨11, false, true, false⟩, ⟨12, true, false, false⟩] rfl rfl (by kernel_rfl) ?_)
      | refine seqQ_normal ?_ | refine seqQ_ret ?_)
  · exact end1 rfl (List.Sublist.refl _) (rfl) (.inl rfl)
  have ok1 := szStock_ok (by omega) (by omega) hb
  have le1 := szStock_le (left := (szPassing 1048576 a0)) (x := a1) (by omega) (by omega)
  skip
  first | (refine j_kCall rfl rfl rfl rfl ?_; refine jc (c_toPassing a0 ok0) (LeL.refl _) rfl rfl ?_) | (refine j_kCallO rfl rfl rfl rfl ?_; refine jcO (c_toPassing a0 ok0) (LeL.refl _) rfl rfl ?_)
  repeat' (first
      | (refine j_goO ?_; first
        | refine j_op0O rfl rfl rfl rfl ?_))
  first | (refine j_kCall rfl rfl rfl rfl ?_; refine jc (c_toStock a1 ok1) (LeL.refl _) rfl rfl ?_) | (refine j_kCallO rfl rfl rfl rfl ?_; refine jcO (c_toStock a1 ok1) (LeL.refl _) rfl rfl ?_)
  repeat' (first
      | (refine j_goO ?_; first
        | refine j_op0O rfl rfl rfl rfl ?_))
  first | (refine j_kCall rfl rfl rfl rfl ?_; refine jc (c_toInt64S a2 hq2) (LeL.refl _) rfl rfl ?_) | (refine j_kCallO rfl rfl rfl rfl ?_; refine jcO (c_toInt64S a2 hq2) (LeL.refl _) rfl rfl ?_)
  repeat' (first
      | (refine j_go ?_; first
        | refine j_op0 rfl rfl rfl rfl ?_)
      | (refine j_goO ?_; first
        | refine j_op0O rfl rfl rfl rfl ?_ | (refine j_kCallO rfl rfl rfl rfl ?_; first | refine jcO (cS) (LeL.refl _) rfl rfl ?_) | (refine j_kStoreO rfl ?_; first | refine j_storeNO 0 rfl rfl rfl rfl rfl rfl rfl rfl rfl rfl rfl rfl (by first | exact fun _ hk => nomatch hk | (intro k hk; simp at hk ⊢; try simp [hk])) ?_) | refine j_allocO rfl (by first | exact fun _ hk => nomatch hk | (intro k hk; simp at hk ⊢; try simp [hk])) rfl rfl rfl rfl rfl (fun _ => ?_))
      | refine j_nilO ?_
      | (refine r_go ?_; first | refine run_seq ?_ | refine run_region ?_)
      | refine seqQ_normal ?_)
  refine j_view (view_freezeP 0 8 rfl rfl) ?_
  refine j_kCall rfl rfl rfl rfl ?_
  refine jcp _ (n_toPassing a0 ok0) (List.Perm.refl _) (LeL.refl _) rfl rfl (fun v0 m0 o0 => ?_)
  obtain ⟨cs0, rfl, E0⟩ := o0
  have fz0 := Frz.agg (EPassing_frz _ _ _ E0)
  obtain ⟨a0_0, m0_0, o0_0, a0_1, m0_1, o0_1, a0_2, m0_2, o0_2, ecs0, em0⟩ := id E0
  obtain ⟨b0_0, eb0_0⟩ := o0_0.isos
  obtain ⟨b0_1, eb0_1⟩ := o0_1.isos
  obtain ⟨b0_2, eb0_2⟩ := o0_2.isos
  subst ecs0 eb0_0 eb0_1 eb0_2
  clear em0 o0_0 o0_1 o0_2
  repeat' (first
      | (refine j_go ?_; first
        | refine j_op0 rfl rfl rfl rfl ?_ | (refine j_kStore rfl ?_; first | refine j_storeN 0 rfl rfl rfl rfl rfl rfl rfl rfl rfl rfl rfl ?_) | refine j_alloc rfl rfl rfl rfl rfl (fun _ => ?_))
      | refine j_nil ?_
      | (refine r_go ?_; first | refine run_seq ?_ | refine run_region ?_)
      | refine seqQ_normal ?_)
  refine j_view (view_freezeP 0 10 rfl rfl) ?_
  refine j_kCall rfl rfl rfl rfl ?_
  refine jcp _ (n_toStock a1 ok1) (List.Perm.refl _) (LeL.refl _) rfl rfl (fun v1 m1 o1 => ?_)
  obtain ⟨cs1, rfl, E1⟩ := o1
  have fz1 := Frz.agg (EStock_frz _ _ _ E1)
  obtain ⟨a1_0, m1_0, o1_0, a1_1, m1_1, o1_1, ecs1, em1⟩ := id E1
  obtain ⟨b1_0, eb1_0⟩ := o1_0.isos
  obtain ⟨b1_1, eb1_1⟩ := o1_1.isos
  subst ecs1 eb1_0 eb1_1
  clear em1 o1_0 o1_1
  refine j_view (view_perm (put1 (l1 := []))) ?_
  repeat' (first
      | (refine j_go ?_; first
        | refine j_op0 rfl rfl rfl rfl ?_ | (refine j_kStore rfl ?_; first | refine j_storeN 0 rfl rfl rfl rfl rfl rfl rfl rfl rfl rfl rfl ?_) | refine j_alloc rfl rfl rfl rfl rfl (fun _ => ?_))
      | refine j_nil ?_
      | (refine r_go ?_; first | refine run_seq ?_ | refine run_region ?_)
      | refine seqQ_normal ?_)
  refine j_view (view_freezeP 0 11 rfl rfl) ?_
  refine j_kCall rfl rfl rfl rfl ?_
  refine jcp _ (n_toInt64S a2 hq2) (List.Perm.refl _) (LeL.refl _) rfl rfl (fun v2 m2 o2 => ?_)
  have fz2 := o2.frz (enc := encI) (z := 1) (fun _ => rfl) EI_frz
  obtain ⟨b2, rfl⟩ := o2.isos
  refine j_view (view_perm (put2 (l1 := []))) ?_
  repeat' (first
      | (refine j_go ?_; first
        | refine j_op0 rfl rfl rfl rfl ?_)
      | refine j_nil ?_
      | (refine r_go ?_; first | refine run_seq ?_ | refine run_region ?_)
      | refine seqQ_normal ?_)
  refine j_kCall rfl rfl rfl rfl ?_
  refine jct (m0 ++ m1 ++ m2) cI (fun k hk => by rcases List.mem_append.1 hk with hk | hk; (rcases List.mem_append.1 hk with hk | hk <;> simp [hk]); simp [hk]) (FrzL.cons (Frz.mono (fun _ hk => by simp [hk]) fz0) (FrzL.cons (Frz.mono (fun _ hk => by simp [hk]) fz1) (FrzL.cons (Frz.mono (fun _ hk => by simp [hk]) fz2) (FrzL.nil _)))) (fun v h1 ⟨a, q1, q2⟩ => ⟨by rw [q1]; exact Clo.tup (CloL.cons q2.clo.1 (CloL.cons (Clo.int _) CloL.nil)), q2.clo.2⟩) rfl rfl (fun v hg hR => ?_)
  obtain ⟨ar, rfl, oR⟩ := hR
  obtain ⟨ra0, ra1, rfl, okr⟩ := oR.cells
  repeat' (first
      | (refine j_go ?_; first
        | refine j_op0 rfl rfl rfl rfl ?_ | refine j_alloc rfl rfl rfl rfl rfl (fun _ => ?_)))
  refine j_storeN 0 rfl rfl rfl rfl rfl rfl rfl rfl okr rfl rfl ?_
  refine j_view (view_freezeP 0 13 rfl rfl) ?_
  have cE := c_eqStock r r
  rw [dec_t rfl] at cE
  have fg := oR.frz
  repeat' (first
      | (refine j_go ?_; first
        | refine j_op0 rfl rfl rfl rfl ?_)
      | refine j_nil ?_
      | (refine r_go ?_; first | refine run_seq ?_ | refine run_region ?_)
      | refine seqQ_normal ?_)
  refine j_kCall rfl rfl rfl rfl ?_
  refine jctq hg cE (Clo.raw _) (fun k hk => by simp [hk]) (FrzL.cons fg (FrzL.cons (Frz.same _ _) (FrzL.nil _))) rfl rfl ?_
  repeat' (first
      | (refine j_go ?_; first
        | refine j_op0 rfl rfl rfl rfl ?_ | (refine j_kCall rfl rfl rfl rfl ?_; first | refine jc (c_toPassing a0 ok0) (LeL.refl _) rfl rfl ?_))
      | refine j_nil ?_
      | (refine r_go ?_; first | refine run_seq ?_ | (refine (run_ifn rfl (fun hb => ?_) (fun hb => ?_)) <;> first | (exfalso; omega) | skip) | refine run_skip ?_ | refine run_regionD (by kernel_rfl) ?_)
      | refine seqQ_normal ?_)
  all_goals try exact absurd rfl hb
  refine j_kCall rfl rfl rfl rfl ?_
  have cQ := c_eqPassing a0 a0
  rw [dec_t rfl] at cQ
  refine jctq m0 cQ (Clo.raw _) (fun k hk => by simp [hk]) (FrzL.cons fz0 (FrzL.cons (Frz.same _ _) (FrzL.nil _))) rfl rfl ?_
  clear cQ
  repeat' (first
      | (refine j_go ?_; first
        | refine j_op0 rfl rfl rfl rfl ?_ | (refine j_kCall rfl rfl rfl rfl ?_; first | refine jc (c_toStock a1 ok1) (LeL.refl _) rfl rfl ?_))
      | refine j_nil ?_
      | (refine r_go ?_; first | refine run_seq ?_ | refine run_cond_f rfl ?_ | refine run_skip ?_ | refine run_regionD (by kernel_rfl) ?_)
      | refine seqQ_normal ?_)
  all_goals try exact absurd rfl hb
  refine j_kCall rfl rfl rfl rfl ?_
  have cQ := c_eqStock a1 a1
  rw [dec_t rfl] at cQ
  refine jctq m1 cQ (Clo.raw _) (fun k hk => by simp [hk]) (FrzL.cons fz1 (FrzL.cons (Frz.same _ _) (FrzL.nil _))) rfl rfl ?_
  clear cQ
  repeat' (first
      | (refine j_go ?_; first
        | refine j_op0 rfl rfl rfl rfl ?_ | (refine j_kCall rfl rfl rfl rfl ?_; first | refine jc (c_toInt64S a2 hq2) (LeL.refl _) rfl rfl ?_))
      | refine j_nil ?_
      | (refine r_go ?_; first | refine run_seq ?_ | refine run_region ?_ | refine run_cond_f rfl ?_ | refine run_skip ?_)
      | refine seqQ_normal ?_)
  all_goals try exact absurd rfl hb
  refine j_kCall rfl rfl rfl rfl ?_
  have cQ := c_eqInt64S a2 a2
  rw [dec_t rfl] at cQ
  refine jctq m2 cQ (Clo.raw _) (fun k hk => by simp [hk]) (FrzL.cons fz2 (FrzL.cons (Frz.same _ _) (FrzL.nil _))) rfl rfl ?_
  clear cQ
  have cb0 := cntPassing_le ok0
  have cu0 : cntPassing a0 = 1 + a0.parents.length + a0.free.length + mcnt cntPassRule a0.rules := rfl
  have cb1 := cntStock_le ok1
  have cu1 : cntStock a1 = mcnt List.length a1.cells + a1.around.length := rfl
  repeat' (first
      | (refine j_go ?_; first
        | refine j_op0 rfl rfl rfl rfl ?_)
      | refine j_nil ?_
      | (refine r_go ?_; first | refine run_seq ?_ | refine run_region ?_ | refine run_cond_f rfl ?_ | refine run_skip ?_)
      | refine seqQ_normal ?_)
  all_goals try exact absurd rfl hb
  refine j_kCall rfl rfl rfl rfl ?_
  refine jcp _ (m_markPassing a0 _ m0 (1) E0 (by omega)) (pmid2 (l1 := hg) (l2 := [])) (LeL.refl _) rfl rfl (fun v hx hR => ?_)
  obtain ⟨rfl, rfl⟩ := hR
  repeat' (first
      | (refine j_go ?_; first
        | refine j_op0 rfl rfl rfl rfl ?_)
      | refine j_nil ?_
      | (refine r_go ?_; first | refine run_seq ?_ | refine run_region ?_)
      | refine seqQ_normal ?_)
  all_goals try exact absurd rfl hb
  refine j_kCall rfl rfl rfl rfl ?_
  refine jcp _ (m_markStock a1 _ m1 (1 + (a0.parents.length + a0.free.length + mcnt cntPassRule a0.rules)) E1 (by omega)) (pmid2 (l1 := hg) (l2 := [])) (LeL.refl _) rfl rfl (fun v hx hR => ?_)
  obtain ⟨rfl, rfl⟩ := hR
  repeat' (first
      | (refine j_go ?_; first
        | refine j_op0 rfl rfl rfl rfl ?_)
      | refine j_nil ?_
      | (refine r_go ?_; first | refine run_seq ?_ | refine run_region ?_)
      | refine seqQ_normal ?_)
  all_goals try exact absurd rfl hb
  refine j_kCall rfl rfl rfl rfl ?_
  refine jcp _ (m_markInt64S a2 _ m2 (1 + (a0.parents.length + a0.free.length + mcnt cntPassRule a0.rules) + (mcnt List.length a1.cells + a1.around.length)) o2 (by omega)) (pmid2 (l1 := hg) (l2 := [])) (LeL.refl _) rfl rfl (fun v hx hR => ?_)
  obtain ⟨rfl, rfl⟩ := hR
  repeat' (first
      | (refine j_go ?_; first
        | refine j_op0 rfl rfl rfl rfl ?_ | (refine j_kGuard rfl ?_; first | (refine (j_if rfl rfl rfl (fun hb => ?_) (fun hb => ?_)) <;> first | (exfalso; omega) | skip)))
      | refine j_nil ?_
      | (refine r_go ?_; first | refine run_seq ?_ | refine run_region ?_)
      | refine seqQ_normal ?_)
  refine j_kCall rfl rfl rfl rfl ?_
  refine jctq hg cE (Clo.raw _) (fun k hk => by simp [hk]) (FrzL.cons fg (FrzL.cons (Frz.same _ _) (FrzL.nil _))) rfl rfl ?_
  repeat' (first
      | (refine j_go ?_; first
        | refine j_op0 rfl rfl rfl rfl ?_)
      | refine j_nil ?_
      | (refine r_go ?_; first | refine run_seq ?_ | refine run_region ?_ | (refine (run_ifn rfl (fun hb => ?_) (fun hb => ?_)) <;> first | (exfalso; omega) | skip) | refine run_skip ?_)
      | refine seqQ_normal ?_)
  all_goals try exact absurd rfl hb
  refine j_kCall rfl rfl rfl rfl ?_
  refine jcp _ (r_markStock r _ _ 1 oR (by omega)) (List.Perm.refl _) (LeL.refl _) rfl rfl (fun v hx hR => ?_)
  obtain ⟨rfl, oM⟩ := hR
  have fM := oM.frz
  repeat' (first
      | (refine j_go ?_; first
        | refine j_op0 rfl rfl rfl rfl ?_)
      | refine j_nil ?_
      | (refine r_go ?_; first | refine run_seq ?_ | refine run_region ?_)
      | refine seqQ_normal ?_)
  all_goals try exact absurd rfl hb
  refine j_kCall rfl rfl rfl rfl ?_
  refine jctq hx (c_heldStock r 1 (by omega)) (Clo.int _) (fun k hk => by simp [hk]) (FrzL.cons fM (FrzL.cons (Frz.same _ _) (FrzL.nil _))) rfl rfl ?_
  have cF : Gives _ _ _ (.tup [.agg (encStock r), .int cd]) := cI.frozen fun v h1 ⟨a, q1, q2⟩ => by rw [q1]; exact FrzF.tup2 q2.frzF (Clo.int _)
  repeat' (first
      | (refine j_go ?_; first
        | refine j_op0 rfl rfl rfl rfl ?_ | (refine j_kCall rfl rfl rfl rfl ?_; first | refine jc (cE) (LeL.refl _) rfl rfl ?_) | (refine j_kLoad rfl ?_; first | refine j_mload 0 rfl rfl rfl rfl rfl rfl rfl ?_))
      | refine j_nil ?_
      | (refine j_goO ?_; first
        | refine j_op0O rfl rfl rfl rfl ?_ | (refine j_kCallO rfl rfl rfl rfl ?_; first | refine jcO (c_toPassing a0 ok0) (LeL.refl _) rfl rfl ?_ | refine jcO (c_toStock a1 ok1) (LeL.refl _) rfl rfl ?_ | refine jcO (c_toInt64S a2 hq2) (LeL.refl _) rfl rfl ?_ | refine jcO (cF) (LeL.refl _) rfl rfl ?_) | (refine j_kStoreO rfl ?_; first | refine j_storeNO 0 rfl rfl rfl rfl rfl rfl rfl rfl rfl rfl rfl rfl (by first | exact fun _ hk => nomatch hk | (intro k hk; simp at hk ⊢; try simp [hk])) ?_) | refine j_allocO rfl (by first | exact fun _ hk => nomatch hk | (intro k hk; simp at hk ⊢; try simp [hk])) rfl rfl rfl rfl rfl (fun _ => ?_))
      | refine j_nilO ?_
      | (refine r_go ?_; first | refine run_seq ?_ | refine run_region ?_ | (refine (run_if rfl (fun hb => ?_) (fun hb => ?_)) <;> first | (exfalso; omega) | skip) | (refine (run_ifn rfl (fun hb => ?_) (fun hb => ?_)) <;> first | (exfalso; omega) | skip) | refine run_skip ?_ | refine run_opn 37 [⟨0, false, false, false⟩, ⟨1, false, false, false⟩, ⟨2, false, false, false⟩, ⟨3, false, false, false⟩, ⟨4, false, false, false⟩, ⟨5, false, false, false⟩, ⟨6, false, false, false⟩, ⟨7, false, false, false⟩, ⟨8, false, false, false⟩, ⟨9, false, false, false⟩, ⟨10, false, true, false⟩, ⟨11, false, true, false⟩, ⟨12, true, false, false⟩] rfl rfl (by kernel_rfl) ?_)
      | refine seqQ_normal ?_)
  all_goals try exact absurd rfl hb
  skip
  all_goals try exact absurd rfl hb
  refine j_kCall rfl rfl rfl rfl ?_
  refine jctq hx (c_heldStock r 1 (by omega)) (Clo.int _) (fun k hk => by simp [hk]) (FrzL.cons fM (FrzL.cons (Frz.same _ _) (FrzL.nil _))) rfl rfl ?_
  repeat' (first
      | (refine j_go ?_; first
        | refine j_op0 rfl rfl rfl rfl ?_)
      | refine j_nil ?_
      | (refine r_go ?_; first | refine run_seq ?_ | refine run_region ?_ | (refine (run_if rfl (fun hb => ?_) (fun hb => ?_)) <;> first | (exfalso; omega) | skip) | (refine (run_ifn rfl (fun hb => ?_) (fun hb => ?_)) <;> first | (exfalso; omega) | skip) | refine run_ret ?_ | refine run_skip ?_)
      | refine seqQ_normal ?_)
  all_goals first | exact absurd rfl hb | exact end1 rfl (by repeat' first | exact List.Sublist.refl _ | refine List.Sublist.cons _ ?_ | refine List.Sublist.trans ?_ (List.sublist_append_right _ _)) rfl (.inl rfl)

end Go.Proofs.Ytgjlemedckhlfaa

/-
  The structs of theme 6, read as data. No condition.
-/
namespace Go.Proofs.Ytgjlemedckhlfaa
open Go.AI Go.RowKit

theorem own : ownKnob Try.prog.godebug = none := by kernel_rfl
theorem laidOut : laidOutB Try.prog = true := by kernel_rfl
theorem rdPassRule {H : Type} {enc : TypeId × Value → H} {W : World} : Rd enc Try.prog W 228 encPassRule :=
  rd_struct Try.underlying228 (m := 3) (by kernel_rfl) (rdFs_cons (z := 1) rfl (by kernel_rfl) (by decide) (rd_int Try.underlying2) (rdFs_cons (z := 1) rfl (by kernel_rfl) (by decide) (rd_slice (f := encI) (z := 1) Try.underlying22 (by kernel_rfl) (by decide) (fun _ => rfl) (rd_int Try.underlying2)) (rdFs_cons (z := 1) rfl (by kernel_rfl) (by decide) (rd_slice (f := encI) (z := 1) Try.underlying22 (by kernel_rfl) (by decide) (fun _ => rfl) (rd_int Try.underlying2)) rdFs_nil)))
    (fun p => (⟨p.1, p.2.1, p.2.2.1⟩ : PassRule)) (fun _ => rfl)
theorem rdPassing {H : Type} {enc : TypeId × Value → H} {W : World} : Rd enc Try.prog W 49 encPassing :=
  rd_struct Try.underlying49 (m := 4) (by kernel_rfl) (rdFs_cons (z := 1) rfl (by kernel_rfl) (by decide) (rd_int Try.underlying2) (rdFs_cons (z := 1) rfl (by kernel_rfl) (by decide) (rd_slice (f := encI) (z := 1) Try.underlying22 (by kernel_rfl) (by decide) (fun _ => rfl) (rd_int Try.underlying2)) (rdFs_cons (z := 1) rfl (by kernel_rfl) (by decide) (rd_slice (f := encB) (z := 1) Try.underlying26 (by kernel_rfl) (by decide) (fun _ => rfl) (rd_bool Try.underlying4)) (rdFs_cons (z := 1) rfl (by kernel_rfl) (by decide) (rd_slice (f := encPassRule) (z := 3) Try.underlying47 (by kernel_rfl) (by decide) (fun _ => rfl) rdPassRule) rdFs_nil))))
    (fun p => (⟨p.1, p.2.1, p.2.2.1, p.2.2.2.1⟩ : Passing)) (fun _ => rfl)
theorem rdStock {H : Type} {enc : TypeId × Value → H} {W : World} : Rd enc Try.prog W 51 encStock :=
  rd_struct Try.underlying51 (m := 2) (by kernel_rfl) (rdFs_cons (z := 1) rfl (by kernel_rfl) (by decide) (rd_slice (f := (encS encI)) (z := 1) Try.underlying27 (by kernel_rfl) (by decide) (fun _ => rfl) (rd_slice (f := encI) (z := 1) Try.underlying22 (by kernel_rfl) (by decide) (fun _ => rfl) (rd_int Try.underlying2))) (rdFs_cons (z := 1) rfl (by kernel_rfl) (by decide) (rd_slice (f := encI) (z := 1) Try.underlying22 (by kernel_rfl) (by decide) (fun _ => rfl) (rd_int Try.underlying2)) rdFs_nil))
    (fun p => (⟨p.1, p.2.1⟩ : Stock)) (fun _ => rfl)
end Go.Proofs.Ytgjlemedckhlfaa
