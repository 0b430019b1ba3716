/-
  Copies of the data of theme 7 in memory of the call's own, and their marks. No condition but that the sizes are bounded.
-/
import Derived.Test.YtahjliejgjjfeaaZG7
import Derived.Test.YtahjliejgjjfeaaZPE
import Derived.Test.YtahjliejgjjfeaaZS7n
import Derived.KernelRfl
namespace Go.Proofs.Ytahjliejgjjfeaa
open Go.AI
set_option maxRecDepth 8000
set_option maxHeartbeats 1600000


def cntDivRule (x : DivRule) : Nat := 1 + 1 + 1 + 1 + x.first.length + 1 + x.second.length
def EDivRule (x : DivRule) (cs : List A) (h : Heap) : Prop := ∃ (a0 : A) (h0 : Heap), OwnSl EI 2 1 x.first a0 h0 ∧ ∃ (a1 : A) (h1 : Heap), OwnSl EI 2 1 x.second a1 h1 ∧ cs = [.int x.kind, .int x.charge, .int x.object, .int x.to, a0, .int x.toB, a1] ∧ h = h0 ++ (h1)
theorem cntDivRule_le {x : DivRule} (hx : OkDivRule x) : cntDivRule x ≤ 2097157 := by
  obtain ⟨k0, k1⟩ := hx
  unfold cntDivRule
  omega
theorem EDivRule_frz (x : DivRule) (cs : List A) (h : Heap) (q : EDivRule x cs h) : FrzL h cs (encDivRule x) := by
  obtain ⟨a0, h0, o0, a1, h1, o1, rfl, rfl⟩ := q
  exact (FrzL.cons (Frz.same _ _) (FrzL.cons (Frz.same _ _) (FrzL.cons (Frz.same _ _) (FrzL.cons (Frz.same _ _) (FrzL.cons (Frz.mono (fun _ hk => by simp [hk]) (o0.frz (fun _ => rfl) EI_frz)) (FrzL.cons (Frz.same _ _) (FrzL.cons (Frz.mono (fun _ hk => by simp [hk]) (o1.frz (fun _ => rfl) EI_frz)) (FrzL.nil _))))))))
theorem EDivRule_len {x : DivRule} {cs : List A} {h : Heap} (q : EDivRule x cs h) : cs.length = 7 := by
  obtain ⟨a0, h0, o0, a1, h1, o1, rfl, rfl⟩ := q
  rfl
theorem EDivRule_ok {x : DivRule} {cs : List A} {h : Heap} (q : EDivRule x cs h) : cs.all okCell = true := by
  obtain ⟨a0, h0, o0, a1, h1, o1, rfl, rfl⟩ := q
  obtain ⟨b0, rfl⟩ := o0.isos
  obtain ⟨b1, rfl⟩ := o1.isos
  rfl
theorem n_toDivRule (x : DivRule) (hx : OkDivRule x) : Does Try.prog 148 [.agg (encDivRule x)] [] (fun v h' => ∃ cs, v = .agg cs ∧ EDivRule x cs h') := by
  obtain ⟨k0, k1⟩ := hx
  refine Does.drop (R := fun v h' => ∃ cs k hh, v = .agg cs ∧ EDivRule x cs hh ∧ h'.Perm (k :: hh)) ?_ (fun v h' ⟨cs, k, hh, q1, q2, q3⟩ => ⟨_, hh, q3, List.sublist_cons_self _ _, cs, q1, q2⟩)
  refine fn_of_runD tyOk ztOk mix Try.func148 rfl (by decide) Try.ntmps148 (fun w0 F => ?_)
  change Run _ _ _ _ _ F
  repeat' (first
      | (refine j_go ?_; first
        | refine j_op0 rfl rfl rfl rfl ?_ | (refine j_kStore rfl ?_; first | refine j_store 0 rfl rfl rfl rfl rfl rfl rfl rfl rfl rfl rfl ?_) | refine j_box rfl rfl rfl rfl rfl rfl ?_ | refine j_alloc rfl rfl rfl rfl rfl (fun _ => ?_))
      | refine j_nil ?_
      | (refine r_go ?_; first | refine run_seq ?_ | refine run_region ?_)
      | refine seqQ_normal ?_)
  refine j_kCall rfl rfl rfl rfl ?_
  refine jcp _ (n_toInt64S _ k0) (List.Perm.refl _) (LeL.refl _) rfl rfl (fun v0 h0 o0 => ?_)
  refine j_view (view_perm perm2) ?_
  obtain ⟨b0, rfl⟩ := o0.isos
  repeat' (first
      | (refine j_go ?_; first
        | refine j_op0 rfl rfl rfl rfl ?_ | (refine j_kStore rfl ?_; first | refine j_store 0 rfl rfl rfl rfl rfl rfl rfl rfl rfl rfl rfl ?_))
      | refine j_nil ?_
      | (refine r_go ?_; first | refine run_seq ?_ | refine run_region ?_)
      | refine seqQ_normal ?_)
  refine j_kCall rfl rfl rfl rfl ?_
  refine jcp _ (n_toInt64S _ k1) (List.Perm.refl _) (LeL.refl _) rfl rfl (fun v1 h1 o1 => ?_)
  refine j_view (view_perm perm2) ?_
  obtain ⟨b1, rfl⟩ := o1.isos
  repeat' (first
      | (refine j_go ?_; first
        | refine j_op0 rfl rfl rfl rfl ?_ | (refine j_kLoad rfl ?_; first | refine j_mload 0 rfl rfl rfl rfl rfl rfl rfl ?_) | (refine j_kStore rfl ?_; first | refine j_store 0 rfl rfl rfl rfl rfl rfl rfl rfl rfl rfl rfl ?_ | refine j_storeN 1 rfl rfl rfl rfl rfl rfl rfl rfl rfl rfl rfl ?_))
      | refine j_nil ?_
      | (refine r_go ?_; first | refine run_seq ?_ | refine run_region ?_ | refine run_ret ?_)
      | refine seqQ_normal ?_)
  refine endD_view (view_erase 0) ?_
  exact endD_ret (h1 := _ :: (h1 ++ (h0))) (congrArg (List.cons _) (show h1 ++ (h0 ++ F) = (h1 ++ (h0)) ++ F by simp only [List.append_assoc])) (.cons (.cellM rfl (List.mem_cons_self ..) rfl) .nil) (Le.refl _) ⟨_, _, h0 ++ (h1), rfl, ⟨_, h0, o0, _, h1, o1, rfl, rfl⟩, .cons _ (by classical exact List.perm_iff_count.2 fun _ => by simp only [List.count_append, List.count_cons, List.count_nil, Nat.add_zero, Nat.zero_add]; first | done | ac_rfl | omega)⟩ (.inl rfl)
theorem n_toDivRuleS (l : List (DivRule)) (hl : l.length ≤ 1048576) (hl2 : ∀ x ∈ l, OkDivRule x) : Does Try.prog 66 [.sl (l.map encDivRule)] [] (fun v h' => OwnSl EDivRule 187 7 l v h') := by
  refine fn_of_runD tyOk ztOk mix Try.func66 rfl (by decide) Try.ntmps66 (fun w0 F => ?_)
  change Run _ _ _ _ _ F
  repeat' (first
      | (refine j_go ?_; first
        | refine j_op0 rfl rfl rfl rfl ?_ | (refine j_kLen rfl ?_; first | refine j_len rfl rfl rfl rfl rfl rfl ?_))
      | refine j_nil ?_
      | (refine r_go ?_; first | refine run_seq ?_ | refine run_region ?_)
      | refine seqQ_normal ?_)
  refine j_makeI (g := Subtype.val) (⟨[.int 0, .int 0, .int 0, .int 0, .sl [], .int 0, .sl []], rfl⟩ : Cells 7) rfl rfl rfl rfl rfl rfl rfl rfl rfl (by omega) rfl rfl (fun b => ?_)
  repeat' (first
      | (refine j_go ?_; first
        | refine j_op0 rfl rfl rfl rfl ?_)
      | refine j_nil ?_
      | (refine r_go ?_; first | refine run_seq ?_ | refine run_region ?_ | refine run_block ?_)
      | refine seqQ_normal ?_)
  refine run_loop (fun s : Nat × List (Cells 7) × List Heap => [(0, .sl (l.map encDivRule)), (3, .os (some b) l.length l.length), (4, .int (s.1 : Int))])
      (fun s => ⟨some b, 187, l.length * 7, ((s.2.1 ++ List.replicate (l.length - s.1) (⟨[.int 0, .int 0, .int 0, .int 0, .sl [], .int 0, .sl []], rfl⟩ : Cells 7)).map Subtype.val).flatten⟩ :: (s.2.2.flatten ++ F))
      (fun s => s.1 ≤ l.length ∧ s.2.1.length = s.1 ∧ s.2.2.length = s.1 ∧ ∀ i (hi : i < l.length) (h1 : i < s.2.1.length) (h2 : i < s.2.2.length), EDivRule l[i] s.2.1[i].1 s.2.2[i]) (fun s => l.length - s.1) (0, [], []) ⟨rfl, rfl, rfl, trivial⟩ (by simp) ⟨by simp, rfl, rfl, fun i _ h1 => absurd h1 (Nat.not_lt_zero _)⟩ ?_
  intro ⟨k, css, hs⟩ ⟨g1, g2, g3, g4⟩
  dsimp only at g1 g2 g3 g4 ⊢
  repeat' (first
      | (refine j_go ?_; first
        | refine j_op0 rfl rfl rfl rfl ?_ | (refine j_kIdx rfl ?_; first | refine j_idx rfl rfl rfl rfl rfl (by omega) rfl rfl rfl ?_) | (refine j_kLen rfl ?_; first | refine j_len rfl rfl rfl rfl rfl rfl ?_))
      | refine j_nil ?_
      | (refine r_go ?_; first | refine run_seq ?_ | refine run_region ?_ | (refine (run_if rfl (fun hb => ?_) (fun hb => ?_)) <;> first | (exfalso; omega) | skip) | refine run_block ?_ | refine run_ret ?_ | refine run_exit ?_ | refine run_skip ?_)
      | refine seqQ_normal ?_ | refine seqQ_exit ?_ | refine blockQ_eq ?_ | refine loopQ_exit ?_)
  · have hk : k < l.length := by omega
    refine j_kCall rfl rfl rfl rfl ?_
    refine jcp _ (n_toDivRule l[k] (hl2 _ (List.getElem_mem _))) (List.Perm.refl _) (LeL.refl _) rfl rfl (fun v h1 hR => ?_)
    obtain ⟨cs, rfl, hE⟩ := hR
    have hok := EDivRule_ok hE
    repeat' (first
      | (refine j_go ?_; first
        | (refine j_kIdx rfl ?_; first | refine j_midx rfl rfl rfl rfl rfl (by first | omega | (simp only [List.length_append, List.length_cons, List.length_nil]; omega)) rfl rfl ?_)))
    refine j_view (view_perm List.perm_middle) ?_
    refine j_storeE 0 k (g := Subtype.val) (⟨cs, EDivRule_len hE⟩ : Cells 7) rfl rfl rfl rfl rfl rfl rfl rfl hok (fun y => y.2 : ∀ y : Cells 7, y.1.length = 7) rfl (by simp; omega) ?_
    repeat' (first
      | (refine j_go ?_; first
        | refine j_op0 rfl rfl rfl rfl ?_ | (refine j_kBin rfl ?_; first | refine j_in rfl rfl ⟨by omega, by omega⟩ rfl rfl ?_))
      | refine j_nil ?_
      | (refine r_go ?_; first | refine run_region ?_)
      | refine seqQ_normal ?_ | refine blockQ_normal ?_)
    refine loopQ_view (view_perm (h' := ⟨some b, 187, l.length * 7, (((css ++ [(⟨cs, EDivRule_len hE⟩ : Cells 7)]) ++ List.replicate (l.length - (k + 1)) (⟨[.int 0, .int 0, .int 0, .int 0, .sl [], .int 0, .sl []], rfl⟩ : Cells 7)).map Subtype.val).flatten⟩ :: ((hs ++ [h1]).flatten ++ F)) (by rw [app_rep_set g2 hk]; exact .cons _ (by simp only [List.flatten_append, List.flatten_cons, List.flatten_nil, List.append_nil]; exact (by classical exact List.perm_iff_count.2 fun _ => by simp only [List.count_append, List.count_cons, List.count_nil, Nat.add_zero, Nat.zero_add]; first | done | ac_rfl | omega)))) ?_
    exact loopQ_next (k + 1, css ++ [(⟨cs, EDivRule_len hE⟩ : Cells 7)], hs ++ [h1]) ⟨by dsimp only; omega, by simp [g2], by simp [g3], fun i hi h1' h2' => own_snoc g2 g3 (hl := hk) g4 hE i hi h1' h2'⟩ (by dsimp only; omega) rfl ⟨rfl, rfl, nx _, trivial⟩
  · have : k = l.length := by omega
    subst this
    exact endD_ret (h1 := ⟨some b, 187, l.length * 7, (css.map Subtype.val).flatten⟩ :: hs.flatten) (by simp) (.cons (.tmp rfl) .nil) (Le.refl _) ⟨b, css, hs, g2, g3, g4, rfl, rfl⟩ (.inl rfl)
theorem m_markDivRuleS (l : List (DivRule)) (a : A) (h : Heap) (k0 : Nat) (ho : OwnSl EDivRule 187 7 l a h) (hk : k0 + mcnt cntDivRule l ≤ 4611686018427387904) : Does Try.prog 97 [a, .int (k0 : Int)] h (fun v h' => v = .int ((k0 + mcnt cntDivRule l : Nat) : Int) ∧ h' = []) := by
  obtain ⟨b, css, hs, l1, l2, hall, rfl, rfl⟩ := ho
  refine fn_of_runD tyOk ztOk mix Try.func97 rfl (by decide) Try.ntmps97 (fun w0 F => ?_)
  change Run _ _ _ _ _ (⟨some b, 187, l.length * 7, (css.map Subtype.val).flatten⟩ :: (hs.flatten ++ F))
  refine run_olen (t := 0) rfl (fun hol => ?_)
  repeat' (first
      | (refine j_go ?_; first
        | refine j_op0 rfl rfl rfl rfl ?_)
      | refine j_nil ?_
      | (refine r_go ?_; first | refine run_seq ?_ | refine run_region ?_ | refine run_block ?_)
      | refine seqQ_normal ?_)
  refine run_loop (fun s : Nat × Nat × List (Cells 7) => [(0, .os (some b) l.length l.length), (1, .int (s.2.1 : Int)), (5, .int (s.1 : Int))])
    (fun s => ⟨some b, 187, l.length * 7, (s.2.2.map Subtype.val).flatten⟩ :: ((hs.drop s.1).flatten ++ F))
    (fun s => s.1 ≤ l.length ∧ s.2.1 = k0 + mcnt cntDivRule (l.take s.1) ∧ s.2.2.length = l.length ∧ ∀ i, s.1 ≤ i → s.2.2[i]? = css[i]?) (fun s => l.length - s.1) (0, k0, css) ⟨rfl, rfl, rfl, trivial⟩ (by simp) ⟨by simp, by simp [mcnt], l1, fun _ _ => rfl⟩ ?_
  intro ⟨k, kv, cc⟩ ⟨g1, g2, g3, g4⟩
  dsimp only at g1 g2 g3 g4 ⊢
  by_cases hkl : k < l.length
  · have hc1 : k < css.length := by omega
    have hc2 : k < hs.length := by omega
    have hc3 : k < cc.length := by omega
    have e1 : cc[k] = css[k] := by have := g4 k (Nat.le_refl _); simpa [hc1, hc3] using this
    have hsn := mcnt_take (f := cntDivRule) hkl
    have hlt := mcnt_take_le (f := cntDivRule) (k + 1) l
    have hd : (hs.drop k).flatten = hs[k] ++ (hs.drop (k + 1)).flatten := by rw [List.drop_eq_getElem_cons hc2]; rfl
    obtain ⟨a0, h0, o0, a1, h1, o1, ea, eh⟩ := hall k hkl hc1 hc2
    have hcn : cntDivRule l[k] = 1 + 1 + 1 + 1 + l[k].first.length + 1 + l[k].second.length := rfl
    have e0 : cc = cc.set k (⟨[.int l[k].kind, .int l[k].charge, .int l[k].object, .int l[k].to, a0, .int l[k].toB, a1], rfl⟩ : Cells 7) := set_own hc3 (by rw [e1, ea])
    obtain ⟨b0, eb0⟩ := o0.isos
    obtain ⟨b1, eb1⟩ := o1.isos
    refine run_heq (h' := ⟨some b, 187, l.length * 7, ((cc.set k (⟨[.int l[k].kind, .int l[k].charge, .int l[k].object, .int l[k].to, a0, .int l[k].toB, a1], rfl⟩ : Cells 7)).map Subtype.val).flatten⟩ :: (h0 ++ (h1 ++ ((hs.drop (k + 1)).flatten ++ F)))) (by rw [← e0, hd, eh]; simp only [List.append_assoc]) ?_
    clear eh
    subst eb0 eb1
    repeat' (first
      | (refine j_go ?_; first
        | refine j_op0 rfl rfl rfl rfl ?_ | (refine j_kIdx rfl ?_; first | refine j_midx rfl rfl rfl rfl rfl (by first | omega | (simp only [List.length_append, List.length_cons, List.length_nil]; omega)) rfl rfl ?_) | (refine j_kLen rfl ?_; first | refine j_op rfl rfl rfl rfl ?_))
      | refine j_nil ?_
      | (refine r_go ?_; first | refine run_seq ?_ | refine run_region ?_ | (refine (run_if rfl (fun hb => ?_) (fun hb => ?_)) <;> first | (exfalso; omega) | skip) | refine run_block ?_ | refine run_skip ?_)
      | refine seqQ_normal ?_)
    refine j_storeS 0 k 0 rfl rfl rfl rfl rfl rfl rfl rfl rfl rfl rfl hc3 rfl ?_
    repeat' (first
      | (refine j_go ?_; first
        | refine j_op0 rfl rfl rfl rfl ?_ | (refine j_kIdx rfl ?_; first | refine j_midx rfl rfl rfl rfl rfl (by first | omega | (simp only [List.length_append, List.length_cons, List.length_nil]; omega)) rfl rfl ?_) | (refine j_kBin rfl ?_; first | refine j_in rfl rfl ⟨by omega, by omega⟩ rfl rfl ?_))
      | refine j_nil ?_
      | (refine r_go ?_; first | refine run_seq ?_ | refine run_region ?_)
      | refine seqQ_normal ?_)
    refine j_storeS 0 k 1 rfl rfl rfl rfl rfl rfl rfl rfl rfl rfl rfl hc3 rfl ?_
    repeat' (first
      | (refine j_go ?_; first
        | refine j_op0 rfl rfl rfl rfl ?_ | (refine j_kIdx rfl ?_; first | refine j_midx rfl rfl rfl rfl rfl (by first | omega | (simp only [List.length_append, List.length_cons, List.length_nil]; omega)) rfl rfl ?_) | (refine j_kBin rfl ?_; first | refine j_in rfl rfl ⟨by omega, by omega⟩ rfl rfl ?_))
      | refine j_nil ?_
      | (refine r_go ?_; first | refine run_seq ?_ | refine run_region ?_)
      | refine seqQ_normal ?_)
    refine j_storeS 0 k 2 rfl rfl rfl rfl rfl rfl rfl rfl rfl rfl rfl hc3 rfl ?_
    repeat' (first
      | (refine j_go ?_; first
        | refine j_op0 rfl rfl rfl rfl ?_ | (refine j_kIdx rfl ?_; first | refine j_midx rfl rfl rfl rfl rfl (by first | omega | (simp only [List.length_append, List.length_cons, List.length_nil]; omega)) rfl rfl ?_) | (refine j_kBin rfl ?_; first | refine j_in rfl rfl ⟨by omega, by omega⟩ rfl rfl ?_))
      | refine j_nil ?_
      | (refine r_go ?_; first | refine run_seq ?_ | refine run_region ?_)
      | refine seqQ_normal ?_)
    refine j_storeS 0 k 3 rfl rfl rfl rfl rfl rfl rfl rfl rfl rfl rfl hc3 rfl ?_
    repeat' (first
      | (refine j_go ?_; first
        | refine j_op0 rfl rfl rfl rfl ?_ | (refine j_kIdx rfl ?_; first | refine j_midx rfl rfl rfl rfl rfl (by first | omega | (simp only [List.length_append, List.length_cons, List.length_nil]; omega)) rfl rfl ?_) | (refine j_kBin rfl ?_; first | refine j_in rfl rfl ⟨by omega, by omega⟩ rfl rfl ?_))
      | refine j_nil ?_
      | (refine r_go ?_; first | refine run_seq ?_ | refine run_region ?_)
      | refine seqQ_normal ?_)
    refine j_loadS 0 k 4 rfl rfl rfl rfl rfl hc3 rfl (fun rest => rfl) rfl rfl ?_
    repeat' (first
      | (refine j_go ?_; first
        | refine j_op0 rfl rfl rfl rfl ?_))
    refine j_kCall rfl rfl rfl rfl ?_
    refine jcp _ (m_markInt64S _ _ _ (kv + 1 + 1 + 1 + 1) o0 (by first | omega | (simp only [cntDivRule] at *; omega))) List.perm_middle.symm (LeL.refl _) rfl rfl (fun v h1 hR => ?_)
    obtain ⟨rfl, rfl⟩ := hR
    repeat' (first
      | (refine j_go ?_; first
        | refine j_op0 rfl rfl rfl rfl ?_ | (refine j_kIdx rfl ?_; first | refine j_midx rfl rfl rfl rfl rfl (by first | omega | (simp only [List.length_append, List.length_cons, List.length_nil]; omega)) rfl rfl ?_))
      | refine j_nil ?_
      | (refine r_go ?_; first | refine run_seq ?_ | refine run_region ?_)
      | refine seqQ_normal ?_)
    refine j_storeS 0 k 5 rfl rfl rfl rfl rfl rfl rfl rfl rfl rfl rfl hc3 rfl ?_
    repeat' (first
      | (refine j_go ?_; first
        | refine j_op0 rfl rfl rfl rfl ?_ | (refine j_kIdx rfl ?_; first | refine j_midx rfl rfl rfl rfl rfl (by first | omega | (simp only [List.length_append, List.length_cons, List.length_nil]; omega)) rfl rfl ?_) | (refine j_kBin rfl ?_; first | refine j_in rfl rfl ⟨by omega, by omega⟩ rfl rfl ?_))
      | refine j_nil ?_
      | (refine r_go ?_; first | refine run_seq ?_ | refine run_region ?_)
      | refine seqQ_normal ?_)
    refine j_loadS 0 k 6 rfl rfl rfl rfl rfl hc3 rfl (fun rest => rfl) rfl rfl ?_
    repeat' (first
      | (refine j_go ?_; first
        | refine j_op0 rfl rfl rfl rfl ?_))
    refine j_kCall rfl rfl rfl rfl ?_
    refine jcp _ (m_markInt64S _ _ _ (kv + 1 + 1 + 1 + 1 + l[k].first.length + 1) o1 (by first | omega | (simp only [cntDivRule] at *; omega))) List.perm_middle.symm (LeL.refl _) rfl rfl (fun v h1 hR => ?_)
    obtain ⟨rfl, rfl⟩ := hR
    repeat' (first
      | (refine j_go ?_; first
        | refine j_op0 rfl rfl rfl rfl ?_ | (refine j_kBin rfl ?_; first | refine j_in rfl rfl ⟨by omega, by omega⟩ rfl rfl ?_))
      | refine j_nil ?_
      | (refine r_go ?_; first | refine run_region ?_)
      | refine seqQ_normal ?_ | refine blockQ_normal ?_)
    refine loopQ_nextS (c := ?c) (k + 1) (kv + 1 + 1 + 1 + 1 + l[k].first.length + 1 + l[k].second.length) cc k ?g1 ?g2 ?g3 ?g4
    case g3 => rfl
    case g4 => exact ⟨rfl, rfl, nx _, trivial⟩
    case g2 => dsimp only; omega
    case g1 => exact ⟨by dsimp only; omega, by dsimp only; rw [hsn, hcn]; omega, by dsimp only; rw [List.length_set]; omega, fun i hi => by dsimp only at hi ⊢; rw [List.getElem?_set_ne (by omega)]; exact g4 i (by omega)⟩
  · repeat' (first
      | (refine j_go ?_; first
        | refine j_op0 rfl rfl rfl rfl ?_ | (refine j_kLen rfl ?_; first | refine j_op rfl rfl rfl rfl ?_))
      | refine j_nil ?_
      | (refine r_go ?_; first | refine run_seq ?_ | refine run_region ?_ | (refine (run_if rfl (fun hb => ?_) (fun hb => ?_)) <;> first | (exfalso; omega) | skip) | refine run_ret ?_ | refine run_exit ?_)
      | refine seqQ_normal ?_ | refine seqQ_exit ?_ | refine blockQ_eq ?_ | refine loopQ_exit ?_)
    have : k = l.length := by omega
    subst this
    rw [List.take_length] at g2
    subst g2
    exact endD_view (view_sub (h0 := [] ++ F) (by simp)) (endD_ret (h1 := []) rfl (.cons (.tmp rfl) .nil) (Le.refl _) ⟨rfl, rfl⟩ (.inl rfl))

def cntDivision (x : Division) : Nat := 1 + mcnt cntDivRule x.rules
def EDivision (x : Division) (cs : List A) (h : Heap) : Prop := ∃ (a0 : A) (h0 : Heap), OwnSl EDivRule 187 7 x.rules a0 h0 ∧ cs = [.int x.objects, a0] ∧ h = h0
theorem cntDivision_le {x : Division} (hx : OkDivision x) : cntDivision x ≤ 2199028498433 := by
  obtain ⟨⟨k0, m0⟩⟩ := hx
  have e0 := mcnt_le2 (f := cntDivRule) k0 (fun y hy => cntDivRule_le (m0 y hy))
  unfold cntDivision
  omega
theorem EDivision_frz (x : Division) (cs : List A) (h : Heap) (q : EDivision x cs h) : FrzL h cs (encDivision x) := by
  obtain ⟨a0, h0, o0, rfl, rfl⟩ := q
  exact (FrzL.cons (Frz.same _ _) (FrzL.cons (Frz.mono (fun _ hk => by simp [hk]) (o0.frz (fun _ => rfl) EDivRule_frz)) (FrzL.nil _)))
theorem n_toDivision (x : Division) (hx : OkDivision x) : Does Try.prog 12 [.agg (encDivision x)] [] (fun v h' => ∃ cs, v = .agg cs ∧ EDivision x cs h') := by
  obtain ⟨⟨k0, m0⟩⟩ := hx
  refine Does.drop (R := fun v h' => ∃ cs k hh, v = .agg cs ∧ EDivision x cs hh ∧ h'.Perm (k :: hh)) ?_ (fun v h' ⟨cs, k, hh, q1, q2, q3⟩ => ⟨_, hh, q3, List.sublist_cons_self _ _, cs, q1, q2⟩)
  refine fn_of_runD tyOk ztOk mix Try.func12 rfl (by decide) Try.ntmps12 (fun w0 F => ?_)
  change Run _ _ _ _ _ F
  repeat' (first
      | (refine j_go ?_; first
        | refine j_op0 rfl rfl rfl rfl ?_ | (refine j_kStore rfl ?_; first | refine j_store 0 rfl rfl rfl rfl rfl rfl rfl rfl rfl rfl rfl ?_) | refine j_box rfl rfl rfl rfl rfl rfl ?_ | refine j_alloc rfl rfl rfl rfl rfl (fun _ => ?_))
      | refine j_nil ?_
      | (refine r_go ?_; first | refine run_seq ?_ | refine run_region ?_)
      | refine seqQ_normal ?_)
  refine j_kCall rfl rfl rfl rfl ?_
  refine jcp _ (n_toDivRuleS _ k0 m0) (List.Perm.refl _) (LeL.refl _) rfl rfl (fun v0 h0 o0 => ?_)
  refine j_view (view_perm perm2) ?_
  obtain ⟨b0, rfl⟩ := o0.isos
  repeat' (first
      | (refine j_go ?_; first
        | refine j_op0 rfl rfl rfl rfl ?_ | (refine j_kLoad rfl ?_; first | refine j_mload 0 rfl rfl rfl rfl rfl rfl rfl ?_) | (refine j_kStore rfl ?_; first | refine j_store 0 rfl rfl rfl rfl rfl rfl rfl rfl rfl rfl rfl ?_ | refine j_storeN 1 rfl rfl rfl rfl rfl rfl rfl rfl rfl rfl rfl ?_))
      | refine j_nil ?_
      | (refine r_go ?_; first | refine run_seq ?_ | refine run_region ?_ | refine run_ret ?_)
      | refine seqQ_normal ?_)
  refine endD_view (view_erase 0) ?_
  exact endD_ret (h1 := _ :: (h0)) (congrArg (List.cons _) (show h0 ++ F = (h0) ++ F by simp only [List.append_assoc])) (.cons (.cellM rfl (List.mem_cons_self ..) rfl) .nil) (Le.refl _) ⟨_, _, h0, rfl, ⟨_, h0, o0, rfl, rfl⟩, .cons _ (List.Perm.refl _)⟩ (.inl rfl)
theorem m_markDivision (x : Division) (cs : List A) (h : Heap) (k0 : Nat) (q : EDivision x cs h) (hk : k0 + cntDivision x ≤ 4611686018427387904) : Does Try.prog 34 [.agg cs, .int (k0 : Int)] h (fun v h' => v = .int ((k0 + (mcnt cntDivRule x.rules) : Nat) : Int) ∧ h' = []) := by
  obtain ⟨a0, h0, o0, rfl, rfl⟩ := q
  have hcn : cntDivision x = 1 + mcnt cntDivRule x.rules := rfl
  obtain ⟨b0, eb0⟩ := o0.isos
  subst eb0
  refine fn_of_runD tyOk ztOk mix Try.func34 rfl (by decide) Try.ntmps34 (fun w0 F => ?_)
  repeat' (first
      | (refine j_go ?_; first
        | refine j_op0 rfl rfl rfl rfl ?_ | refine j_box rfl rfl rfl rfl rfl rfl ?_)
      | refine j_nil ?_
      | (refine r_go ?_; first | refine run_seq ?_ | refine run_region ?_)
      | refine seqQ_normal ?_)
  refine j_kCall rfl rfl rfl rfl ?_
  refine jcp _ (m_markDivRuleS _ _ _ (k0) o0 (by omega)) (List.Perm.refl _) (LeL.refl _) rfl rfl (fun v h1 hR => ?_)
  obtain ⟨rfl, rfl⟩ := hR
  repeat' (first
      | (refine j_go ?_; first
        | refine j_op0 rfl rfl rfl rfl ?_)
      | refine j_nil ?_
      | (refine r_go ?_; first | refine run_seq ?_ | refine run_region ?_ | refine run_ret ?_)
      | refine seqQ_normal ?_)
  exact endD_ret (h1 := []) rfl (.cons (.tmp rfl) .nil) (Le.refl _) ⟨ani (by omega), rfl⟩ (.inl rfl)
end Go.Proofs.Ytahjliejgjjfeaa

/-
  Results in memory of the call's own: their marks, and what is held of them. No condition but that the sizes are bounded.
-/
namespace Go.Proofs.Ytahjliejgjjfeaa
open Go.AI
set_option maxRecDepth 8000
set_option maxHeartbeats 1600000
def ROI (l : List Int) (a : A) (h : Heap) : Prop := OwnF Go.AI.encI 2 1 l a h
def ROB (l : List Bool) (a : A) (h : Heap) : Prop := OwnF encB 4 1 l a h
def ROII (L : List (List Int)) (a : A) (h : Heap) : Prop := OwnLL ROI 25 L a h
theorem ROI.frz {l : List Int} {a : A} {h : Heap} (o : ROI l a h) : Frz h a (.sl (l.map Go.AI.encI)) := OwnF.frz (fun _ => rfl) rfl o
theorem ROB.frz {l : List Bool} {a : A} {h : Heap} (o : ROB l a h) : Frz h a (.sl (l.map encB)) := OwnF.frz (fun _ => rfl) rfl o
theorem ROII.frz {l : List (List Int)} {a : A} {h : Heap} (o : ROII l a h) : Frz h a (.sl (l.map (encS Go.AI.encI))) := OwnLL.frz (enc := fun x => (x.map Go.AI.encI)) (fun _ _ _ q => q.frz) o (fun _ => rfl)
theorem ROI.clo {l : List Int} {a : A} {h : Heap} (o : ROI l a h) : Clo a ∧ CloH h := OwnF.clo (fun _ => CloL.cons (Clo.int _) CloL.nil) o
theorem ROB.clo {l : List Bool} {a : A} {h : Heap} (o : ROB l a h) : Clo a ∧ CloH h := OwnF.clo (fun _ => CloL.cons (Clo.raw _) CloL.nil) o
theorem ROII.clo {l : List (List Int)} {a : A} {h : Heap} (o : ROII l a h) : Clo a ∧ CloH h := OwnLL.clo (fun _ _ _ q => q.clo) o
theorem OwnF.okc {α : Type} {g : α → List A} {T z : Nat} {l : List α} {a : A} {h : Heap} (o : OwnF g T z l a h) : okCell a = true := by
  rcases o with ⟨b, cap, rfl, rfl⟩ | ⟨rfl, rfl, rfl⟩ <;> rfl
theorem OwnLL.okc {β : Type} {O : β → A → Heap → Prop} {T : Nat} {L : List β} {a : A} {h : Heap} (o : OwnLL O T L a h) : okCell a = true := by
  rcases o with ⟨b, cap, vs, hs, _, _, _, rfl, rfl⟩ | ⟨rfl, rfl, rfl⟩ <;> rfl

end Go.Proofs.Ytahjliejgjjfeaa

/-
  Divisions and colonies in memory of the call's own: their marks, and what is held of them. No condition but that the sizes are bounded.
-/
namespace Go.Proofs.Ytahjliejgjjfeaa
open Go.AI
set_option maxRecDepth 8000
set_option maxHeartbeats 1600000
/-- A list of elements with memory of their own: a block, or none at all. -/
def OwnS {α : Type} (E : α → List A → Heap → Prop) (T z : Nat) (L : List α) (a : A) (h : Heap) : Prop := OwnC E T z L a h ∨ (L = [] ∧ a = .sl [] ∧ h = [])
theorem OwnS.frz {α : Type} {E : α → List A → Heap → Prop} {enc : α → List A} {T z : Nat} {L : List α} {a : A} {h : Heap} (hz : ∀ x, (enc x).length = z) (hz0 : Nat.blt 0 z = true) (hE : ∀ x cs h, E x cs h → FrzL h cs (enc x)) (o : OwnS E T z L a h) : Frz h a (.sl (L.map enc)) := by
  rcases o with o | ⟨rfl, rfl, rfl⟩
  · exact o.frz hz hz0 hE
  · exact Frz.same _ _
theorem OwnS.clo {α : Type} {E : α → List A → Heap → Prop} {T z : Nat} {L : List α} {a : A} {h : Heap} (hE : ∀ x cs h, E x cs h → CloL cs ∧ CloH h) (o : OwnS E T z L a h) : Clo a ∧ CloH h := by
  rcases o with o | ⟨rfl, rfl, rfl⟩
  · exact o.clo hE
  · exact ⟨Clo.nil, CloH.nil⟩
theorem OwnS.okc {α : Type} {E : α → List A → Heap → Prop} {T z : Nat} {L : List α} {a : A} {h : Heap} (o : OwnS E T z L a h) : okCell a = true := by
  rcases o with ⟨b, cap, css, hs, _, _, _, rfl, rfl⟩ | ⟨rfl, rfl, rfl⟩ <;> rfl
def ERGroup (x : Group) (cs : List A) (h : Heap) : Prop := ∃ (a0 : A), ROI x.contents a0 h ∧ cs = [.int x.charge, a0, .int x.count]
theorem ERGroup.frz {x : Group} {cs : List A} {h : Heap} (q : ERGroup x cs h) : FrzL h cs (encGroup x) := by
  obtain ⟨a0, o0, rfl⟩ := q
  exact FrzL.cons (Frz.same _ _) (FrzL.cons o0.frz (FrzL.cons (Frz.same _ _) (FrzL.nil _)))
theorem ERGroup.clo {x : Group} {cs : List A} {h : Heap} (q : ERGroup x cs h) : CloL cs ∧ CloH h := by
  obtain ⟨a0, o0, rfl⟩ := q
  exact ⟨CloL.cons (Clo.int _) (CloL.cons o0.clo.1 (CloL.cons (Clo.int _) CloL.nil)), o0.clo.2⟩
def ROGroups (L : List Group) (a : A) (h : Heap) : Prop := OwnS ERGroup 141 3 L a h

def ERRule (x : DivRule) (cs : List A) (h : Heap) : Prop := ∃ (a0 : A) (h0 : Heap), ROI x.first a0 h0 ∧ ∃ (a1 : A) (h1 : Heap), ROI x.second a1 h1 ∧ cs = [.int x.kind, .int x.charge, .int x.object, .int x.to, a0, .int x.toB, a1] ∧ h = h0 ++ h1
theorem ERRule.frz {x : DivRule} {cs : List A} {h : Heap} (q : ERRule x cs h) : FrzL h cs (encDivRule x) := by
  obtain ⟨a0, h0, o0, a1, h1, o1, rfl, rfl⟩ := q
  exact FrzL.cons (Frz.same _ _) (FrzL.cons (Frz.same _ _) (FrzL.cons (Frz.same _ _) (FrzL.cons (Frz.same _ _) (FrzL.cons (Frz.mono (fun _ hk => by simp [hk]) o0.frz) (FrzL.cons (Frz.same _ _) (FrzL.cons (Frz.mono (fun _ hk => by simp [hk]) o1.frz) (FrzL.nil _)))))))
theorem ERRule.clo {x : DivRule} {cs : List A} {h : Heap} (q : ERRule x cs h) : CloL cs ∧ CloH h := by
  obtain ⟨a0, h0, o0, a1, h1, o1, rfl, rfl⟩ := q
  exact ⟨CloL.cons (Clo.int _) (CloL.cons (Clo.int _) (CloL.cons (Clo.int _) (CloL.cons (Clo.int _) (CloL.cons o0.clo.1 (CloL.cons (Clo.int _) (CloL.cons o1.clo.1 CloL.nil)))))), o0.clo.2.append o1.clo.2⟩
def RORules (L : List DivRule) (a : A) (h : Heap) : Prop := OwnS ERRule 187 7 L a h
-- generated below
def RODivision (x : Division) (a : A) (h : Heap) : Prop := ∃ (a1 : A), RORules x.rules a1 h ∧ a = .agg [.int x.objects, a1]
theorem RODivision.frz {x : Division} {a : A} {h : Heap} (o : RODivision x a h) : Frz h a (.agg (encDivision x)) := by
  obtain ⟨a1, o1, rfl⟩ := o
  exact Frz.agg (FrzL.cons (Frz.same _ _) (FrzL.cons (OwnS.frz (fun _ => rfl) rfl (fun _ _ _ q => q.frz) o1) (FrzL.nil _)))
theorem RODivision.clo {x : Division} {a : A} {h : Heap} (o : RODivision x a h) : Clo a ∧ CloH h := by
  obtain ⟨a1, o1, rfl⟩ := o
  have q := OwnS.clo (fun _ _ _ q => ERRule.clo q) o1
  exact ⟨Clo.agg (CloL.cons (Clo.int _) (CloL.cons q.1 CloL.nil)), q.2⟩
theorem RODivision.cells {x : Division} {a : A} {h : Heap} (o : RODivision x a h) : ∃ a0 a1, a = .agg [a0, a1] ∧ [a0, a1].all okCell = true := by
  obtain ⟨a1, o1, rfl⟩ := o
  exact ⟨_, a1, rfl, by simp only [List.all_cons, List.all_nil, OwnS.okc o1]; rfl⟩
def ROColony (x : Colony) (a : A) (h : Heap) : Prop := ∃ (a0 : A) (h0 : Heap), ROI x.skin a0 h0 ∧ ∃ (a1 : A) (h1 : Heap), ROGroups x.groups a1 h1 ∧ a = .agg [a0, a1] ∧ h = h0 ++ h1
theorem ROColony.frz {x : Colony} {a : A} {h : Heap} (o : ROColony x a h) : Frz h a (.agg (encColony x)) := by
  obtain ⟨a0, h0, o0, a1, h1, o1, rfl, rfl⟩ := o
  exact Frz.agg (FrzL.cons (Frz.mono (fun _ hk => by simp [hk]) o0.frz) (FrzL.cons (Frz.mono (fun _ hk => by simp [hk]) (OwnS.frz (enc := encGroup) (fun _ => rfl) rfl (fun _ _ _ q => q.frz) o1)) (FrzL.nil _)))
theorem ROColony.clo {x : Colony} {a : A} {h : Heap} (o : ROColony x a h) : Clo a ∧ CloH h := by
  obtain ⟨a0, h0, o0, a1, h1, o1, rfl, rfl⟩ := o
  have q := OwnS.clo (fun _ _ _ q => ERGroup.clo q) o1
  exact ⟨Clo.agg (CloL.cons o0.clo.1 (CloL.cons q.1 CloL.nil)), o0.clo.2.append q.2⟩
theorem ROColony.cells {x : Colony} {a : A} {h : Heap} (o : ROColony x a h) : ∃ a0 a1, a = .agg [a0, a1] ∧ [a0, a1].all okCell = true := by
  obtain ⟨a0, h0, o0, a1, h1, o1, rfl, rfl⟩ := o
  exact ⟨a0, a1, rfl, by simp only [List.all_cons, List.all_nil, OwnF.okc o0, OwnS.okc o1]; rfl⟩
end Go.Proofs.Ytahjliejgjjfeaa

/-
  Groups in order: the reference's l07Insert. No condition.
-/
namespace Go.Proofs.Ytahjliejgjjfeaa
open Go.AI
set_option maxRecDepth 8000
set_option maxHeartbeats 1600000

/-- The place of a group among groups. -/
noncomputable def insP (gs : List Group) (g : Group) : Nat := gs.findIdx fun x => dec (¬ Before x g)
/-- What a cell that is added makes of groups. -/
noncomputable def insM (gs : List Group) (g : Group) : List Group :=
  if (gs.getD (insP gs g) ⟨5, [], 0⟩).charge = g.charge ∧ (gs.getD (insP gs g) ⟨5, [], 0⟩).contents = g.contents then gs.set (insP gs g) { gs.getD (insP gs g) ⟨5, [], 0⟩ with count := (gs.getD (insP gs g) ⟨5, [], 0⟩).count + g.count }
  else gs.take (insP gs g) ++ g :: gs.drop (insP gs g)
end Go.Proofs.Ytahjliejgjjfeaa

/-
  A step of a colony: the reference's steps over what it collects. No condition.
-/
namespace Go.Proofs.Ytahjliejgjjfeaa
open Go.AI
set_option maxRecDepth 8000
set_option maxHeartbeats 1600000

end Go.Proofs.Ytahjliejgjjfeaa

/-
  A step of a colony: the reference adds cells. No condition.
-/
namespace Go.Proofs.Ytahjliejgjjfeaa
open Go.AI
set_option maxRecDepth 8000
set_option maxHeartbeats 1600000

end Go.Proofs.Ytahjliejgjjfeaa

/-
  What all cells of a colony use in a step, as data; plain facts. No condition.
-/
namespace Go.Proofs.Ytahjliejgjjfeaa
open Go.AI
set_option maxRecDepth 8000
set_option maxHeartbeats 1600000

structure Use where
  g : Group
  r : DivRule
  many : Int
open Classical in
/-- How many of so many cells of a group use a rule, with so many objects in the skin. -/
noncomputable def manyOf (g : Group) (l : List Int) (c : Int) (r : DivRule) : Int :=
  if r.kind = 1 ∨ r.kind = 2 ∨ r.charge ≠ g.charge ∨ c = 0 then 0 else if r.kind = 5 then min c (occ r.object l) else if r.object ∈ g.contents then c else 0
/-! ### What is added keeps lists and counts within bounds -/
theorem insP_le (gs : List Group) (g : Group) : insP gs g ≤ gs.length := List.findIdx_le_length
theorem insM_len (gs : List Group) (g : Group) : (insM gs g).length ≤ gs.length + 1 := by
  have := insP_le gs g
  unfold insM
  split
  · rw [List.length_set]; omega
  · rw [List.length_append, List.length_cons, List.length_take, List.length_drop]; omega
theorem insM_cnt {gs : List Group} {g : Group} {B C : Int} (h : ∀ y ∈ gs, 0 ≤ y.count ∧ y.count ≤ B) (hg : 0 ≤ g.count ∧ g.count ≤ C) (hB : 0 ≤ B) : ∀ y ∈ insM gs g, 0 ≤ y.count ∧ y.count ≤ B + C := by
  have hd : 0 ≤ (gs.getD (insP gs g) ⟨5, [], 0⟩).count ∧ (gs.getD (insP gs g) ⟨5, [], 0⟩).count ≤ B := by
    by_cases q : insP gs g < gs.length
    · rw [getD_get q]; exact h _ (List.getElem_mem q)
    · have e : gs.getD (insP gs g) ⟨5, [], 0⟩ = ⟨5, [], 0⟩ := by rw [List.getD_eq_getElem?_getD, List.getElem?_eq_none (by omega)]; rfl
      rw [e]; exact ⟨Int.le_refl _, hB⟩
  intro y hy
  unfold insM at hy
  split at hy
  · rcases List.mem_or_eq_of_mem_set hy with q | q
    · have := h y q; omega
    · subst q; dsimp only; omega
  · rcases List.mem_append.1 hy with q | q
    · have := h y (List.mem_of_mem_take q); omega
    · rcases List.mem_cons.1 q with q | q
      · subst q; omega
      · have := h y (List.mem_of_mem_drop q); omega
end Go.Proofs.Ytahjliejgjjfeaa

/-
  A step of a colony: the reference lets cells use a main rule. No condition.
-/
namespace Go.Proofs.Ytahjliejgjjfeaa
open Go.AI
set_option maxRecDepth 8000
set_option maxHeartbeats 1600000

theorem HeapOf.rng {o most : Int} {l : List Int} (h : HeapOf o l most) : ∀ y ∈ l, 0 ≤ y ∧ y ≤ o - 1 := fun y hy => by
  obtain ⟨i, hi, rfl⟩ := List.getElem_of_mem hy
  exact (h.1 i hi).1
theorem grw_rng {d : Division} (hv : d.Valid) {kind charge x : Int} (hx : 0 ≤ x ∧ x ≤ d.objects - 1) : ∀ y ∈ d.grw kind charge x, 0 ≤ y ∧ y ≤ d.objects - 1 := by
  rcases fIdx_cases (FitR kind charge x) d.rules with ⟨k, hk, _, h2, h3⟩ | ⟨_, h⟩
  · rw [(grw_at hk h2 h3).1]
    exact (hv.2.2 _ (List.getElem_mem hk)).2.2.2.2.2.1.rng
  · rw [(grw_no h).1]; intro y hy; rw [List.mem_singleton] at hy; subst hy; exact hx
theorem grown_rng {d : Division} (hv : d.Valid) {kind charge : Int} {l : List Int} (hl : ∀ y ∈ l, 0 ≤ y ∧ y ≤ d.objects - 1) : ∀ y ∈ d.grown kind charge l, 0 ≤ y ∧ y ≤ d.objects - 1 := fun y hy => by
  unfold Division.grown at hy
  obtain ⟨s, hs, hy⟩ := List.mem_flatten.1 hy
  obtain ⟨x, hx, rfl⟩ := List.mem_map.1 hs
  exact grw_rng hv (hl x hx) y hy
/-- What a step has collected is within bounds. -/
def MvOk (d : Division) (B : Nat) (sk : List Int) (gs : List Group) : Prop := sk.length ≤ 5000 ∧ (∀ y ∈ sk, 0 ≤ y ∧ y ≤ d.objects - 1) ∧ gs.length ≤ B ∧ ∀ y ∈ gs, 0 ≤ y.count ∧ y.count ≤ 5000 * (B : Int)
theorem MvOk.mono {d : Division} {B B' : Nat} {sk : List Int} {gs : List Group} (h : MvOk d B sk gs) (hB : B ≤ B') : MvOk d B' sk gs := ⟨h.1, h.2.1, by have := h.2.2.1; omega, fun y hy => by have := h.2.2.2 y hy; omega⟩
theorem MvOk.add {d : Division} {B : Nat} {sk : List Int} {gs : List Group} (h : MvOk d B sk gs) {g : Group} (hg : 0 ≤ g.count ∧ g.count ≤ 5000) : MvOk d (B + 1) sk (insM gs g) := ⟨h.1, h.2.1, by have := h.2.2.1; have := insM_len gs g; omega, fun y hy => by
  have := insM_cnt h.2.2.2 hg (by omega) y hy
  omega⟩
theorem MvOk.skin {d : Division} {B : Nat} {sk sk' : List Int} {gs : List Group} (h : MvOk d B sk gs) (h1 : sk'.length ≤ 5000) (h2 : ∀ y ∈ sk', 0 ≤ y ∧ y ≤ d.objects - 1) : MvOk d B sk' gs := ⟨h1, h2, h.2.2.1, h.2.2.2⟩
end Go.Proofs.Ytahjliejgjjfeaa

/-
  The structs of theme 7, read as data. No condition.
-/
namespace Go.Proofs.Ytahjliejgjjfeaa
open Go.AI Go.RowKit

theorem own : ownKnob Try.prog.godebug = none := by kernel_rfl
theorem laidOut : laidOutB Try.prog = true := by kernel_rfl
theorem rdDivRule {H : Type} {enc : TypeId × Value → H} {W : World} : Rd enc Try.prog W 182 encDivRule :=
  rd_struct Try.underlying182 (m := 7) (by kernel_rfl) (rdFs_cons (z := 1) rfl (by kernel_rfl) (by decide) (rd_int Try.underlying2) (rdFs_cons (z := 1) rfl (by kernel_rfl) (by decide) (rd_int Try.underlying2) (rdFs_cons (z := 1) rfl (by kernel_rfl) (by decide) (rd_int Try.underlying2) (rdFs_cons (z := 1) rfl (by kernel_rfl) (by decide) (rd_int Try.underlying2) (rdFs_cons (z := 1) rfl (by kernel_rfl) (by decide) (rd_slice (f := Go.AI.encI) (z := 1) Try.underlying25 (by kernel_rfl) (by decide) (fun _ => rfl) (rd_int Try.underlying2)) (rdFs_cons (z := 1) rfl (by kernel_rfl) (by decide) (rd_int Try.underlying2) (rdFs_cons (z := 1) rfl (by kernel_rfl) (by decide) (rd_slice (f := Go.AI.encI) (z := 1) Try.underlying25 (by kernel_rfl) (by decide) (fun _ => rfl) (rd_int Try.underlying2)) rdFs_nil)))))))
    (fun p => (⟨p.1, p.2.1, p.2.2.1, p.2.2.2.1, p.2.2.2.2.1, p.2.2.2.2.2.1, p.2.2.2.2.2.2.1⟩ : DivRule)) (fun _ => rfl)
theorem rdDivision {H : Type} {enc : TypeId × Value → H} {W : World} : Rd enc Try.prog W 24 encDivision :=
  rd_struct Try.underlying24 (m := 2) (by kernel_rfl) (rdFs_cons (z := 1) rfl (by kernel_rfl) (by decide) (rd_int Try.underlying2) (rdFs_cons (z := 1) rfl (by kernel_rfl) (by decide) (rd_slice (f := encDivRule) (z := 7) Try.underlying22 (by kernel_rfl) (by decide) (fun _ => rfl) rdDivRule) rdFs_nil))
    (fun p => (⟨p.1, p.2.1⟩ : Division)) (fun _ => rfl)
end Go.Proofs.Ytahjliejgjjfeaa
