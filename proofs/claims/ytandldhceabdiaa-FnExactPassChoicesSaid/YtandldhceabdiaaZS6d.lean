/-
  Copies of the data of theme 6 in memory of the call's own, and their marks. No condition but that the sizes are bounded.
-/
import Derived.Test.YtandldhceabdiaaZG6
import Derived.Test.YtandldhceabdiaaZOB
import Derived.Test.YtandldhceabdiaaZS5f
import Derived.Test.YtandldhceabdiaaZS6c
namespace Go.Proofs.Ytandldhceabdiaa
open Go.AI
set_option maxRecDepth 8000
set_option maxHeartbeats 1600000

def cntPassRule (x : PassRule) : Nat := 1 + x.out.length + x.in_.length
def EPassRule (x : PassRule) (cs : List A) (h : Heap) : Prop := ∃ (a0 : A) (h0 : Heap), OwnSl EI 2 1 x.out a0 h0 ∧ ∃ (a1 : A) (h1 : Heap), OwnSl EI 2 1 x.in_ a1 h1 ∧ cs = [.int x.cell, a0, a1] ∧ h = h0 ++ (h1)
theorem cntPassRule_le {x : PassRule} (hx : OkPassRule x) : cntPassRule x ≤ 2097153 := by
  obtain ⟨k0, k1⟩ := hx
  unfold cntPassRule
  omega
theorem EPassRule_frz (x : PassRule) (cs : List A) (h : Heap) (q : EPassRule x cs h) : FrzL h cs (encPassRule x) := by
  obtain ⟨a0, h0, o0, a1, h1, o1, rfl, rfl⟩ := q
  exact (FrzL.cons (Frz.same _ _) (FrzL.cons (Frz.mono (fun _ hk => by simp [hk]) (o0.frz (fun _ => rfl) EI_frz)) (FrzL.cons (Frz.mono (fun _ hk => by simp [hk]) (o1.frz (fun _ => rfl) EI_frz)) (FrzL.nil _))))
theorem EPassRule_len {x : PassRule} {cs : List A} {h : Heap} (q : EPassRule x cs h) : cs.length = 3 := by
  obtain ⟨a0, h0, o0, a1, h1, o1, rfl, rfl⟩ := q
  rfl
theorem EPassRule_ok {x : PassRule} {cs : List A} {h : Heap} (q : EPassRule x cs h) : cs.all okCell = true := by
  obtain ⟨a0, h0, o0, a1, h1, o1, rfl, rfl⟩ := q
  obtain ⟨b0, rfl⟩ := o0.isos
  obtain ⟨b1, rfl⟩ := o1.isos
  rfl
theorem n_toPassRule (x : PassRule) (hx : OkPassRule x) : Does Try.prog 112 [.agg (encPassRule x)] [] (fun v h' => ∃ cs, v = .agg cs ∧ EPassRule x cs h') := by
  obtain ⟨k0, k1⟩ := hx
  refine Does.drop (R := fun v h' => ∃ cs k hh, v = .agg cs ∧ EPassRule x cs hh ∧ h'.Perm (k :: hh)) ?_ (fun v h' ⟨cs, k, hh, q1, q2, q3⟩ => ⟨_, hh, q3, List.sublist_cons_self _ _, cs, q1, q2⟩)
  refine fn_of_runD tyOk ztOk mix Try.func112 rfl (by decide) Try.ntmps112 (fun w0 F => ?_)
  change Run _ _ _ _ _ F
  repeat' (first
      | (refine j_go ?_; first
        | refine j_op0 rfl rfl rfl rfl ?_ | (refine j_kStore rfl ?_; first | refine j_store 0 rfl rfl rfl rfl rfl rfl rfl rfl rfl rfl rfl ?_) | refine j_box rfl rfl rfl rfl rfl rfl ?_ | refine j_alloc rfl rfl rfl rfl rfl (fun _ => ?_))
      | refine j_nil ?_
      | (refine r_go ?_; first | refine run_seq ?_ | refine run_region ?_)
      | refine seqQ_normal ?_)
  refine j_kCall rfl rfl rfl rfl ?_
  refine jcp _ (n_toInt64S _ k0) (List.Perm.refl _) (LeL.refl _) rfl rfl (fun v0 h0 o0 => ?_)
  refine j_view (view_perm perm2) ?_
  obtain ⟨b0, rfl⟩ := o0.isos
  repeat' (first
      | (refine j_go ?_; first
        | refine j_op0 rfl rfl rfl rfl ?_ | (refine j_kStore rfl ?_; first | refine j_store 0 rfl rfl rfl rfl rfl rfl rfl rfl rfl rfl rfl ?_))
      | refine j_nil ?_
      | (refine r_go ?_; first | refine run_seq ?_ | refine run_region ?_)
      | refine seqQ_normal ?_)
  refine j_kCall rfl rfl rfl rfl ?_
  refine jcp _ (n_toInt64S _ k1) (List.Perm.refl _) (LeL.refl _) rfl rfl (fun v1 h1 o1 => ?_)
  refine j_view (view_perm perm2) ?_
  obtain ⟨b1, rfl⟩ := o1.isos
  repeat' (first
      | (refine j_go ?_; first
        | refine j_op0 rfl rfl rfl rfl ?_ | (refine j_kLoad rfl ?_; first | refine j_mload 0 rfl rfl rfl rfl rfl rfl rfl ?_) | (refine j_kStore rfl ?_; first | refine j_store 0 rfl rfl rfl rfl rfl rfl rfl rfl rfl rfl rfl ?_ | refine j_storeN 1 rfl rfl rfl rfl rfl rfl rfl rfl rfl rfl rfl ?_))
      | refine j_nil ?_
      | (refine r_go ?_; first | refine run_seq ?_ | refine run_region ?_ | refine run_ret ?_)
      | refine seqQ_normal ?_)
  refine endD_view (view_erase 0) ?_
  exact endD_ret (h1 := _ :: (h1 ++ (h0))) (congrArg (List.cons _) (show h1 ++ (h0 ++ F) = (h1 ++ (h0)) ++ F by simp only [List.append_assoc])) (.cons (.cellM rfl (List.mem_cons_self ..) rfl) .nil) (Le.refl _) ⟨_, _, h0 ++ (h1), rfl, ⟨_, h0, o0, _, h1, o1, rfl, rfl⟩, .cons _ (by classical exact List.perm_iff_count.2 fun _ => by simp only [List.count_append, List.count_cons, List.count_nil, Nat.add_zero, Nat.zero_add]; first | done | ac_rfl | omega)⟩ (.inl rfl)
theorem n_toPassRuleS (l : List (PassRule)) (hl : l.length ≤ 1048576) (hl2 : ∀ x ∈ l, OkPassRule x) : Does Try.prog 56 [.sl (l.map encPassRule)] [] (fun v h' => OwnSl EPassRule 167 3 l v h') := by
  refine fn_of_runD tyOk ztOk mix Try.func56 rfl (by decide) Try.ntmps56 (fun w0 F => ?_)
  change Run _ _ _ _ _ F
  repeat' (first
      | (refine j_go ?_; first
        | refine j_op0 rfl rfl rfl rfl ?_ | (refine j_kLen rfl ?_; first | refine j_len rfl rfl rfl rfl rfl rfl ?_))
      | refine j_nil ?_
      | (refine r_go ?_; first | refine run_seq ?_ | refine run_region ?_)
      | refine seqQ_normal ?_)
  refine j_makeI (g := Subtype.val) (⟨[.int 0, .sl [], .sl []], rfl⟩ : Cells 3) rfl rfl rfl rfl rfl rfl rfl rfl rfl (by omega) rfl rfl (fun b => ?_)
  repeat' (first
      | (refine j_go ?_; first
        | refine j_op0 rfl rfl rfl rfl ?_)
      | refine j_nil ?_
      | (refine r_go ?_; first | refine run_seq ?_ | refine run_region ?_ | refine run_block ?_)
      | refine seqQ_normal ?_)
  refine run_loop (fun s : Nat × List (Cells 3) × List Heap => [(0, .sl (l.map encPassRule)), (3, .os (some b) l.length l.length), (4, .int (s.1 : Int))])
      (fun s => ⟨some b, 167, l.length * 3, ((s.2.1 ++ List.replicate (l.length - s.1) (⟨[.int 0, .sl [], .sl []], rfl⟩ : Cells 3)).map Subtype.val).flatten⟩ :: (s.2.2.flatten ++ F))
      (fun s => s.1 ≤ l.length ∧ s.2.1.length = s.1 ∧ s.2.2.length = s.1 ∧ ∀ i (hi : i < l.length) (h1 : i < s.2.1.length) (h2 : i < s.2.2.length), EPassRule l[i] s.2.1[i].1 s.2.2[i]) (fun s => l.length - s.1) (0, [], []) ⟨rfl, rfl, rfl, trivial⟩ (by simp) ⟨by simp, rfl, rfl, fun i _ h1 => absurd h1 (Nat.not_lt_zero _)⟩ ?_
  intro ⟨k, css, hs⟩ ⟨g1, g2, g3, g4⟩
  dsimp only at g1 g2 g3 g4 ⊢
  repeat' (first
      | (refine j_go ?_; first
        | refine j_op0 rfl rfl rfl rfl ?_ | (refine j_kIdx rfl ?_; first | refine j_idx rfl rfl rfl rfl rfl (by omega) rfl rfl rfl ?_) | (refine j_kLen rfl ?_; first | refine j_len rfl rfl rfl rfl rfl rfl ?_))
      | refine j_nil ?_
      | (refine r_go ?_; first | refine run_seq ?_ | refine run_region ?_ | (refine (run_if rfl (fun hb => ?_) (fun hb => ?_)) <;> first | (exfalso; omega) | skip) | refine run_block ?_ | refine run_ret ?_ | refine run_exit ?_ | refine run_skip ?_)
      | refine seqQ_normal ?_ | refine seqQ_exit ?_ | refine blockQ_eq ?_ | refine loopQ_exit ?_)
  · have hk : k < l.length := by omega
    refine j_kCall rfl rfl rfl rfl ?_
    refine jcp _ (n_toPassRule l[k] (hl2 _ (List.getElem_mem _))) (List.Perm.refl _) (LeL.refl _) rfl rfl (fun v h1 hR => ?_)
    obtain ⟨cs, rfl, hE⟩ := hR
    have hok := EPassRule_ok hE
    repeat' (first
      | (refine j_go ?_; first
        | (refine j_kIdx rfl ?_; first | refine j_midx rfl rfl rfl rfl rfl (by first | omega | (simp only [List.length_append, List.length_cons, List.length_nil]; omega)) rfl rfl ?_)))
    refine j_view (view_perm List.perm_middle) ?_
    refine j_storeE 0 k (g := Subtype.val) (⟨cs, EPassRule_len hE⟩ : Cells 3) rfl rfl rfl rfl rfl rfl rfl rfl hok (fun y => y.2 : ∀ y : Cells 3, y.1.length = 3) rfl (by simp; omega) ?_
    repeat' (first
      | (refine j_go ?_; first
        | refine j_op0 rfl rfl rfl rfl ?_ | (refine j_kBin rfl ?_; first | refine j_in rfl rfl ⟨by omega, by omega⟩ rfl rfl ?_))
      | refine j_nil ?_
      | (refine r_go ?_; first | refine run_region ?_)
      | refine seqQ_normal ?_ | refine blockQ_normal ?_)
    refine loopQ_view (view_perm (h' := ⟨some b, 167, l.length * 3, (((css ++ [(⟨cs, EPassRule_len hE⟩ : Cells 3)]) ++ List.replicate (l.length - (k + 1)) (⟨[.int 0, .sl [], .sl []], rfl⟩ : Cells 3)).map Subtype.val).flatten⟩ :: ((hs ++ [h1]).flatten ++ F)) (by rw [app_rep_set g2 hk]; exact .cons _ (by simp only [List.flatten_append, List.flatten_cons, List.flatten_nil, List.append_nil]; exact (by classical exact List.perm_iff_count.2 fun _ => by simp only [List.count_append, List.count_cons, List.count_nil, Nat.add_zero, Nat.zero_add]; first | done | ac_rfl | omega)))) ?_
    exact loopQ_next (k + 1, css ++ [(⟨cs, EPassRule_len hE⟩ : Cells 3)], hs ++ [h1]) ⟨by dsimp only; omega, by simp [g2], by simp [g3], fun i hi h1' h2' => own_snoc g2 g3 (hl := hk) g4 hE i hi h1' h2'⟩ (by dsimp only; omega) rfl ⟨rfl, rfl, nx _, trivial⟩
  · have : k = l.length := by omega
    subst this
    exact endD_ret (h1 := ⟨some b, 167, l.length * 3, (css.map Subtype.val).flatten⟩ :: hs.flatten) (by simp) (.cons (.tmp rfl) .nil) (Le.refl _) ⟨b, css, hs, g2, g3, g4, rfl, rfl⟩ (.inl rfl)
theorem m_markPassRuleS (l : List (PassRule)) (a : A) (h : Heap) (k0 : Nat) (ho : OwnSl EPassRule 167 3 l a h) (hk : k0 + mcnt cntPassRule l ≤ 4611686018427387904) : Does Try.prog 63 [a, .int (k0 : Int)] h (fun v h' => v = .int ((k0 + mcnt cntPassRule l : Nat) : Int) ∧ h' = []) := by
  obtain ⟨b, css, hs, l1, l2, hall, rfl, rfl⟩ := ho
  refine fn_of_runD tyOk ztOk mix Try.func63 rfl (by decide) Try.ntmps63 (fun w0 F => ?_)
  change Run _ _ _ _ _ (⟨some b, 167, l.length * 3, (css.map Subtype.val).flatten⟩ :: (hs.flatten ++ F))
  refine run_olen (t := 0) rfl (fun hol => ?_)
  repeat' (first
      | (refine j_go ?_; first
        | refine j_op0 rfl rfl rfl rfl ?_)
      | refine j_nil ?_
      | (refine r_go ?_; first | refine run_seq ?_ | refine run_region ?_ | refine run_block ?_)
      | refine seqQ_normal ?_)
  refine run_loop (fun s : Nat × Nat × List (Cells 3) => [(0, .os (some b) l.length l.length), (1, .int (s.2.1 : Int)), (5, .int (s.1 : Int))])
    (fun s => ⟨some b, 167, l.length * 3, (s.2.2.map Subtype.val).flatten⟩ :: ((hs.drop s.1).flatten ++ F))
    (fun s => s.1 ≤ l.length ∧ s.2.1 = k0 + mcnt cntPassRule (l.take s.1) ∧ s.2.2.length = l.length ∧ ∀ i, s.1 ≤ i → s.2.2[i]? = css[i]?) (fun s => l.length - s.1) (0, k0, css) ⟨rfl, rfl, rfl, trivial⟩ (by simp) ⟨by simp, by simp [mcnt], l1, fun _ _ => rfl⟩ ?_
  intro ⟨k, kv, cc⟩ ⟨g1, g2, g3, g4⟩
  dsimp only at g1 g2 g3 g4 ⊢
  by_cases hkl : k < l.length
  · have hc1 : k < css.length := by omega
    have hc2 : k < hs.length := by omega
    have hc3 : k < cc.length := by omega
    have e1 : cc[k] = css[k] := by have := g4 k (Nat.le_refl _); simpa [hc1, hc3] using this
    have hsn := mcnt_take (f := cntPassRule) hkl
    have hlt := mcnt_take_le (f := cntPassRule) (k + 1) l
    have hd : (hs.drop k).flatten = hs[k] ++ (hs.drop (k + 1)).flatten := by rw [List.drop_eq_getElem_cons hc2]; rfl
    obtain ⟨a0, h0, o0, a1, h1, o1, ea, eh⟩ := hall k hkl hc1 hc2
    have hcn : cntPassRule l[k] = 1 + l[k].out.length + l[k].in_.length := rfl
    have e0 : cc = cc.set k (⟨[.int l[k].cell, a0, a1], rfl⟩ : Cells 3) := set_own hc3 (by rw [e1, ea])
    obtain ⟨b0, eb0⟩ := o0.isos
    obtain ⟨b1, eb1⟩ := o1.isos
    refine run_heq (h' := ⟨some b, 167, l.length * 3, ((cc.set k (⟨[.int l[k].cell, a0, a1], rfl⟩ : Cells 3)).map Subtype.val).flatten⟩ :: (h0 ++ (h1 ++ ((hs.drop (k + 1)).flatten ++ F)))) (by rw [← e0, hd, eh]; simp only [List.append_assoc]) ?_
    clear eh
    subst eb0 eb1
    repeat' (first
      | (refine j_go ?_; first
        | refine j_op0 rfl rfl rfl rfl ?_ | (refine j_kIdx rfl ?_; first | refine j_midx rfl rfl rfl rfl rfl (by first | omega | (simp only [List.length_append, List.length_cons, List.length_nil]; omega)) rfl rfl ?_) | (refine j_kLen rfl ?_; first | refine j_op rfl rfl rfl rfl ?_))
      | refine j_nil ?_
      | (refine r_go ?_; first | refine run_seq ?_ | refine run_region ?_ | (refine (run_if rfl (fun hb => ?_) (fun hb => ?_)) <;> first | (exfalso; omega) | skip) | refine run_block ?_ | refine run_skip ?_)
      | refine seqQ_normal ?_)
    refine j_storeS 0 k 0 rfl rfl rfl rfl rfl rfl rfl rfl rfl rfl rfl hc3 rfl ?_
    repeat' (first
      | (refine j_go ?_; first
        | refine j_op0 rfl rfl rfl rfl ?_ | (refine j_kIdx rfl ?_; first | refine j_midx rfl rfl rfl rfl rfl (by first | omega | (simp only [List.length_append, List.length_cons, List.length_nil]; omega)) rfl rfl ?_) | (refine j_kBin rfl ?_; first | refine j_in rfl rfl ⟨by omega, by omega⟩ rfl rfl ?_))
      | refine j_nil ?_
      | (refine r_go ?_; first | refine run_seq ?_ | refine run_region ?_)
      | refine seqQ_normal ?_)
    refine j_loadS 0 k 1 rfl rfl rfl rfl rfl hc3 rfl (fun rest => rfl) rfl rfl ?_
    repeat' (first
      | (refine j_go ?_; first
        | refine j_op0 rfl rfl rfl rfl ?_))
    refine j_kCall rfl rfl rfl rfl ?_
    refine jcp _ (m_markInt64S _ _ _ (kv + 1) o0 (by first | omega | (simp only [cntPassRule] at *; omega))) List.perm_middle.symm (LeL.refl _) rfl rfl (fun v h1 hR => ?_)
    obtain ⟨rfl, rfl⟩ := hR
    repeat' (first
      | (refine j_go ?_; first
        | refine j_op0 rfl rfl rfl rfl ?_ | (refine j_kIdx rfl ?_; first | refine j_midx rfl rfl rfl rfl rfl (by first | omega | (simp only [List.length_append, List.length_cons, List.length_nil]; omega)) rfl rfl ?_))
      | refine j_nil ?_
      | (refine r_go ?_; first | refine run_region ?_)
      | refine seqQ_normal ?_)
    refine j_loadS 0 k 2 rfl rfl rfl rfl rfl hc3 rfl (fun rest => rfl) rfl rfl ?_
    repeat' (first
      | (refine j_go ?_; first
        | refine j_op0 rfl rfl rfl rfl ?_))
    refine j_kCall rfl rfl rfl rfl ?_
    refine jcp _ (m_markInt64S _ _ _ (kv + 1 + l[k].out.length) o1 (by first | omega | (simp only [cntPassRule] at *; omega))) List.perm_middle.symm (LeL.refl _) rfl rfl (fun v h1 hR => ?_)
    obtain ⟨rfl, rfl⟩ := hR
    repeat' (first
      | (refine j_go ?_; first
        | refine j_op0 rfl rfl rfl rfl ?_ | (refine j_kBin rfl ?_; first | refine j_in rfl rfl ⟨by omega, by omega⟩ rfl rfl ?_))
      | refine j_nil ?_
      | (refine r_go ?_; first | refine run_region ?_)
      | refine seqQ_normal ?_ | refine blockQ_normal ?_)
    refine loopQ_nextS (c := ?c) (k + 1) (kv + 1 + l[k].out.length + l[k].in_.length) cc k ?g1 ?g2 ?g3 ?g4
    case g3 => rfl
    case g4 => exact ⟨rfl, rfl, nx _, trivial⟩
    case g2 => dsimp only; omega
    case g1 => exact ⟨by dsimp only; omega, by dsimp only; rw [hsn, hcn]; omega, by dsimp only; rw [List.length_set]; omega, fun i hi => by dsimp only at hi ⊢; rw [List.getElem?_set_ne (by omega)]; exact g4 i (by omega)⟩
  · repeat' (first
      | (refine j_go ?_; first
        | refine j_op0 rfl rfl rfl rfl ?_ | (refine j_kLen rfl ?_; first | refine j_op rfl rfl rfl rfl ?_))
      | refine j_nil ?_
      | (refine r_go ?_; first | refine run_seq ?_ | refine run_region ?_ | (refine (run_if rfl (fun hb => ?_) (fun hb => ?_)) <;> first | (exfalso; omega) | skip) | refine run_ret ?_ | refine run_exit ?_)
      | refine seqQ_normal ?_ | refine seqQ_exit ?_ | refine blockQ_eq ?_ | refine loopQ_exit ?_)
    have : k = l.length := by omega
    subst this
    rw [List.take_length] at g2
    subst g2
    exact endD_view (view_sub (h0 := [] ++ F) (by simp)) (endD_ret (h1 := []) rfl (.cons (.tmp rfl) .nil) (Le.refl _) ⟨rfl, rfl⟩ (.inl rfl))

def cntPassing (x : Passing) : Nat := 1 + x.parents.length + x.free.length + mcnt cntPassRule x.rules
def EPassing (x : Passing) (cs : List A) (h : Heap) : Prop := ∃ (a0 : A) (h0 : Heap), OwnSl EI 2 1 x.parents a0 h0 ∧ ∃ (a1 : A) (h1 : Heap), OwnSl EB 4 1 x.free a1 h1 ∧ ∃ (a2 : A) (h2 : Heap), OwnSl EPassRule 167 3 x.rules a2 h2 ∧ cs = [.int x.kinds, a0, a1, a2] ∧ h = h0 ++ (h1 ++ (h2))
theorem cntPassing_le {x : Passing} (hx : OkPassing x) : cntPassing x ≤ 2199026401281 := by
  obtain ⟨k0, k1, ⟨k2, m2⟩⟩ := hx
  have e2 := mcnt_le2 (f := cntPassRule) k2 (fun y hy => cntPassRule_le (m2 y hy))
  unfold cntPassing
  omega
theorem EPassing_frz (x : Passing) (cs : List A) (h : Heap) (q : EPassing x cs h) : FrzL h cs (encPassing x) := by
  obtain ⟨a0, h0, o0, a1, h1, o1, a2, h2, o2, rfl, rfl⟩ := q
  exact (FrzL.cons (Frz.same _ _) (FrzL.cons (Frz.mono (fun _ hk => by simp [hk]) (o0.frz (fun _ => rfl) EI_frz)) (FrzL.cons (Frz.mono (fun _ hk => by simp [hk]) (o1.frz (fun _ => rfl) EB_frz)) (FrzL.cons (Frz.mono (fun _ hk => by simp [hk]) (o2.frz (fun _ => rfl) EPassRule_frz)) (FrzL.nil _)))))
theorem n_toPassing (x : Passing) (hx : OkPassing x) : Does Try.prog 10 [.agg (encPassing x)] [] (fun v h' => ∃ cs, v = .agg cs ∧ EPassing x cs h') := by
  obtain ⟨k0, k1, ⟨k2, m2⟩⟩ := hx
  refine Does.drop (R := fun v h' => ∃ cs k hh, v = .agg cs ∧ EPassing x cs hh ∧ h'.Perm (k :: hh)) ?_ (fun v h' ⟨cs, k, hh, q1, q2, q3⟩ => ⟨_, hh, q3, List.sublist_cons_self _ _, cs, q1, q2⟩)
  refine fn_of_runD tyOk ztOk mix Try.func10 rfl (by decide) Try.ntmps10 (fun w0 F => ?_)
  change Run _ _ _ _ _ F
  repeat' (first
      | (refine j_go ?_; first
        | refine j_op0 rfl rfl rfl rfl ?_ | (refine j_kStore rfl ?_; first | refine j_store 0 rfl rfl rfl rfl rfl rfl rfl rfl rfl rfl rfl ?_) | refine j_box rfl rfl rfl rfl rfl rfl ?_ | refine j_alloc rfl rfl rfl rfl rfl (fun _ => ?_))
      | refine j_nil ?_
      | (refine r_go ?_; first | refine run_seq ?_ | refine run_region ?_)
      | refine seqQ_normal ?_)
  refine j_kCall rfl rfl rfl rfl ?_
  refine jcp _ (n_toInt64S _ k0) (List.Perm.refl _) (LeL.refl _) rfl rfl (fun v0 h0 o0 => ?_)
  refine j_view (view_perm perm2) ?_
  obtain ⟨b0, rfl⟩ := o0.isos
  repeat' (first
      | (refine j_go ?_; first
        | refine j_op0 rfl rfl rfl rfl ?_ | (refine j_kStore rfl ?_; first | refine j_store 0 rfl rfl rfl rfl rfl rfl rfl rfl rfl rfl rfl ?_))
      | refine j_nil ?_
      | (refine r_go ?_; first | refine run_seq ?_ | refine run_region ?_)
      | refine seqQ_normal ?_)
  refine j_kCall rfl rfl rfl rfl ?_
  refine jcp _ (n_toBoolS _ k1) (List.Perm.refl _) (LeL.refl _) rfl rfl (fun v1 h1 o1 => ?_)
  refine j_view (view_perm perm2) ?_
  obtain ⟨b1, rfl⟩ := o1.isos
  repeat' (first
      | (refine j_go ?_; first
        | refine j_op0 rfl rfl rfl rfl ?_ | (refine j_kStore rfl ?_; first | refine j_store 0 rfl rfl rfl rfl rfl rfl rfl rfl rfl rfl rfl ?_))
      | refine j_nil ?_
      | (refine r_go ?_; first | refine run_seq ?_ | refine run_region ?_)
      | refine seqQ_normal ?_)
  refine j_kCall rfl rfl rfl rfl ?_
  refine jcp _ (n_toPassRuleS _ k2 m2) (List.Perm.refl _) (LeL.refl _) rfl rfl (fun v2 h2 o2 => ?_)
  refine j_view (view_perm perm2) ?_
  obtain ⟨b2, rfl⟩ := o2.isos
  repeat' (first
      | (refine j_go ?_; first
        | refine j_op0 rfl rfl rfl rfl ?_ | (refine j_kLoad rfl ?_; first | refine j_mload 0 rfl rfl rfl rfl rfl rfl rfl ?_) | (refine j_kStore rfl ?_; first | refine j_store 0 rfl rfl rfl rfl rfl rfl rfl rfl rfl rfl rfl ?_ | refine j_storeN 1 rfl rfl rfl rfl rfl rfl rfl rfl rfl rfl rfl ?_))
      | refine j_nil ?_
      | (refine r_go ?_; first | refine run_seq ?_ | refine run_region ?_ | refine run_ret ?_)
      | refine seqQ_normal ?_)
  refine endD_view (view_erase 0) ?_
  exact endD_ret (h1 := _ :: (h2 ++ (h1 ++ (h0)))) (congrArg (List.cons _) (show h2 ++ (h1 ++ (h0 ++ F)) = (h2 ++ (h1 ++ (h0))) ++ F by simp only [List.append_assoc])) (.cons (.cellM rfl (List.mem_cons_self ..) rfl) .nil) (Le.refl _) ⟨_, _, h0 ++ (h1 ++ (h2)), rfl, ⟨_, h0, o0, _, h1, o1, _, h2, o2, rfl, rfl⟩, .cons _ (by classical exact List.perm_iff_count.2 fun _ => by simp only [List.count_append, List.count_cons, List.count_nil, Nat.add_zero, Nat.zero_add]; first | done | ac_rfl | omega)⟩ (.inl rfl)
theorem m_markPassing (x : Passing) (cs : List A) (h : Heap) (k0 : Nat) (q : EPassing x cs h) (hk : k0 + cntPassing x ≤ 4611686018427387904) : Does Try.prog 16 [.agg cs, .int (k0 : Int)] h (fun v h' => v = .int ((k0 + (x.parents.length + x.free.length + mcnt cntPassRule x.rules) : Nat) : Int) ∧ h' = []) := by
  obtain ⟨a0, h0, o0, a1, h1, o1, a2, h2, o2, rfl, rfl⟩ := q
  have hcn : cntPassing x = 1 + x.parents.length + x.free.length + mcnt cntPassRule x.rules := rfl
  obtain ⟨b0, eb0⟩ := o0.isos
  obtain ⟨b1, eb1⟩ := o1.isos
  obtain ⟨b2, eb2⟩ := o2.isos
  subst eb0 eb1 eb2
  refine fn_of_runD tyOk ztOk mix Try.func16 rfl (by decide) Try.ntmps16 (fun w0 F => ?_)
  refine run_heq (h' := h0 ++ (h1 ++ (h2 ++ F))) (by simp only [List.append_assoc]) ?_
  repeat' (first
      | (refine j_go ?_; first
        | refine j_op0 rfl rfl rfl rfl ?_ | refine j_box rfl rfl rfl rfl rfl rfl ?_)
      | refine j_nil ?_
      | (refine r_go ?_; first | refine run_seq ?_ | refine run_region ?_)
      | refine seqQ_normal ?_)
  refine j_kCall rfl rfl rfl rfl ?_
  refine jcp _ (m_markInt64S _ _ _ (k0) o0 (by omega)) (List.Perm.refl _) (LeL.refl _) rfl rfl (fun v h1 hR => ?_)
  obtain ⟨rfl, rfl⟩ := hR
  repeat' (first
      | (refine j_go ?_; first
        | refine j_op0 rfl rfl rfl rfl ?_)
      | refine j_nil ?_
      | (refine r_go ?_; first | refine run_seq ?_ | refine run_region ?_)
      | refine seqQ_normal ?_)
  refine j_kCall rfl rfl rfl rfl ?_
  refine jcp _ (m_markBoolS _ _ _ (k0 + x.parents.length) o1 (by omega)) (List.Perm.refl _) (LeL.refl _) rfl rfl (fun v h1 hR => ?_)
  obtain ⟨rfl, rfl⟩ := hR
  repeat' (first
      | (refine j_go ?_; first
        | refine j_op0 rfl rfl rfl rfl ?_)
      | refine j_nil ?_
      | (refine r_go ?_; first | refine run_seq ?_ | refine run_region ?_)
      | refine seqQ_normal ?_)
  refine j_kCall rfl rfl rfl rfl ?_
  refine jcp _ (m_markPassRuleS _ _ _ (k0 + x.parents.length + x.free.length) o2 (by omega)) (List.Perm.refl _) (LeL.refl _) rfl rfl (fun v h1 hR => ?_)
  obtain ⟨rfl, rfl⟩ := hR
  repeat' (first
      | (refine j_go ?_; first
        | refine j_op0 rfl rfl rfl rfl ?_)
      | refine j_nil ?_
      | (refine r_go ?_; first | refine run_seq ?_ | refine run_region ?_ | refine run_ret ?_)
      | refine seqQ_normal ?_)
  exact endD_ret (h1 := []) rfl (.cons (.tmp rfl) .nil) (Le.refl _) ⟨ani (by omega), rfl⟩ (.inl rfl)

def cntStock (x : Stock) : Nat := mcnt List.length x.cells + x.around.length
def EStock (x : Stock) (cs : List A) (h : Heap) : Prop := ∃ (a0 : A) (h0 : Heap), OwnSl EII 22 1 x.cells a0 h0 ∧ ∃ (a1 : A) (h1 : Heap), OwnSl EI 2 1 x.around a1 h1 ∧ cs = [a0, a1] ∧ h = h0 ++ (h1)
theorem cntStock_le {x : Stock} (hx : OkStock x) : cntStock x ≤ 1099512676352 := by
  obtain ⟨⟨k0, m0⟩, k1⟩ := hx
  have e0 := mcnt_le2 (f := List.length) k0 (fun y hy => m0 y hy)
  unfold cntStock
  omega
theorem EStock_frz (x : Stock) (cs : List A) (h : Heap) (q : EStock x cs h) : FrzL h cs (encStock x) := by
  obtain ⟨a0, h0, o0, a1, h1, o1, rfl, rfl⟩ := q
  exact (FrzL.cons (Frz.mono (fun _ hk => by simp [hk]) (o0.frz (fun _ => rfl) EII_frz)) (FrzL.cons (Frz.mono (fun _ hk => by simp [hk]) (o1.frz (fun _ => rfl) EI_frz)) (FrzL.nil _)))
theorem n_toStock (x : Stock) (hx : OkStock x) : Does Try.prog 11 [.agg (encStock x)] [] (fun v h' => ∃ cs, v = .agg cs ∧ EStock x cs h') := by
  obtain ⟨⟨k0, m0⟩, k1⟩ := hx
  refine Does.drop (R := fun v h' => ∃ cs k hh, v = .agg cs ∧ EStock x cs hh ∧ h'.Perm (k :: hh)) ?_ (fun v h' ⟨cs, k, hh, q1, q2, q3⟩ => ⟨_, hh, q3, List.sublist_cons_self _ _, cs, q1, q2⟩)
  refine fn_of_runD tyOk ztOk mix Try.func11 rfl (by decide) Try.ntmps11 (fun w0 F => ?_)
  change Run _ _ _ _ _ F
  repeat' (first
      | (refine j_go ?_; first
        | refine j_op0 rfl rfl rfl rfl ?_ | refine j_box rfl rfl rfl rfl rfl rfl ?_ | refine j_alloc rfl rfl rfl rfl rfl (fun _ => ?_))
      | refine j_nil ?_
      | (refine r_go ?_; first | refine run_seq ?_ | refine run_region ?_)
      | refine seqQ_normal ?_)
  refine j_kCall rfl rfl rfl rfl ?_
  refine jcp _ (n_toInt64SS _ k0 m0) (List.Perm.refl _) (LeL.refl _) rfl rfl (fun v0 h0 o0 => ?_)
  refine j_view (view_perm perm2) ?_
  obtain ⟨b0, rfl⟩ := o0.isos
  repeat' (first
      | (refine j_go ?_; first
        | refine j_op0 rfl rfl rfl rfl ?_ | (refine j_kStore rfl ?_; first | refine j_store 0 rfl rfl rfl rfl rfl rfl rfl rfl rfl rfl rfl ?_))
      | refine j_nil ?_
      | (refine r_go ?_; first | refine run_seq ?_ | refine run_region ?_)
      | refine seqQ_normal ?_)
  refine j_kCall rfl rfl rfl rfl ?_
  refine jcp _ (n_toInt64S _ k1) (List.Perm.refl _) (LeL.refl _) rfl rfl (fun v1 h1 o1 => ?_)
  refine j_view (view_perm perm2) ?_
  obtain ⟨b1, rfl⟩ := o1.isos
  repeat' (first
      | (refine j_go ?_; first
        | refine j_op0 rfl rfl rfl rfl ?_ | (refine j_kLoad rfl ?_; first | refine j_mload 0 rfl rfl rfl rfl rfl rfl rfl ?_) | (refine j_kStore rfl ?_; first | refine j_store 0 rfl rfl rfl rfl rfl rfl rfl rfl rfl rfl rfl ?_ | refine j_storeN 1 rfl rfl rfl rfl rfl rfl rfl rfl rfl rfl rfl ?_))
      | refine j_nil ?_
      | (refine r_go ?_; first | refine run_seq ?_ | refine run_region ?_ | refine run_ret ?_)
      | refine seqQ_normal ?_)
  refine endD_view (view_erase 0) ?_
  exact endD_ret (h1 := _ :: (h1 ++ (h0))) (congrArg (List.cons _) (show h1 ++ (h0 ++ F) = (h1 ++ (h0)) ++ F by simp only [List.append_assoc])) (.cons (.cellM rfl (List.mem_cons_self ..) rfl) .nil) (Le.refl _) ⟨_, _, h0 ++ (h1), rfl, ⟨_, h0, o0, _, h1, o1, rfl, rfl⟩, .cons _ (by classical exact List.perm_iff_count.2 fun _ => by simp only [List.count_append, List.count_cons, List.count_nil, Nat.add_zero, Nat.zero_add]; first | done | ac_rfl | omega)⟩ (.inl rfl)
theorem m_markStock (x : Stock) (cs : List A) (h : Heap) (k0 : Nat) (q : EStock x cs h) (hk : k0 + cntStock x ≤ 4611686018427387904) : Does Try.prog 17 [.agg cs, .int (k0 : Int)] h (fun v h' => v = .int ((k0 + (mcnt List.length x.cells + x.around.length) : Nat) : Int) ∧ h' = []) := by
  obtain ⟨a0, h0, o0, a1, h1, o1, rfl, rfl⟩ := q
  have hcn : cntStock x = mcnt List.length x.cells + x.around.length := rfl
  obtain ⟨b0, eb0⟩ := o0.isos
  obtain ⟨b1, eb1⟩ := o1.isos
  subst eb0 eb1
  refine fn_of_runD tyOk ztOk mix Try.func17 rfl (by decide) Try.ntmps17 (fun w0 F => ?_)
  refine run_heq (h' := h0 ++ (h1 ++ F)) (by simp only [List.append_assoc]) ?_
  repeat' (first
      | (refine j_go ?_; first
        | refine j_op0 rfl rfl rfl rfl ?_ | refine j_box rfl rfl rfl rfl rfl rfl ?_)
      | refine j_nil ?_
      | (refine r_go ?_; first | refine run_seq ?_ | refine run_region ?_)
      | refine seqQ_normal ?_)
  refine j_kCall rfl rfl rfl rfl ?_
  refine jcp _ (m_markInt64SS _ _ _ (k0) o0 (by omega)) (List.Perm.refl _) (LeL.refl _) rfl rfl (fun v h1 hR => ?_)
  obtain ⟨rfl, rfl⟩ := hR
  repeat' (first
      | (refine j_go ?_; first
        | refine j_op0 rfl rfl rfl rfl ?_)
      | refine j_nil ?_
      | (refine r_go ?_; first | refine run_seq ?_ | refine run_region ?_)
      | refine seqQ_normal ?_)
  refine j_kCall rfl rfl rfl rfl ?_
  refine jcp _ (m_markInt64S _ _ _ (k0 + mcnt List.length x.cells) o1 (by omega)) (List.Perm.refl _) (LeL.refl _) rfl rfl (fun v h1 hR => ?_)
  obtain ⟨rfl, rfl⟩ := hR
  repeat' (first
      | (refine j_go ?_; first
        | refine j_op0 rfl rfl rfl rfl ?_)
      | refine j_nil ?_
      | (refine r_go ?_; first | refine run_seq ?_ | refine run_region ?_ | refine run_ret ?_)
      | refine seqQ_normal ?_)
  exact endD_ret (h1 := []) rfl (.cons (.tmp rfl) .nil) (Le.refl _) ⟨ani (by omega), rfl⟩ (.inl rfl)
end Go.Proofs.Ytandldhceabdiaa

/-
  Stocks in memory of the call's own: their marks, and what is held of them. No condition but that the sizes are bounded.
-/
namespace Go.Proofs.Ytandldhceabdiaa
open Go.AI
set_option maxRecDepth 8000
set_option maxHeartbeats 1600000
def ROStock (x : Stock) (a : A) (h : Heap) : Prop := ∃ (a1 : A) (h1 : Heap), ROII x.cells a1 h1 ∧ ∃ (a2 : A) (h2 : Heap), ROI x.around a2 h2 ∧ a = .agg [a1, a2] ∧ h = h1 ++ h2
theorem ROStock.frz {x : Stock} {a : A} {h : Heap} (o : ROStock x a h) : Frz h a (.agg (encStock x)) := by
  obtain ⟨a1, h1, o1, a2, h2, o2, rfl, rfl⟩ := o
  exact Frz.agg (FrzL.cons (Frz.mono (fun _ hk => by simp [hk]) o1.frz) (FrzL.cons (Frz.mono (fun _ hk => by simp [hk]) o2.frz) (FrzL.nil _)))
theorem ROStock.frzF {x : Stock} {a : A} {h : Heap} (o : ROStock x a h) : FrzF h a (.agg (encStock x)) := by
  obtain ⟨a1, h1, o1, a2, h2, o2, rfl, rfl⟩ := o
  have q := FrzLF.cons o1.frzF (FrzLF.cons o2.frzF (FrzLF.nil (h := [])))
  rw [List.append_nil] at q
  exact FrzF.agg q
theorem ROStock.clo {x : Stock} {a : A} {h : Heap} (o : ROStock x a h) : Clo a ∧ CloH h := by
  obtain ⟨a1, h1, o1, a2, h2, o2, rfl, rfl⟩ := o
  exact ⟨Clo.agg (CloL.cons o1.clo.1 (CloL.cons o2.clo.1 CloL.nil)), o1.clo.2.append o2.clo.2⟩
theorem ROStock.cells {x : Stock} {a : A} {h : Heap} (o : ROStock x a h) : ∃ a0 a1, a = .agg [a0, a1] ∧ [a0, a1].all okCell = true := by
  obtain ⟨a1, h1, o1, a2, h2, o2, rfl, rfl⟩ := o
  exact ⟨a1, a2, rfl, by simp only [List.all_cons, List.all_nil, OwnLL.okc o1, OwnF.okc o2]; rfl⟩
end Go.Proofs.Ytandldhceabdiaa

/-
  A step of a passing system: the reference's side. No condition.
-/
namespace Go.Proofs.Ytandldhceabdiaa
open Go.AI
set_option maxRecDepth 8000
set_option maxHeartbeats 1600000


theorem flat_take_succ {L : List (List Int)} {k : Nat} (hk : k < L.length) : (L.take (k + 1)).flatten = (L.take k).flatten ++ L[k] := by
  rw [List.take_succ_eq_append_getElem hk, List.flatten_append]; simp
theorem flat_take_le {L : List (List Int)} {K : Nat} (h : ∀ x ∈ L, x.length ≤ K) : ∀ k, (L.take k).flatten.length ≤ k * K
  | 0 => by simp
  | k + 1 => by
    by_cases hk : k < L.length
    · rw [flat_take_succ hk, List.length_append]
      have := flat_take_le h k
      have := h _ (List.getElem_mem hk)
      rw [Nat.add_mul]; omega
    · rw [List.take_of_length_le (by omega)]
      have := flat_take_le h k
      rw [List.take_of_length_le (by omega)] at this
      rw [Nat.add_mul]; omega
theorem o_l06Flat (p : Passing) (s : Stock) (hv : p.Ok) (hs : p.StockOk s) : Does Try.prog 111 [.ip (encPassing p), .ip (encStock s)] [] (OwnL (plc s).flatten) := by
  refine fn_of_runD tyOk ztOk mix Try.func111 rfl (by decide) Try.ntmps111 (fun w0 F => ?_)
  change Run _ _ _ _ _ F
  have p4 := hv.1.2.1
  have hc := hs.1
  have al := hs.2.1.1.2.2
  have cl : ∀ x ∈ s.cells, x.length ≤ 8 := fun x hx => (hs.2.2.1 x hx).1.2.2
  repeat' (first
      | (refine j_go ?_; first
        | refine j_op0 rfl rfl rfl rfl ?_ | (refine j_kBsl rfl ?_; first | refine j_bs0 rfl rfl rfl rfl rfl rfl ?_))
      | refine j_nil ?_
      | (refine r_go ?_; first | refine run_seq ?_ | refine run_region ?_ | refine run_block ?_)
      | refine seqQ_normal ?_)
  refine run_view (view_none 2 0 rfl) ?_
  refine run_loop (fun x : Nat × Option Nat × Nat => [(1, .ip (encStock s)), (5, .os x.2.1 (s.cells.take x.1).flatten.length x.2.2), (6, .int (x.1 : Int))]) (fun x => ⟨x.2.1, 2, x.2.2 * 1, (((s.cells.take x.1).flatten).map Go.AI.encI).flatten⟩ :: F) (fun x => x.1 ≤ s.cells.length) (fun x => s.cells.length - x.1) (0, none, 0) ⟨rfl, rfl, rfl, trivial⟩ rfl (Nat.zero_le _) (fun ⟨k, ob, cp⟩ kl => ?_)
  dsimp only at kl ⊢
  have tl := flat_take_le cl k
  by_cases hk : k < s.cells.length
  · have ck := cl _ (List.getElem_mem hk)
    repeat' (first
      | (refine j_go ?_; first
        | refine j_op0 rfl rfl rfl rfl ?_ | (refine j_kIdx rfl ?_; first | refine j_idx rfl rfl rfl rfl rfl (by omega) rfl rfl rfl ?_) | (refine j_kLen rfl ?_; first | refine j_len rfl rfl rfl rfl rfl rfl ?_))
      | refine j_nil ?_
      | (refine r_go ?_; first | refine run_seq ?_ | refine run_region ?_ | (refine (run_if rfl (fun hb => ?_) (fun hb => ?_)) <;> first | (exfalso; omega) | skip) | refine run_block ?_ | refine run_skip ?_)
      | refine seqQ_normal ?_)
    refine j_append 0 (g := Go.AI.encI) (ys := (s.cells.take k).flatten) s.cells[k] rfl rfl rfl rfl rfl rfl rfl rfl rfl rfl rfl rfl (fun _ => rfl) (fun _ _ => rfl) ⟨by omega, by omega⟩ rfl rfl (fun b' cap' => ?_)
    rw [← flat_take_succ hk]
    repeat' (first
      | (refine j_go ?_; first
        | refine j_op0 rfl rfl rfl rfl ?_ | (refine j_kBin rfl ?_; first | refine j_in rfl rfl ⟨by omega, by omega⟩ rfl rfl ?_))
      | refine j_nil ?_
      | (refine r_go ?_; first | refine run_region ?_)
      | refine seqQ_normal ?_ | refine blockQ_normal ?_)
    exact loopQ_next (k + 1, b', cap') (by dsimp only; omega) (by dsimp only; omega) rfl ⟨rfl, rfl, nx _, trivial⟩
  · have hke : k = s.cells.length := by omega
    subst hke
    rw [List.take_length] at tl ⊢
    repeat' (first
      | (refine j_go ?_; first
        | refine j_op0 rfl rfl rfl rfl ?_ | (refine j_kLen rfl ?_; first | refine j_len rfl rfl rfl rfl rfl rfl ?_))
      | refine j_nil ?_
      | (refine r_go ?_; first | refine run_seq ?_ | refine run_region ?_ | (refine (run_if rfl (fun hb => ?_) (fun hb => ?_)) <;> first | (exfalso; omega) | skip) | refine run_exit ?_)
      | refine seqQ_normal ?_ | refine seqQ_exit ?_ | refine blockQ_eq ?_ | refine loopQ_exit ?_)
    refine j_append 0 (g := Go.AI.encI) (ys := s.cells.flatten) s.around rfl rfl rfl rfl rfl rfl rfl rfl rfl rfl rfl rfl (fun _ => rfl) (fun _ _ => rfl) ⟨by omega, by omega⟩ rfl rfl (fun b' cap' => ?_)
    rw [show s.cells.flatten ++ s.around = (plc s).flatten from by simp [plc]]
    repeat' (first
      | (refine j_go ?_; first
        | refine j_op0 rfl rfl rfl rfl ?_)
      | refine j_nil ?_
      | (refine r_go ?_; first | refine run_ret ?_)
      | refine seqQ_normal ?_)
    exact endD_ret (h1 := [_]) rfl (.cons (.tmp rfl) .nil) (Le.refl _) ⟨b', cap', rfl, rfl⟩ (.inl rfl)

theorem tks_sh' {p : Passing} (hv : p.Ok) {cs : List Int} (hc : p.Cntw cs) {s : Stock} (hs : p.StockOk s) {k : Nat} (hk : k ≤ p.rules.length) : Sh (p.parents.length + 1) p.kinds.toNat (p.tks cs (plc s) k) 1000000000 := by
  have h8 := hv.1.2.2.2.2.1
  exact (tks_sh hv hc (plc_sh hs) k hk).mono (by omega)
end Go.Proofs.Ytandldhceabdiaa
