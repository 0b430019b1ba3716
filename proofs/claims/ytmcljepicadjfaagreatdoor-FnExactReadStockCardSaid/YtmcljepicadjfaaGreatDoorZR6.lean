/-
  Copies of the data of theme 6 in memory of the call's own, and their marks. No condition but that the sizes are bounded.
-/
import Derived.Test.YtmcljepicadjfaaGreatDoorZG6
import Derived.Test.YtmcljepicadjfaaGreatDoorZOB
import Derived.Test.YtmcljepicadjfaaGreatDoorZS2b
import Derived.KernelRfl
namespace Go.Proofs.YtmcljepicadjfaaGreatDoor
open Go.AI
set_option maxRecDepth 8000
set_option maxHeartbeats 1600000

def cntPassRule (x : PassRule) : Nat := 1 + x.out.length + x.in_.length
def EPassRule (x : PassRule) (cs : List A) (h : Heap) : Prop := ∃ (a0 : A) (h0 : Heap), OwnSl EI 2 1 x.out a0 h0 ∧ ∃ (a1 : A) (h1 : Heap), OwnSl EI 2 1 x.in_ a1 h1 ∧ cs = [.int x.cell, a0, a1] ∧ h = h0 ++ (h1)
theorem cntPassRule_le {x : PassRule} (hx : OkPassRule x) : cntPassRule x ≤ 2097153 := by
  obtain ⟨k0, k1⟩ := hx
  unfold cntPassRule
  omega
theorem EPassRule_frz (x : PassRule) (cs : List A) (h : Heap) (q : EPassRule x cs h) : FrzL h cs (encPassRule x) := by
  obtain ⟨a0, h0, o0, a1, h1, o1, rfl, rfl⟩ := q
  exact (FrzL.cons (Frz.same _ _) (FrzL.cons (Frz.mono (fun _ hk => by simp [hk]) (o0.frz (fun _ => rfl) EI_frz)) (FrzL.cons (Frz.mono (fun _ hk => by simp [hk]) (o1.frz (fun _ => rfl) EI_frz)) (FrzL.nil _))))
theorem EPassRule_len {x : PassRule} {cs : List A} {h : Heap} (q : EPassRule x cs h) : cs.length = 3 := by
  obtain ⟨a0, h0, o0, a1, h1, o1, rfl, rfl⟩ := q
  rfl
theorem EPassRule_ok {x : PassRule} {cs : List A} {h : Heap} (q : EPassRule x cs h) : cs.all okCell = true := by
  obtain ⟨a0, h0, o0, a1, h1, o1, rfl, rfl⟩ := q
  obtain ⟨b0, rfl⟩ := o0.isos
  obtain ⟨b1, rfl⟩ := o1.isos
  rfl
theorem n_toPassRule (x : PassRule) (hx : OkPassRule x) : Does Tryz.prog 103 [.agg (encPassRule x)] [] (fun v h' => ∃ cs, v = .agg cs ∧ EPassRule x cs h') := by
  obtain ⟨k0, k1⟩ := hx
  refine Does.drop (R := fun v h' => ∃ cs k hh, v = .agg cs ∧ EPassRule x cs hh ∧ h'.Perm (k :: hh)) ?_ (fun v h' ⟨cs, k, hh, q1, q2, q3⟩ => ⟨_, hh, q3, List.sublist_cons_self _ _, cs, q1, q2⟩)
  refine fn_of_runD tyOk ztOk mix Tryz.func103 rfl (by decide) Tryz.ntmps103 (fun w0 F => ?_)
  change Run _ _ _ _ _ F
  repeat' (first
      | (refine j_go ?_; first
        | refine j_op0 rfl rfl rfl rfl ?_ | (refine j_kStore rfl ?_; first | refine j_store 0 rfl rfl rfl rfl rfl rfl rfl rfl rfl rfl rfl ?_) | refine j_box rfl rfl rfl rfl rfl rfl ?_ | refine j_alloc rfl rfl rfl rfl rfl (fun _ => ?_))
      | refine j_nil ?_
      | (refine r_go ?_; first | refine run_seq ?_ | refine run_region ?_)
      | refine seqQ_normal ?_)
  refine j_kCall rfl rfl rfl rfl ?_
  refine jcp _ (n_toInt64S _ k0) (List.Perm.refl _) (LeL.refl _) rfl rfl (fun v0 h0 o0 => ?_)
  refine j_view (view_perm perm2) ?_
  obtain ⟨b0, rfl⟩ := o0.isos
  repeat' (first
      | (refine j_go ?_; first
        | refine j_op0 rfl rfl rfl rfl ?_ | (refine j_kStore rfl ?_; first | refine j_store 0 rfl rfl rfl rfl rfl rfl rfl rfl rfl rfl rfl ?_))
      | refine j_nil ?_
      | (refine r_go ?_; first | refine run_seq ?_ | refine run_region ?_)
      | refine seqQ_normal ?_)
  refine j_kCall rfl rfl rfl rfl ?_
  refine jcp _ (n_toInt64S _ k1) (List.Perm.refl _) (LeL.refl _) rfl rfl (fun v1 h1 o1 => ?_)
  refine j_view (view_perm perm2) ?_
  obtain ⟨b1, rfl⟩ := o1.isos
  repeat' (first
      | (refine j_go ?_; first
        | refine j_op0 rfl rfl rfl rfl ?_ | (refine j_kLoad rfl ?_; first | refine j_mload 0 rfl rfl rfl rfl rfl rfl rfl ?_) | (refine j_kStore rfl ?_; first | refine j_store 0 rfl rfl rfl rfl rfl rfl rfl rfl rfl rfl rfl ?_ | refine j_storeN 1 rfl rfl rfl rfl rfl rfl rfl rfl rfl rfl rfl ?_))
      | refine j_nil ?_
      | (refine r_go ?_; first | refine run_seq ?_ | refine run_region ?_ | refine run_ret ?_)
      | refine seqQ_normal ?_)
  refine endD_view (view_erase 0) ?_
  exact endD_ret (h1 := _ :: (h1 ++ (h0))) (congrArg (List.cons _) (show h1 ++ (h0 ++ F) = (h1 ++ (h0)) ++ F by simp only [List.append_assoc])) (.cons (.cellM rfl (List.mem_cons_self ..) rfl) .nil) (Le.refl _) ⟨_, _, h0 ++ (h1), rfl, ⟨_, h0, o0, _, h1, o1, rfl, rfl⟩, .cons _ (by classical exact List.perm_iff_count.2 fun _ => by simp only [List.count_append, List.count_cons, List.count_nil, Nat.add_zero, Nat.zero_add]; first | done | ac_rfl | omega)⟩ (.inl rfl)
theorem n_toPassRuleS (l : List (PassRule)) (hl : l.length ≤ 1048576) (hl2 : ∀ x ∈ l, OkPassRule x) : Does Tryz.prog 77 [.sl (l.map encPassRule)] [] (fun v h' => OwnSl EPassRule 75 3 l v h') := by
  refine fn_of_runD tyOk ztOk mix Tryz.func77 rfl (by decide) Tryz.ntmps77 (fun w0 F => ?_)
  change Run _ _ _ _ _ F
  repeat' (first
      | (refine j_go ?_; first
        | refine j_op0 rfl rfl rfl rfl ?_ | (refine j_kLen rfl ?_; first | refine j_len rfl rfl rfl rfl rfl rfl ?_))
      | refine j_nil ?_
      | (refine r_go ?_; first | refine run_seq ?_ | refine run_region ?_)
      | refine seqQ_normal ?_)
  refine j_makeI (g := Subtype.val) (⟨[.int 0, .sl [], .sl []], rfl⟩ : Cells 3) rfl rfl rfl rfl rfl rfl rfl rfl rfl (by omega) rfl rfl (fun b => ?_)
  repeat' (first
      | (refine j_go ?_; first
        | refine j_op0 rfl rfl rfl rfl ?_)
      | refine j_nil ?_
      | (refine r_go ?_; first | refine run_seq ?_ | refine run_region ?_ | refine run_block ?_)
      | refine seqQ_normal ?_)
  refine run_loop (fun s : Nat × List (Cells 3) × List Heap => [(0, .sl (l.map encPassRule)), (3, .os (some b) l.length l.length), (4, .int (s.1 : Int))])
      (fun s => ⟨some b, 75, l.length * 3, ((s.2.1 ++ List.replicate (l.length - s.1) (⟨[.int 0, .sl [], .sl []], rfl⟩ : Cells 3)).map Subtype.val).flatten⟩ :: (s.2.2.flatten ++ F))
      (fun s => s.1 ≤ l.length ∧ s.2.1.length = s.1 ∧ s.2.2.length = s.1 ∧ ∀ i (hi : i < l.length) (h1 : i < s.2.1.length) (h2 : i < s.2.2.length), EPassRule l[i] s.2.1[i].1 s.2.2[i]) (fun s => l.length - s.1) (0, [], []) ⟨rfl, rfl, rfl, trivial⟩ (by simp) ⟨by simp, rfl, rfl, fun i _ h1 => absurd h1 (Nat.not_lt_zero _)⟩ ?_
  intro ⟨k, css, hs⟩ ⟨g1, g2, g3, g4⟩
  dsimp only at g1 g2 g3 g4 ⊢
  repeat' (first
      | (refine j_go ?_; first
        | refine j_op0 rfl rfl rfl rfl ?_ | (refine j_kIdx rfl ?_; first | refine j_idx rfl rfl rfl rfl rfl (by omega) rfl rfl rfl ?_) | (refine j_kLen rfl ?_; first | refine j_len rfl rfl rfl rfl rfl rfl ?_))
      | refine j_nil ?_
      | (refine r_go ?_; first | refine run_seq ?_ | refine run_region ?_ | (refine (run_if rfl (fun hb => ?_) (fun hb => ?_)) <;> first | (exfalso; omega) | skip) | refine run_block ?_ | refine run_ret ?_ | refine run_exit ?_ | refine run_skip ?_)
      | refine seqQ_normal ?_ | refine seqQ_exit ?_ | refine blockQ_eq ?_ | refine loopQ_exit ?_)
  · have hk : k < l.length := by omega
    refine j_kCall rfl rfl rfl rfl ?_
    refine jcp _ (n_toPassRule l[k] (hl2 _ (List.getElem_mem _))) (List.Perm.refl _) (LeL.refl _) rfl rfl (fun v h1 hR => ?_)
    obtain ⟨cs, rfl, hE⟩ := hR
    have hok := EPassRule_ok hE
    repeat' (first
      | (refine j_go ?_; first
        | (refine j_kIdx rfl ?_; first | refine j_midx rfl rfl rfl rfl rfl (by first | omega | (simp only [List.length_append, List.length_cons, List.length_nil]; omega)) rfl rfl ?_)))
    refine j_view (view_perm List.perm_middle) ?_
    refine j_storeE 0 k (g := Subtype.val) (⟨cs, EPassRule_len hE⟩ : Cells 3) rfl rfl rfl rfl rfl rfl rfl rfl hok (fun y => y.2 : ∀ y : Cells 3, y.1.length = 3) rfl (by simp; omega) ?_
    repeat' (first
      | (refine j_go ?_; first
        | refine j_op0 rfl rfl rfl rfl ?_ | (refine j_kBin rfl ?_; first | refine j_in rfl rfl ⟨by omega, by omega⟩ rfl rfl ?_))
      | refine j_nil ?_
      | (refine r_go ?_; first | refine run_region ?_)
      | refine seqQ_normal ?_ | refine blockQ_normal ?_)
    refine loopQ_view (view_perm (h' := ⟨some b, 75, l.length * 3, (((css ++ [(⟨cs, EPassRule_len hE⟩ : Cells 3)]) ++ List.replicate (l.length - (k + 1)) (⟨[.int 0, .sl [], .sl []], rfl⟩ : Cells 3)).map Subtype.val).flatten⟩ :: ((hs ++ [h1]).flatten ++ F)) (by rw [app_rep_set g2 hk]; exact .cons _ (by simp only [List.flatten_append, List.flatten_cons, List.flatten_nil, List.append_nil]; exact (by classical exact List.perm_iff_count.2 fun _ => by simp only [List.count_append, List.count_cons, List.count_nil, Nat.add_zero, Nat.zero_add]; first | done | ac_rfl | omega)))) ?_
    exact loopQ_next (k + 1, css ++ [(⟨cs, EPassRule_len hE⟩ : Cells 3)], hs ++ [h1]) ⟨by dsimp only; omega, by simp [g2], by simp [g3], fun i hi h1' h2' => own_snoc g2 g3 (hl := hk) g4 hE i hi h1' h2'⟩ (by dsimp only; omega) rfl ⟨rfl, rfl, nx _, trivial⟩
  · have : k = l.length := by omega
    subst this
    exact endD_ret (h1 := ⟨some b, 75, l.length * 3, (css.map Subtype.val).flatten⟩ :: hs.flatten) (by simp) (.cons (.tmp rfl) .nil) (Le.refl _) ⟨b, css, hs, g2, g3, g4, rfl, rfl⟩ (.inl rfl)
theorem m_markPassRuleS (l : List (PassRule)) (a : A) (h : Heap) (k0 : Nat) (ho : OwnSl EPassRule 75 3 l a h) (hk : k0 + mcnt cntPassRule l ≤ 4611686018427387904) : Does Tryz.prog 64 [a, .int (k0 : Int)] h (fun v h' => v = .int ((k0 + mcnt cntPassRule l : Nat) : Int) ∧ h' = []) := by
  obtain ⟨b, css, hs, l1, l2, hall, rfl, rfl⟩ := ho
  refine fn_of_runD tyOk ztOk mix Tryz.func64 rfl (by decide) Tryz.ntmps64 (fun w0 F => ?_)
  change Run _ _ _ _ _ (⟨some b, 75, l.length * 3, (css.map Subtype.val).flatten⟩ :: (hs.flatten ++ F))
  refine run_olen (t := 0) rfl (fun hol => ?_)
  repeat' (first
      | (refine j_go ?_; first
        | refine j_op0 rfl rfl rfl rfl ?_)
      | refine j_nil ?_
      | (refine r_go ?_; first | refine run_seq ?_ | refine run_region ?_ | refine run_block ?_)
      | refine seqQ_normal ?_)
  refine run_loop (fun s : Nat × Nat × List (Cells 3) => [(0, .os (some b) l.length l.length), (1, .int (s.2.1 : Int)), (5, .int (s.1 : Int))])
    (fun s => ⟨some b, 75, l.length * 3, (s.2.2.map Subtype.val).flatten⟩ :: ((hs.drop s.1).flatten ++ F))
    (fun s => s.1 ≤ l.length ∧ s.2.1 = k0 + mcnt cntPassRule (l.take s.1) ∧ s.2.2.length = l.length ∧ ∀ i, s.1 ≤ i → s.2.2[i]? = css[i]?) (fun s => l.length - s.1) (0, k0, css) ⟨rfl, rfl, rfl, trivial⟩ (by simp) ⟨by simp, by simp [mcnt], l1, fun _ _ => rfl⟩ ?_
  intro ⟨k, kv, cc⟩ ⟨g1, g2, g3, g4⟩
  dsimp only at g1 g2 g3 g4 ⊢
  by_cases hkl : k < l.length
  · have hc1 : k < css.length := by omega
    have hc2 : k < hs.length := by omega
    have hc3 : k < cc.length := by omega
    have e1 : cc[k] = css[k] := by have := g4 k (Nat.le_refl _); simpa [hc1, hc3] using this
    have hsn := mcnt_take (f := cntPassRule) hkl
    have hlt := mcnt_take_le (f := cntPassRule) (k + 1) l
    have hd : (hs.drop k).flatten = hs[k] ++ (hs.drop (k + 1)).flatten := by rw [List.drop_eq_getElem_cons hc2]; rfl
    obtain ⟨a0, h0, o0, a1, h1, o1, ea, eh⟩ := hall k hkl hc1 hc2
    have hcn : cntPassRule l[k] = 1 + l[k].out.length + l[k].in_.length := rfl
    have e0 : cc = cc.set k (⟨[.int l[k].cell, a0, a1], rfl⟩ : Cells 3) := set_own hc3 (by rw [e1, ea])
    obtain ⟨b0, eb0⟩ := o0.isos
    obtain ⟨b1, eb1⟩ := o1.isos
    refine run_heq (h' := ⟨some b, 75, l.length * 3, ((cc.set k (⟨[.int l[k].cell, a0, a1], rfl⟩ : Cells 3)).map Subtype.val).flatten⟩ :: (h0 ++ (h1 ++ ((hs.drop (k + 1)).flatten ++ F)))) (by rw [← e0, hd, eh]; simp only [List.append_assoc]) ?_
    clear eh
    subst eb0 eb1
    repeat' (first
      | (refine j_go ?_; first
        | refine j_op0 rfl rfl rfl rfl ?_ | (refine j_kIdx rfl ?_; first | refine j_midx rfl rfl rfl rfl rfl (by first | omega | (simp only [List.length_append, List.length_cons, List.length_nil]; omega)) rfl rfl ?_) | (refine j_kLen rfl ?_; first | refine j_op rfl rfl rfl rfl ?_))
      | refine j_nil ?_
      | (refine r_go ?_; first | refine run_seq ?_ | refine run_region ?_ | (refine (run_if rfl (fun hb => ?_) (fun hb => ?_)) <;> first | (exfalso; omega) | skip) | refine run_block ?_ | refine run_skip ?_)
      | refine seqQ_normal ?_)
    refine j_storeS 0 k 0 rfl rfl rfl rfl rfl rfl rfl rfl rfl rfl rfl hc3 rfl ?_
    repeat' (first
      | (refine j_go ?_; first
        | refine j_op0 rfl rfl rfl rfl ?_ | (refine j_kIdx rfl ?_; first | refine j_midx rfl rfl rfl rfl rfl (by first | omega | (simp only [List.length_append, List.length_cons, List.length_nil]; omega)) rfl rfl ?_) | (refine j_kBin rfl ?_; first | refine j_in rfl rfl ⟨by omega, by omega⟩ rfl rfl ?_))
      | refine j_nil ?_
      | (refine r_go ?_; first | refine run_seq ?_ | refine run_region ?_)
      | refine seqQ_normal ?_)
    refine j_loadS 0 k 1 rfl rfl rfl rfl rfl hc3 rfl (fun rest => rfl) rfl rfl ?_
    repeat' (first
      | (refine j_go ?_; first
        | refine j_op0 rfl rfl rfl rfl ?_))
    refine j_kCall rfl rfl rfl rfl ?_
    refine jcp _ (m_markInt64S _ _ _ (kv + 1) o0 (by first | omega | (simp only [cntPassRule] at *; omega))) List.perm_middle.symm (LeL.refl _) rfl rfl (fun v h1 hR => ?_)
    obtain ⟨rfl, rfl⟩ := hR
    repeat' (first
      | (refine j_go ?_; first
        | refine j_op0 rfl rfl rfl rfl ?_ | (refine j_kIdx rfl ?_; first | refine j_midx rfl rfl rfl rfl rfl (by first | omega | (simp only [List.length_append, List.length_cons, List.length_nil]; omega)) rfl rfl ?_))
      | refine j_nil ?_
      | (refine r_go ?_; first | refine run_region ?_)
      | refine seqQ_normal ?_)
    refine j_loadS 0 k 2 rfl rfl rfl rfl rfl hc3 rfl (fun rest => rfl) rfl rfl ?_
    repeat' (first
      | (refine j_go ?_; first
        | refine j_op0 rfl rfl rfl rfl ?_))
    refine j_kCall rfl rfl rfl rfl ?_
    refine jcp _ (m_markInt64S _ _ _ (kv + 1 + l[k].out.length) o1 (by first | omega | (simp only [cntPassRule] at *; omega))) List.perm_middle.symm (LeL.refl _) rfl rfl (fun v h1 hR => ?_)
    obtain ⟨rfl, rfl⟩ := hR
    repeat' (first
      | (refine j_go ?_; first
        | refine j_op0 rfl rfl rfl rfl ?_ | (refine j_kBin rfl ?_; first | refine j_in rfl rfl ⟨by omega, by omega⟩ rfl rfl ?_))
      | refine j_nil ?_
      | (refine r_go ?_; first | refine run_region ?_)
      | refine seqQ_normal ?_ | refine blockQ_normal ?_)
    refine loopQ_nextS (c := ?c) (k + 1) (kv + 1 + l[k].out.length + l[k].in_.length) cc k ?g1 ?g2 ?g3 ?g4
    case g3 => rfl
    case g4 => exact ⟨rfl, rfl, nx _, trivial⟩
    case g2 => dsimp only; omega
    case g1 => exact ⟨by dsimp only; omega, by dsimp only; rw [hsn, hcn]; omega, by dsimp only; rw [List.length_set]; omega, fun i hi => by dsimp only at hi ⊢; rw [List.getElem?_set_ne (by omega)]; exact g4 i (by omega)⟩
  · repeat' (first
      | (refine j_go ?_; first
        | refine j_op0 rfl rfl rfl rfl ?_ | (refine j_kLen rfl ?_; first | refine j_op rfl rfl rfl rfl ?_))
      | refine j_nil ?_
      | (refine r_go ?_; first | refine run_seq ?_ | refine run_region ?_ | (refine (run_if rfl (fun hb => ?_) (fun hb => ?_)) <;> first | (exfalso; omega) | skip) | refine run_ret ?_ | refine run_exit ?_)
      | refine seqQ_normal ?_ | refine seqQ_exit ?_ | refine blockQ_eq ?_ | refine loopQ_exit ?_)
    have : k = l.length := by omega
    subst this
    rw [List.take_length] at g2
    subst g2
    exact endD_view (view_sub (h0 := [] ++ F) (by simp)) (endD_ret (h1 := []) rfl (.cons (.tmp rfl) .nil) (Le.refl _) ⟨rfl, rfl⟩ (.inl rfl))

def cntPassing (x : Passing) : Nat := 1 + x.parents.length + x.free.length + mcnt cntPassRule x.rules
def EPassing (x : Passing) (cs : List A) (h : Heap) : Prop := ∃ (a0 : A) (h0 : Heap), OwnSl EI 2 1 x.parents a0 h0 ∧ ∃ (a1 : A) (h1 : Heap), OwnSl EB 4 1 x.free a1 h1 ∧ ∃ (a2 : A) (h2 : Heap), OwnSl EPassRule 75 3 x.rules a2 h2 ∧ cs = [.int x.kinds, a0, a1, a2] ∧ h = h0 ++ (h1 ++ (h2))
theorem cntPassing_le {x : Passing} (hx : OkPassing x) : cntPassing x ≤ 2199026401281 := by
  obtain ⟨k0, k1, ⟨k2, m2⟩⟩ := hx
  have e2 := mcnt_le2 (f := cntPassRule) k2 (fun y hy => cntPassRule_le (m2 y hy))
  unfold cntPassing
  omega
theorem EPassing_frz (x : Passing) (cs : List A) (h : Heap) (q : EPassing x cs h) : FrzL h cs (encPassing x) := by
  obtain ⟨a0, h0, o0, a1, h1, o1, a2, h2, o2, rfl, rfl⟩ := q
  exact (FrzL.cons (Frz.same _ _) (FrzL.cons (Frz.mono (fun _ hk => by simp [hk]) (o0.frz (fun _ => rfl) EI_frz)) (FrzL.cons (Frz.mono (fun _ hk => by simp [hk]) (o1.frz (fun _ => rfl) EB_frz)) (FrzL.cons (Frz.mono (fun _ hk => by simp [hk]) (o2.frz (fun _ => rfl) EPassRule_frz)) (FrzL.nil _)))))
theorem n_toPassing (x : Passing) (hx : OkPassing x) : Does Tryz.prog 22 [.agg (encPassing x)] [] (fun v h' => ∃ cs, v = .agg cs ∧ EPassing x cs h') := by
  obtain ⟨k0, k1, ⟨k2, m2⟩⟩ := hx
  refine Does.drop (R := fun v h' => ∃ cs k hh, v = .agg cs ∧ EPassing x cs hh ∧ h'.Perm (k :: hh)) ?_ (fun v h' ⟨cs, k, hh, q1, q2, q3⟩ => ⟨_, hh, q3, List.sublist_cons_self _ _, cs, q1, q2⟩)
  refine fn_of_runD tyOk ztOk mix Tryz.func22 rfl (by decide) Tryz.ntmps22 (fun w0 F => ?_)
  change Run _ _ _ _ _ F
  repeat' (first
      | (refine j_go ?_; first
        | refine j_op0 rfl rfl rfl rfl ?_ | (refine j_kStore rfl ?_; first | refine j_store 0 rfl rfl rfl rfl rfl rfl rfl rfl rfl rfl rfl ?_) | refine j_box rfl rfl rfl rfl rfl rfl ?_ | refine j_alloc rfl rfl rfl rfl rfl (fun _ => ?_))
      | refine j_nil ?_
      | (refine r_go ?_; first | refine run_seq ?_ | refine run_region ?_)
      | refine seqQ_normal ?_)
  refine j_kCall rfl rfl rfl rfl ?_
  refine jcp _ (n_toInt64S _ k0) (List.Perm.refl _) (LeL.refl _) rfl rfl (fun v0 h0 o0 => ?_)
  refine j_view (view_perm perm2) ?_
  obtain ⟨b0, rfl⟩ := o0.isos
  repeat' (first
      | (refine j_go ?_; first
        | refine j_op0 rfl rfl rfl rfl ?_ | (refine j_kStore rfl ?_; first | refine j_store 0 rfl rfl rfl rfl rfl rfl rfl rfl rfl rfl rfl ?_))
      | refine j_nil ?_
      | (refine r_go ?_; first | refine run_seq ?_ | refine run_region ?_)
      | refine seqQ_normal ?_)
  refine j_kCall rfl rfl rfl rfl ?_
  refine jcp _ (n_toBoolS _ k1) (List.Perm.refl _) (LeL.refl _) rfl rfl (fun v1 h1 o1 => ?_)
  refine j_view (view_perm perm2) ?_
  obtain ⟨b1, rfl⟩ := o1.isos
  repeat' (first
      | (refine j_go ?_; first
        | refine j_op0 rfl rfl rfl rfl ?_ | (refine j_kStore rfl ?_; first | refine j_store 0 rfl rfl rfl rfl rfl rfl rfl rfl rfl rfl rfl ?_))
      | refine j_nil ?_
      | (refine r_go ?_; first | refine run_seq ?_ | refine run_region ?_)
      | refine seqQ_normal ?_)
  refine j_kCall rfl rfl rfl rfl ?_
  refine jcp _ (n_toPassRuleS _ k2 m2) (List.Perm.refl _) (LeL.refl _) rfl rfl (fun v2 h2 o2 => ?_)
  refine j_view (view_perm perm2) ?_
  obtain ⟨b2, rfl⟩ := o2.isos
  repeat' (first
      | (refine j_go ?_; first
        | refine j_op0 rfl rfl rfl rfl ?_ | (refine j_kLoad rfl ?_; first | refine j_mload 0 rfl rfl rfl rfl rfl rfl rfl ?_) | (refine j_kStore rfl ?_; first | refine j_store 0 rfl rfl rfl rfl rfl rfl rfl rfl rfl rfl rfl ?_ | refine j_storeN 1 rfl rfl rfl rfl rfl rfl rfl rfl rfl rfl rfl ?_))
      | refine j_nil ?_
      | (refine r_go ?_; first | refine run_seq ?_ | refine run_region ?_ | refine run_ret ?_)
      | refine seqQ_normal ?_)
  refine endD_view (view_erase 0) ?_
  exact endD_ret (h1 := _ :: (h2 ++ (h1 ++ (h0)))) (congrArg (List.cons _) (show h2 ++ (h1 ++ (h0 ++ F)) = (h2 ++ (h1 ++ (h0))) ++ F by simp only [List.append_assoc])) (.cons (.cellM rfl (List.mem_cons_self ..) rfl) .nil) (Le.refl _) ⟨_, _, h0 ++ (h1 ++ (h2)), rfl, ⟨_, h0, o0, _, h1, o1, _, h2, o2, rfl, rfl⟩, .cons _ (by classical exact List.perm_iff_count.2 fun _ => by simp only [List.count_append, List.count_cons, List.count_nil, Nat.add_zero, Nat.zero_add]; first | done | ac_rfl | omega)⟩ (.inl rfl)
theorem m_markPassing (x : Passing) (cs : List A) (h : Heap) (k0 : Nat) (q : EPassing x cs h) (hk : k0 + cntPassing x ≤ 4611686018427387904) : Does Tryz.prog 18 [.agg cs, .int (k0 : Int)] h (fun v h' => v = .int ((k0 + (x.parents.length + x.free.length + mcnt cntPassRule x.rules) : Nat) : Int) ∧ h' = []) := by
  obtain ⟨a0, h0, o0, a1, h1, o1, a2, h2, o2, rfl, rfl⟩ := q
  have hcn : cntPassing x = 1 + x.parents.length + x.free.length + mcnt cntPassRule x.rules := rfl
  obtain ⟨b0, eb0⟩ := o0.isos
  obtain ⟨b1, eb1⟩ := o1.isos
  obtain ⟨b2, eb2⟩ := o2.isos
  subst eb0 eb1 eb2
  refine fn_of_runD tyOk ztOk mix Tryz.func18 rfl (by decide) Tryz.ntmps18 (fun w0 F => ?_)
  refine run_heq (h' := h0 ++ (h1 ++ (h2 ++ F))) (by simp only [List.append_assoc]) ?_
  repeat' (first
      | (refine j_go ?_; first
        | refine j_op0 rfl rfl rfl rfl ?_ | refine j_box rfl rfl rfl rfl rfl rfl ?_)
      | refine j_nil ?_
      | (refine r_go ?_; first | refine run_seq ?_ | refine run_region ?_)
      | refine seqQ_normal ?_)
  refine j_kCall rfl rfl rfl rfl ?_
  refine jcp _ (m_markInt64S _ _ _ (k0) o0 (by omega)) (List.Perm.refl _) (LeL.refl _) rfl rfl (fun v h1 hR => ?_)
  obtain ⟨rfl, rfl⟩ := hR
  repeat' (first
      | (refine j_go ?_; first
        | refine j_op0 rfl rfl rfl rfl ?_)
      | refine j_nil ?_
      | (refine r_go ?_; first | refine run_seq ?_ | refine run_region ?_)
      | refine seqQ_normal ?_)
  refine j_kCall rfl rfl rfl rfl ?_
  refine jcp _ (m_markBoolS _ _ _ (k0 + x.parents.length) o1 (by omega)) (List.Perm.refl _) (LeL.refl _) rfl rfl (fun v h1 hR => ?_)
  obtain ⟨rfl, rfl⟩ := hR
  repeat' (first
      | (refine j_go ?_; first
        | refine j_op0 rfl rfl rfl rfl ?_)
      | refine j_nil ?_
      | (refine r_go ?_; first | refine run_seq ?_ | refine run_region ?_)
      | refine seqQ_normal ?_)
  refine j_kCall rfl rfl rfl rfl ?_
  refine jcp _ (m_markPassRuleS _ _ _ (k0 + x.parents.length + x.free.length) o2 (by omega)) (List.Perm.refl _) (LeL.refl _) rfl rfl (fun v h1 hR => ?_)
  obtain ⟨rfl, rfl⟩ := hR
  repeat' (first
      | (refine j_go ?_; first
        | refine j_op0 rfl rfl rfl rfl ?_)
      | refine j_nil ?_
      | (refine r_go ?_; first | refine run_seq ?_ | refine run_region ?_ | refine run_ret ?_)
      | refine seqQ_normal ?_)
  exact endD_ret (h1 := []) rfl (.cons (.tmp rfl) .nil) (Le.refl _) ⟨ani (by omega), rfl⟩ (.inl rfl)

end Go.Proofs.YtmcljepicadjfaaGreatDoor

/-
  Stocks in memory of the call's own: their marks, and what is held of them. No condition but that the sizes are bounded.
-/
namespace Go.Proofs.YtmcljepicadjfaaGreatDoor
open Go.AI
set_option maxRecDepth 8000
set_option maxHeartbeats 1600000
def ROStock (x : Stock) (a : A) (h : Heap) : Prop := ∃ (a1 : A) (h1 : Heap), ROII x.cells a1 h1 ∧ ∃ (a2 : A) (h2 : Heap), ROI x.around a2 h2 ∧ a = .agg [a1, a2] ∧ h = h1 ++ h2
theorem ROStock.frz {x : Stock} {a : A} {h : Heap} (o : ROStock x a h) : Frz h a (.agg (encStock x)) := by
  obtain ⟨a1, h1, o1, a2, h2, o2, rfl, rfl⟩ := o
  exact Frz.agg (FrzL.cons (Frz.mono (fun _ hk => by simp [hk]) o1.frz) (FrzL.cons (Frz.mono (fun _ hk => by simp [hk]) o2.frz) (FrzL.nil _)))
theorem ROStock.frzF {x : Stock} {a : A} {h : Heap} (o : ROStock x a h) : FrzF h a (.agg (encStock x)) := by
  obtain ⟨a1, h1, o1, a2, h2, o2, rfl, rfl⟩ := o
  have q := FrzLF.cons o1.frzF (FrzLF.cons o2.frzF (FrzLF.nil (h := [])))
  rw [List.append_nil] at q
  exact FrzF.agg q
theorem ROStock.clo {x : Stock} {a : A} {h : Heap} (o : ROStock x a h) : Clo a ∧ CloH h := by
  obtain ⟨a1, h1, o1, a2, h2, o2, rfl, rfl⟩ := o
  exact ⟨Clo.agg (CloL.cons o1.clo.1 (CloL.cons o2.clo.1 CloL.nil)), o1.clo.2.append o2.clo.2⟩
theorem ROStock.cells {x : Stock} {a : A} {h : Heap} (o : ROStock x a h) : ∃ a0 a1, a = .agg [a0, a1] ∧ [a0, a1].all okCell = true := by
  obtain ⟨a1, h1, o1, a2, h2, o2, rfl, rfl⟩ := o
  exact ⟨a1, a2, rfl, by simp only [List.all_cons, List.all_nil, OwnLL.okc o1, OwnF.okc o2]; rfl⟩
def mkStock (k : Nat) (x : Stock) : Stock := ⟨markedII k x.cells, markedI (k + mcnt List.length x.cells) x.around.length⟩
def rcStock (x : Stock) : Nat := mcnt List.length x.cells + x.around.length
theorem r_markStock (x : Stock) (a : A) (h : Heap) (k0 : Nat) (o : ROStock x a h) (hk : k0 + rcStock x ≤ 4611686018427387904) : Does Tryz.prog 24 [a, .int (k0 : Int)] h (fun v h' => v = .int ((k0 + rcStock x : Nat) : Int) ∧ ROStock (mkStock k0 x) a h') := by
  obtain ⟨a1, h1, o1, a2, h2, o2, rfl, rfl⟩ := o
  unfold rcStock at hk
  refine fn_of_runD tyOk ztOk mix Tryz.func24 rfl (by decide) Tryz.ntmps24 (fun w0 F => ?_)
  refine run_heq (h' := h1 ++ (h2 ++ F)) (by simp only [List.append_assoc]) ?_
  repeat' (first
      | (refine j_go ?_; first
        | refine j_op0 rfl rfl rfl rfl ?_ | refine j_box rfl rfl rfl rfl rfl rfl ?_)
      | refine j_nil ?_
      | (refine r_go ?_; first | refine run_seq ?_ | refine run_region ?_)
      | refine seqQ_normal ?_)
  refine j_kCall rfl rfl rfl rfl ?_
  refine jcp _ (r_markII _ _ _ k0 o1 (by omega)) (List.Perm.refl _) (LeL.refl _) rfl rfl (fun v n1 hR => ?_)
  obtain ⟨rfl, p1⟩ := hR
  repeat' (first
      | (refine j_go ?_; first
        | refine j_op0 rfl rfl rfl rfl ?_)
      | refine j_nil ?_
      | (refine r_go ?_; first | refine run_seq ?_ | refine run_region ?_)
      | refine seqQ_normal ?_)
  refine j_kCall rfl rfl rfl rfl ?_
  refine jcp _ (r_markI _ _ _ (k0 + mcnt List.length x.cells) o2 (by omega)) (pmid0 (l1 := n1)) (LeL.refl _) rfl rfl (fun v n2 hR => ?_)
  obtain ⟨rfl, p2⟩ := hR
  repeat' (first
      | (refine j_go ?_; first
        | refine j_op0 rfl rfl rfl rfl ?_)
      | refine j_nil ?_
      | (refine r_go ?_; first | refine run_seq ?_ | refine run_region ?_ | refine run_ret ?_)
      | refine seqQ_normal ?_)
  refine endD_view (view_perm (h' := n1 ++ n2 ++ F) (by classical exact List.perm_iff_count.2 fun _ => by simp only [List.count_append]; omega)) ?_
  exact endD_ret (h1 := n1 ++ n2) rfl (.cons (.tmp rfl) .nil) (Le.refl _) ⟨ani (by unfold rcStock; omega), a1, n1, p1, a2, n2, p2, rfl, rfl⟩ (.inl rfl)
theorem c_heldStock (x : Stock) (k0 : Nat) (hk : k0 + rcStock x ≤ 4611686018427387904) : Gives Tryz.prog 25 [.agg (encStock (mkStock k0 x)), .int (k0 : Int)] (.int ((k0 + rcStock x : Nat) : Int)) := by
  unfold rcStock at hk
  refine fn_of_run tyOk ztOk mix Tryz.func25 rfl (by decide) Tryz.ntmps25 (fun w0 h => ?_)
  have q1 := c_heldInt64SS x.cells k0 (by omega)
  have q2 := c_heldInt64S (markedI (k0 + mcnt List.length x.cells) x.around.length) (k0 + mcnt List.length x.cells) (fun _ _ => markedI_get _) (by rw [markedI_len]; omega)
  rw [markedI_len] at q2
  repeat' (first
      | (refine j_go ?_; first
        | refine j_op0 rfl rfl rfl rfl ?_ | (refine j_kCall rfl rfl rfl rfl ?_; first | refine jc (q1) (LeL.refl _) rfl rfl ?_ | refine jc (q2) (LeL.refl _) rfl rfl ?_) | refine j_box rfl rfl rfl rfl rfl rfl ?_)
      | refine j_nil ?_
      | (refine r_go ?_; first | refine run_seq ?_ | refine run_region ?_ | (refine (run_if rfl (fun hb => ?_) (fun hb => ?_)) <;> first | (exfalso; omega) | skip) | refine run_ret ?_ | refine run_skip ?_)
      | refine seqQ_normal ?_)
  all_goals first | (exfalso; omega) | exact end1 rfl (List.Sublist.refl _) (ani (by unfold rcStock; omega)) (.inl rfl) | trace_state
end Go.Proofs.YtmcljepicadjfaaGreatDoor

/-
  The structs of theme 6, read as data. No condition.
-/
namespace Go.Proofs.YtmcljepicadjfaaGreatDoor
open Go.AI Go.RowKit

theorem own : ownKnob Tryz.prog.godebug = none := by kernel_rfl
theorem laidOut : laidOutB Tryz.prog = true := by kernel_rfl
theorem rdPassRule {H : Type} {enc : TypeId × Value → H} {W : World} : Rd enc Tryz.prog W 131 encPassRule :=
  rd_struct Tryz.underlying131 (m := 3) (by kernel_rfl) (rdFs_cons (z := 1) rfl (by kernel_rfl) (by decide) (rd_int Tryz.underlying2) (rdFs_cons (z := 1) rfl (by kernel_rfl) (by decide) (rd_slice (f := Go.AI.encI) (z := 1) Tryz.underlying24 (by kernel_rfl) (by decide) (fun _ => rfl) (rd_int Tryz.underlying2)) (rdFs_cons (z := 1) rfl (by kernel_rfl) (by decide) (rd_slice (f := Go.AI.encI) (z := 1) Tryz.underlying24 (by kernel_rfl) (by decide) (fun _ => rfl) (rd_int Tryz.underlying2)) rdFs_nil)))
    (fun p => (⟨p.1, p.2.1, p.2.2.1⟩ : PassRule)) (fun _ => rfl)
theorem rdPassing {H : Type} {enc : TypeId × Value → H} {W : World} : Rd enc Tryz.prog W 48 encPassing :=
  rd_struct Tryz.underlying48 (m := 4) (by kernel_rfl) (rdFs_cons (z := 1) rfl (by kernel_rfl) (by decide) (rd_int Tryz.underlying2) (rdFs_cons (z := 1) rfl (by kernel_rfl) (by decide) (rd_slice (f := Go.AI.encI) (z := 1) Tryz.underlying24 (by kernel_rfl) (by decide) (fun _ => rfl) (rd_int Tryz.underlying2)) (rdFs_cons (z := 1) rfl (by kernel_rfl) (by decide) (rd_slice (f := encB) (z := 1) Tryz.underlying25 (by kernel_rfl) (by decide) (fun _ => rfl) (rd_bool Tryz.underlying4)) (rdFs_cons (z := 1) rfl (by kernel_rfl) (by decide) (rd_slice (f := encPassRule) (z := 3) Tryz.underlying46 (by kernel_rfl) (by decide) (fun _ => rfl) rdPassRule) rdFs_nil))))
    (fun p => (⟨p.1, p.2.1, p.2.2.1, p.2.2.2.1⟩ : Passing)) (fun _ => rfl)
end Go.Proofs.YtmcljepicadjfaaGreatDoor
