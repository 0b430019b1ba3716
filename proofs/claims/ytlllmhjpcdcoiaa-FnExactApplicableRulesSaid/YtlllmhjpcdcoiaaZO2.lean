/-
  Copies of the data of theme 2 in memory of the call's own, and their marks. No condition but that the sizes are bounded.
-/
import Derived.Test.YtlllmhjpcdcoiaaZG2
import Derived.Test.YtlllmhjpcdcoiaaZS5
namespace Go.Proofs.Ytlllmhjpcdcoiaa
open Go.AI
set_option maxRecDepth 8000
set_option maxHeartbeats 1600000

def cntInto (x : Into) : Nat := 1 + x.bag.length
def EInto (x : Into) (cs : List A) (h : Heap) : Prop := ∃ (a0 : A) (h0 : Heap), OwnSl EI 2 1 x.bag a0 h0 ∧ cs = [.int x.cell, a0] ∧ h = h0
theorem cntInto_le {x : Into} (hx : OkInto x) : cntInto x ≤ 1048577 := by
  obtain ⟨k0⟩ := hx
  unfold cntInto
  omega
theorem EInto_frz (x : Into) (cs : List A) (h : Heap) (q : EInto x cs h) : FrzL h cs (encInto x) := by
  obtain ⟨a0, h0, o0, rfl, rfl⟩ := q
  exact (FrzL.cons (Frz.same _ _) (FrzL.cons (Frz.mono (fun _ hk => by simp [hk]) (o0.frz (fun _ => rfl) EI_frz)) (FrzL.nil _)))
theorem EInto_len {x : Into} {cs : List A} {h : Heap} (q : EInto x cs h) : cs.length = 2 := by
  obtain ⟨a0, h0, o0, rfl, rfl⟩ := q
  rfl
theorem EInto_ok {x : Into} {cs : List A} {h : Heap} (q : EInto x cs h) : cs.all okCell = true := by
  obtain ⟨a0, h0, o0, rfl, rfl⟩ := q
  obtain ⟨b0, rfl⟩ := o0.isos
  rfl
theorem n_toInto (x : Into) (hx : OkInto x) : Does Try.prog 70 [.agg (encInto x)] [] (fun v h' => ∃ cs, v = .agg cs ∧ EInto x cs h') := by
  obtain ⟨k0⟩ := hx
  refine Does.drop (R := fun v h' => ∃ cs k hh, v = .agg cs ∧ EInto x cs hh ∧ h'.Perm (k :: hh)) ?_ (fun v h' ⟨cs, k, hh, q1, q2, q3⟩ => ⟨_, hh, q3, List.sublist_cons_self _ _, cs, q1, q2⟩)
  refine fn_of_runD tyOk ztOk mix Try.func70 rfl (by decide) Try.ntmps70 (fun w0 F => ?_)
  change Run _ _ _ _ _ F
  repeat' (first
      | (refine j_go ?_; first
        | refine j_op0 rfl rfl rfl rfl ?_ | (refine j_kStore rfl ?_; first | refine j_store 0 rfl rfl rfl rfl rfl rfl rfl rfl rfl rfl rfl ?_) | refine j_box rfl rfl rfl rfl rfl rfl ?_ | refine j_alloc rfl rfl rfl rfl rfl (fun _ => ?_))
      | refine j_nil ?_
      | (refine r_go ?_; first | refine run_seq ?_ | refine run_region ?_)
      | refine seqQ_normal ?_)
  refine j_kCall rfl rfl rfl rfl ?_
  refine jcp _ (n_toInt64S _ k0) (List.Perm.refl _) (LeL.refl _) rfl rfl (fun v0 h0 o0 => ?_)
  refine j_view (view_perm perm2) ?_
  obtain ⟨b0, rfl⟩ := o0.isos
  repeat' (first
      | (refine j_go ?_; first
        | refine j_op0 rfl rfl rfl rfl ?_ | (refine j_kLoad rfl ?_; first | refine j_mload 0 rfl rfl rfl rfl rfl rfl rfl ?_) | (refine j_kStore rfl ?_; first | refine j_store 0 rfl rfl rfl rfl rfl rfl rfl rfl rfl rfl rfl ?_ | refine j_storeN 1 rfl rfl rfl rfl rfl rfl rfl rfl rfl rfl rfl ?_))
      | refine j_nil ?_
      | (refine r_go ?_; first | refine run_seq ?_ | refine run_region ?_ | refine run_ret ?_)
      | refine seqQ_normal ?_)
  refine endD_view (view_erase 0) ?_
  exact endD_ret (h1 := _ :: (h0)) (congrArg (List.cons _) (show h0 ++ F = (h0) ++ F by simp only [List.append_assoc])) (.cons (.cellM rfl (List.mem_cons_self ..) rfl) .nil) (Le.refl _) ⟨_, _, h0, rfl, ⟨_, h0, o0, rfl, rfl⟩, .cons _ (List.Perm.refl _)⟩ (.inl rfl)
theorem n_toIntoS (l : List (Into)) (hl : l.length ≤ 1048576) (hl2 : ∀ x ∈ l, OkInto x) : Does Try.prog 54 [.sl (l.map encInto)] [] (fun v h' => OwnSl EInto 87 2 l v h') := by
  refine fn_of_runD tyOk ztOk mix Try.func54 rfl (by decide) Try.ntmps54 (fun w0 F => ?_)
  change Run _ _ _ _ _ F
  repeat' (first
      | (refine j_go ?_; first
        | refine j_op0 rfl rfl rfl rfl ?_ | (refine j_kLen rfl ?_; first | refine j_len rfl rfl rfl rfl rfl rfl ?_))
      | refine j_nil ?_
      | (refine r_go ?_; first | refine run_seq ?_ | refine run_region ?_)
      | refine seqQ_normal ?_)
  refine j_makeI (g := Subtype.val) (⟨[.int 0, .sl []], rfl⟩ : Cells 2) rfl rfl rfl rfl rfl rfl rfl rfl rfl (by omega) rfl rfl (fun b => ?_)
  repeat' (first
      | (refine j_go ?_; first
        | refine j_op0 rfl rfl rfl rfl ?_)
      | refine j_nil ?_
      | (refine r_go ?_; first | refine run_seq ?_ | refine run_region ?_ | refine run_block ?_)
      | refine seqQ_normal ?_)
  refine run_loop (fun s : Nat × List (Cells 2) × List Heap => [(0, .sl (l.map encInto)), (3, .os (some b) l.length l.length), (4, .int (s.1 : Int))])
      (fun s => ⟨some b, 87, l.length * 2, ((s.2.1 ++ List.replicate (l.length - s.1) (⟨[.int 0, .sl []], rfl⟩ : Cells 2)).map Subtype.val).flatten⟩ :: (s.2.2.flatten ++ F))
      (fun s => s.1 ≤ l.length ∧ s.2.1.length = s.1 ∧ s.2.2.length = s.1 ∧ ∀ i (hi : i < l.length) (h1 : i < s.2.1.length) (h2 : i < s.2.2.length), EInto l[i] s.2.1[i].1 s.2.2[i]) (fun s => l.length - s.1) (0, [], []) ⟨rfl, rfl, rfl, trivial⟩ (by simp) ⟨by simp, rfl, rfl, fun i _ h1 => absurd h1 (Nat.not_lt_zero _)⟩ ?_
  intro ⟨k, css, hs⟩ ⟨g1, g2, g3, g4⟩
  dsimp only at g1 g2 g3 g4 ⊢
  repeat' (first
      | (refine j_go ?_; first
        | refine j_op0 rfl rfl rfl rfl ?_ | (refine j_kIdx rfl ?_; first | refine j_idx rfl rfl rfl rfl rfl (by omega) rfl rfl rfl ?_) | (refine j_kLen rfl ?_; first | refine j_len rfl rfl rfl rfl rfl rfl ?_))
      | refine j_nil ?_
      | (refine r_go ?_; first | refine run_seq ?_ | refine run_region ?_ | (refine (run_if rfl (fun hb => ?_) (fun hb => ?_)) <;> first | (exfalso; omega) | skip) | refine run_block ?_ | refine run_ret ?_ | refine run_exit ?_ | refine run_skip ?_)
      | refine seqQ_normal ?_ | refine seqQ_exit ?_ | refine blockQ_eq ?_ | refine loopQ_exit ?_)
  · have hk : k < l.length := by omega
    refine j_kCall rfl rfl rfl rfl ?_
    refine jcp _ (n_toInto l[k] (hl2 _ (List.getElem_mem _))) (List.Perm.refl _) (LeL.refl _) rfl rfl (fun v h1 hR => ?_)
    obtain ⟨cs, rfl, hE⟩ := hR
    have hok := EInto_ok hE
    repeat' (first
      | (refine j_go ?_; first
        | (refine j_kIdx rfl ?_; first | refine j_midx rfl rfl rfl rfl rfl (by first | omega | (simp only [List.length_append, List.length_cons, List.length_nil]; omega)) rfl rfl ?_)))
    refine j_view (view_perm List.perm_middle) ?_
    refine j_storeE 0 k (g := Subtype.val) (⟨cs, EInto_len hE⟩ : Cells 2) rfl rfl rfl rfl rfl rfl rfl rfl hok (fun y => y.2 : ∀ y : Cells 2, y.1.length = 2) rfl (by simp; omega) ?_
    repeat' (first
      | (refine j_go ?_; first
        | refine j_op0 rfl rfl rfl rfl ?_ | (refine j_kBin rfl ?_; first | refine j_in rfl rfl ⟨by omega, by omega⟩ rfl rfl ?_))
      | refine j_nil ?_
      | (refine r_go ?_; first | refine run_region ?_)
      | refine seqQ_normal ?_ | refine blockQ_normal ?_)
    refine loopQ_view (view_perm (h' := ⟨some b, 87, l.length * 2, (((css ++ [(⟨cs, EInto_len hE⟩ : Cells 2)]) ++ List.replicate (l.length - (k + 1)) (⟨[.int 0, .sl []], rfl⟩ : Cells 2)).map Subtype.val).flatten⟩ :: ((hs ++ [h1]).flatten ++ F)) (by rw [app_rep_set g2 hk]; exact .cons _ (by simp only [List.flatten_append, List.flatten_cons, List.flatten_nil, List.append_nil]; exact (by classical exact List.perm_iff_count.2 fun _ => by simp only [List.count_append, List.count_cons, List.count_nil, Nat.add_zero, Nat.zero_add]; first | done | ac_rfl | omega)))) ?_
    exact loopQ_next (k + 1, css ++ [(⟨cs, EInto_len hE⟩ : Cells 2)], hs ++ [h1]) ⟨by dsimp only; omega, by simp [g2], by simp [g3], fun i hi h1' h2' => own_snoc g2 g3 (hl := hk) g4 hE i hi h1' h2'⟩ (by dsimp only; omega) rfl ⟨rfl, rfl, nx _, trivial⟩
  · have : k = l.length := by omega
    subst this
    exact endD_ret (h1 := ⟨some b, 87, l.length * 2, (css.map Subtype.val).flatten⟩ :: hs.flatten) (by simp) (.cons (.tmp rfl) .nil) (Le.refl _) ⟨b, css, hs, g2, g3, g4, rfl, rfl⟩ (.inl rfl)
theorem m_markIntoS (l : List (Into)) (a : A) (h : Heap) (k0 : Nat) (ho : OwnSl EInto 87 2 l a h) (hk : k0 + mcnt cntInto l ≤ 4611686018427387904) : Does Try.prog 46 [a, .int (k0 : Int)] h (fun v h' => v = .int ((k0 + mcnt cntInto l : Nat) : Int) ∧ h' = []) := by
  obtain ⟨b, css, hs, l1, l2, hall, rfl, rfl⟩ := ho
  refine fn_of_runD tyOk ztOk mix Try.func46 rfl (by decide) Try.ntmps46 (fun w0 F => ?_)
  change Run _ _ _ _ _ (⟨some b, 87, l.length * 2, (css.map Subtype.val).flatten⟩ :: (hs.flatten ++ F))
  refine run_olen (t := 0) rfl (fun hol => ?_)
  repeat' (first
      | (refine j_go ?_; first
        | refine j_op0 rfl rfl rfl rfl ?_)
      | refine j_nil ?_
      | (refine r_go ?_; first | refine run_seq ?_ | refine run_region ?_ | refine run_block ?_)
      | refine seqQ_normal ?_)
  refine run_loop (fun s : Nat × Nat × List (Cells 2) => [(0, .os (some b) l.length l.length), (1, .int (s.2.1 : Int)), (5, .int (s.1 : Int))])
    (fun s => ⟨some b, 87, l.length * 2, (s.2.2.map Subtype.val).flatten⟩ :: ((hs.drop s.1).flatten ++ F))
    (fun s => s.1 ≤ l.length ∧ s.2.1 = k0 + mcnt cntInto (l.take s.1) ∧ s.2.2.length = l.length ∧ ∀ i, s.1 ≤ i → s.2.2[i]? = css[i]?) (fun s => l.length - s.1) (0, k0, css) ⟨rfl, rfl, rfl, trivial⟩ (by simp) ⟨by simp, by simp [mcnt], l1, fun _ _ => rfl⟩ ?_
  intro ⟨k, kv, cc⟩ ⟨g1, g2, g3, g4⟩
  dsimp only at g1 g2 g3 g4 ⊢
  by_cases hkl : k < l.length
  · have hc1 : k < css.length := by omega
    have hc2 : k < hs.length := by omega
    have hc3 : k < cc.length := by omega
    have e1 : cc[k] = css[k] := by have := g4 k (Nat.le_refl _); simpa [hc1, hc3] using this
    have hsn := mcnt_take (f := cntInto) hkl
    have hlt := mcnt_take_le (f := cntInto) (k + 1) l
    have hd : (hs.drop k).flatten = hs[k] ++ (hs.drop (k + 1)).flatten := by rw [List.drop_eq_getElem_cons hc2]; rfl
    obtain ⟨a0, h0, o0, ea, eh⟩ := hall k hkl hc1 hc2
    have hcn : cntInto l[k] = 1 + l[k].bag.length := rfl
    have e0 : cc = cc.set k (⟨[.int l[k].cell, a0], rfl⟩ : Cells 2) := set_own hc3 (by rw [e1, ea])
    obtain ⟨b0, eb0⟩ := o0.isos
    refine run_heq (h' := ⟨some b, 87, l.length * 2, ((cc.set k (⟨[.int l[k].cell, a0], rfl⟩ : Cells 2)).map Subtype.val).flatten⟩ :: (h0 ++ ((hs.drop (k + 1)).flatten ++ F))) (by rw [← e0, hd, eh]; simp only [List.append_assoc]) ?_
    clear eh
    subst eb0
    repeat' (first
      | (refine j_go ?_; first
        | refine j_op0 rfl rfl rfl rfl ?_ | (refine j_kIdx rfl ?_; first | refine j_midx rfl rfl rfl rfl rfl (by first | omega | (simp only [List.length_append, List.length_cons, List.length_nil]; omega)) rfl rfl ?_) | (refine j_kLen rfl ?_; first | refine j_op rfl rfl rfl rfl ?_))
      | refine j_nil ?_
      | (refine r_go ?_; first | refine run_seq ?_ | refine run_region ?_ | (refine (run_if rfl (fun hb => ?_) (fun hb => ?_)) <;> first | (exfalso; omega) | skip) | refine run_block ?_ | refine run_skip ?_)
      | refine seqQ_normal ?_)
    refine j_storeS 0 k 0 rfl rfl rfl rfl rfl rfl rfl rfl rfl rfl rfl hc3 rfl ?_
    repeat' (first
      | (refine j_go ?_; first
        | refine j_op0 rfl rfl rfl rfl ?_ | (refine j_kIdx rfl ?_; first | refine j_midx rfl rfl rfl rfl rfl (by first | omega | (simp only [List.length_append, List.length_cons, List.length_nil]; omega)) rfl rfl ?_) | (refine j_kBin rfl ?_; first | refine j_in rfl rfl ⟨by omega, by omega⟩ rfl rfl ?_))
      | refine j_nil ?_
      | (refine r_go ?_; first | refine run_seq ?_ | refine run_region ?_)
      | refine seqQ_normal ?_)
    refine j_loadS 0 k 1 rfl rfl rfl rfl rfl hc3 rfl (fun rest => rfl) rfl rfl ?_
    repeat' (first
      | (refine j_go ?_; first
        | refine j_op0 rfl rfl rfl rfl ?_))
    refine j_kCall rfl rfl rfl rfl ?_
    refine jcp _ (m_markInt64S _ _ _ (kv + 1) o0 (by first | omega | (simp only [cntInto] at *; omega))) List.perm_middle.symm (LeL.refl _) rfl rfl (fun v h1 hR => ?_)
    obtain ⟨rfl, rfl⟩ := hR
    repeat' (first
      | (refine j_go ?_; first
        | refine j_op0 rfl rfl rfl rfl ?_ | (refine j_kBin rfl ?_; first | refine j_in rfl rfl ⟨by omega, by omega⟩ rfl rfl ?_))
      | refine j_nil ?_
      | (refine r_go ?_; first | refine run_region ?_)
      | refine seqQ_normal ?_ | refine blockQ_normal ?_)
    refine loopQ_nextS (c := ?c) (k + 1) (kv + 1 + l[k].bag.length) cc k ?g1 ?g2 ?g3 ?g4
    case g3 => rfl
    case g4 => exact ⟨rfl, rfl, nx _, trivial⟩
    case g2 => dsimp only; omega
    case g1 => exact ⟨by dsimp only; omega, by dsimp only; rw [hsn, hcn]; omega, by dsimp only; rw [List.length_set]; omega, fun i hi => by dsimp only at hi ⊢; rw [List.getElem?_set_ne (by omega)]; exact g4 i (by omega)⟩
  · repeat' (first
      | (refine j_go ?_; first
        | refine j_op0 rfl rfl rfl rfl ?_ | (refine j_kLen rfl ?_; first | refine j_op rfl rfl rfl rfl ?_))
      | refine j_nil ?_
      | (refine r_go ?_; first | refine run_seq ?_ | refine run_region ?_ | (refine (run_if rfl (fun hb => ?_) (fun hb => ?_)) <;> first | (exfalso; omega) | skip) | refine run_ret ?_ | refine run_exit ?_)
      | refine seqQ_normal ?_ | refine seqQ_exit ?_ | refine blockQ_eq ?_ | refine loopQ_exit ?_)
    have : k = l.length := by omega
    subst this
    rw [List.take_length] at g2
    subst g2
    exact endD_view (view_sub (h0 := [] ++ F) (by simp)) (endD_ret (h1 := []) rfl (.cons (.tmp rfl) .nil) (Le.refl _) ⟨rfl, rfl⟩ (.inl rfl))

def cntRule (x : Rule) : Nat := 1 + 1 + x.need.length + x.have_.length + x.lack.length + x.here.length + x.out.length + mcnt cntInto x.into + 1
def ERule (x : Rule) (cs : List A) (h : Heap) : Prop := ∃ (a0 : A) (h0 : Heap), OwnSl EI 2 1 x.need a0 h0 ∧ ∃ (a1 : A) (h1 : Heap), OwnSl EI 2 1 x.have_ a1 h1 ∧ ∃ (a2 : A) (h2 : Heap), OwnSl EI 2 1 x.lack a2 h2 ∧ ∃ (a3 : A) (h3 : Heap), OwnSl EI 2 1 x.here a3 h3 ∧ ∃ (a4 : A) (h4 : Heap), OwnSl EI 2 1 x.out a4 h4 ∧ ∃ (a5 : A) (h5 : Heap), OwnSl EInto 87 2 x.into a5 h5 ∧ cs = [.int x.cell, .int x.rank, a0, a1, a2, a3, a4, a5, .raw (.bool x.melts)] ∧ h = h0 ++ (h1 ++ (h2 ++ (h3 ++ (h4 ++ (h5)))))
theorem cntRule_le {x : Rule} (hx : OkRule x) : cntRule x ≤ 1099517919235 := by
  obtain ⟨k0, k1, k2, k3, k4, ⟨k5, m5⟩⟩ := hx
  have e5 := mcnt_le2 (f := cntInto) k5 (fun y hy => cntInto_le (m5 y hy))
  unfold cntRule
  omega
theorem ERule_frz (x : Rule) (cs : List A) (h : Heap) (q : ERule x cs h) : FrzL h cs (encRule x) := by
  obtain ⟨a0, h0, o0, a1, h1, o1, a2, h2, o2, a3, h3, o3, a4, h4, o4, a5, h5, o5, rfl, rfl⟩ := q
  exact (FrzL.cons (Frz.same _ _) (FrzL.cons (Frz.same _ _) (FrzL.cons (Frz.mono (fun _ hk => by simp [hk]) (o0.frz (fun _ => rfl) EI_frz)) (FrzL.cons (Frz.mono (fun _ hk => by simp [hk]) (o1.frz (fun _ => rfl) EI_frz)) (FrzL.cons (Frz.mono (fun _ hk => by simp [hk]) (o2.frz (fun _ => rfl) EI_frz)) (FrzL.cons (Frz.mono (fun _ hk => by simp [hk]) (o3.frz (fun _ => rfl) EI_frz)) (FrzL.cons (Frz.mono (fun _ hk => by simp [hk]) (o4.frz (fun _ => rfl) EI_frz)) (FrzL.cons (Frz.mono (fun _ hk => by simp [hk]) (o5.frz (fun _ => rfl) EInto_frz)) (FrzL.cons (Frz.same _ _) (FrzL.nil _))))))))))
theorem ERule_len {x : Rule} {cs : List A} {h : Heap} (q : ERule x cs h) : cs.length = 9 := by
  obtain ⟨a0, h0, o0, a1, h1, o1, a2, h2, o2, a3, h3, o3, a4, h4, o4, a5, h5, o5, rfl, rfl⟩ := q
  rfl
theorem ERule_ok {x : Rule} {cs : List A} {h : Heap} (q : ERule x cs h) : cs.all okCell = true := by
  obtain ⟨a0, h0, o0, a1, h1, o1, a2, h2, o2, a3, h3, o3, a4, h4, o4, a5, h5, o5, rfl, rfl⟩ := q
  obtain ⟨b0, rfl⟩ := o0.isos
  obtain ⟨b1, rfl⟩ := o1.isos
  obtain ⟨b2, rfl⟩ := o2.isos
  obtain ⟨b3, rfl⟩ := o3.isos
  obtain ⟨b4, rfl⟩ := o4.isos
  obtain ⟨b5, rfl⟩ := o5.isos
  rfl
theorem n_toRule (x : Rule) (hx : OkRule x) : Does Try.prog 40 [.agg (encRule x)] [] (fun v h' => ∃ cs, v = .agg cs ∧ ERule x cs h') := by
  obtain ⟨k0, k1, k2, k3, k4, ⟨k5, m5⟩⟩ := hx
  refine Does.drop (R := fun v h' => ∃ cs k hh, v = .agg cs ∧ ERule x cs hh ∧ h'.Perm (k :: hh)) ?_ (fun v h' ⟨cs, k, hh, q1, q2, q3⟩ => ⟨_, hh, q3, List.sublist_cons_self _ _, cs, q1, q2⟩)
  refine fn_of_runD tyOk ztOk mix Try.func40 rfl (by decide) Try.ntmps40 (fun w0 F => ?_)
  change Run _ _ _ _ _ F
  repeat' (first
      | (refine j_go ?_; first
        | refine j_op0 rfl rfl rfl rfl ?_ | (refine j_kStore rfl ?_; first | refine j_store 0 rfl rfl rfl rfl rfl rfl rfl rfl rfl rfl rfl ?_) | refine j_box rfl rfl rfl rfl rfl rfl ?_ | refine j_alloc rfl rfl rfl rfl rfl (fun _ => ?_))
      | refine j_nil ?_
      | (refine r_go ?_; first | refine run_seq ?_ | refine run_region ?_)
      | refine seqQ_normal ?_)
  refine j_kCall rfl rfl rfl rfl ?_
  refine jcp _ (n_toInt64S _ k0) (List.Perm.refl _) (LeL.refl _) rfl rfl (fun v0 h0 o0 => ?_)
  refine j_view (view_perm perm2) ?_
  obtain ⟨b0, rfl⟩ := o0.isos
  repeat' (first
      | (refine j_go ?_; first
        | refine j_op0 rfl rfl rfl rfl ?_ | (refine j_kStore rfl ?_; first | refine j_store 0 rfl rfl rfl rfl rfl rfl rfl rfl rfl rfl rfl ?_))
      | refine j_nil ?_
      | (refine r_go ?_; first | refine run_seq ?_ | refine run_region ?_)
      | refine seqQ_normal ?_)
  refine j_kCall rfl rfl rfl rfl ?_
  refine jcp _ (n_toInt64S _ k1) (List.Perm.refl _) (LeL.refl _) rfl rfl (fun v1 h1 o1 => ?_)
  refine j_view (view_perm perm2) ?_
  obtain ⟨b1, rfl⟩ := o1.isos
  repeat' (first
      | (refine j_go ?_; first
        | refine j_op0 rfl rfl rfl rfl ?_ | (refine j_kStore rfl ?_; first | refine j_store 0 rfl rfl rfl rfl rfl rfl rfl rfl rfl rfl rfl ?_))
      | refine j_nil ?_
      | (refine r_go ?_; first | refine run_seq ?_ | refine run_region ?_)
      | refine seqQ_normal ?_)
  refine j_kCall rfl rfl rfl rfl ?_
  refine jcp _ (n_toInt64S _ k2) (List.Perm.refl _) (LeL.refl _) rfl rfl (fun v2 h2 o2 => ?_)
  refine j_view (view_perm perm2) ?_
  obtain ⟨b2, rfl⟩ := o2.isos
  repeat' (first
      | (refine j_go ?_; first
        | refine j_op0 rfl rfl rfl rfl ?_ | (refine j_kStore rfl ?_; first | refine j_store 0 rfl rfl rfl rfl rfl rfl rfl rfl rfl rfl rfl ?_))
      | refine j_nil ?_
      | (refine r_go ?_; first | refine run_seq ?_ | refine run_region ?_)
      | refine seqQ_normal ?_)
  refine j_kCall rfl rfl rfl rfl ?_
  refine jcp _ (n_toInt64S _ k3) (List.Perm.refl _) (LeL.refl _) rfl rfl (fun v3 h3 o3 => ?_)
  refine j_view (view_perm perm2) ?_
  obtain ⟨b3, rfl⟩ := o3.isos
  repeat' (first
      | (refine j_go ?_; first
        | refine j_op0 rfl rfl rfl rfl ?_ | (refine j_kStore rfl ?_; first | refine j_store 0 rfl rfl rfl rfl rfl rfl rfl rfl rfl rfl rfl ?_))
      | refine j_nil ?_
      | (refine r_go ?_; first | refine run_seq ?_ | refine run_region ?_)
      | refine seqQ_normal ?_)
  refine j_kCall rfl rfl rfl rfl ?_
  refine jcp _ (n_toInt64S _ k4) (List.Perm.refl _) (LeL.refl _) rfl rfl (fun v4 h4 o4 => ?_)
  refine j_view (view_perm perm2) ?_
  obtain ⟨b4, rfl⟩ := o4.isos
  repeat' (first
      | (refine j_go ?_; first
        | refine j_op0 rfl rfl rfl rfl ?_ | (refine j_kStore rfl ?_; first | refine j_store 0 rfl rfl rfl rfl rfl rfl rfl rfl rfl rfl rfl ?_))
      | refine j_nil ?_
      | (refine r_go ?_; first | refine run_seq ?_ | refine run_region ?_)
      | refine seqQ_normal ?_)
  refine j_kCall rfl rfl rfl rfl ?_
  refine jcp _ (n_toIntoS _ k5 m5) (List.Perm.refl _) (LeL.refl _) rfl rfl (fun v5 h5 o5 => ?_)
  refine j_view (view_perm perm2) ?_
  obtain ⟨b5, rfl⟩ := o5.isos
  repeat' (first
      | (refine j_go ?_; first
        | refine j_op0 rfl rfl rfl rfl ?_ | (refine j_kLoad rfl ?_; first | refine j_mload 0 rfl rfl rfl rfl rfl rfl rfl ?_) | (refine j_kStore rfl ?_; first | refine j_store 0 rfl rfl rfl rfl rfl rfl rfl rfl rfl rfl rfl ?_ | refine j_storeN 1 rfl rfl rfl rfl rfl rfl rfl rfl rfl rfl rfl ?_))
      | refine j_nil ?_
      | (refine r_go ?_; first | refine run_seq ?_ | refine run_region ?_ | refine run_ret ?_)
      | refine seqQ_normal ?_)
  refine endD_view (view_erase 0) ?_
  exact endD_ret (h1 := _ :: (h5 ++ (h4 ++ (h3 ++ (h2 ++ (h1 ++ (h0))))))) (congrArg (List.cons _) (show h5 ++ (h4 ++ (h3 ++ (h2 ++ (h1 ++ (h0 ++ F))))) = (h5 ++ (h4 ++ (h3 ++ (h2 ++ (h1 ++ (h0)))))) ++ F by simp only [List.append_assoc])) (.cons (.cellM rfl (List.mem_cons_self ..) rfl) .nil) (Le.refl _) ⟨_, _, h0 ++ (h1 ++ (h2 ++ (h3 ++ (h4 ++ (h5))))), rfl, ⟨_, h0, o0, _, h1, o1, _, h2, o2, _, h3, o3, _, h4, o4, _, h5, o5, rfl, rfl⟩, .cons _ (by classical exact List.perm_iff_count.2 fun _ => by simp only [List.count_append, List.count_cons, List.count_nil, Nat.add_zero, Nat.zero_add]; first | done | ac_rfl | omega)⟩ (.inl rfl)
theorem n_toRuleS (l : List (Rule)) (hl : l.length ≤ 1048576) (hl2 : ∀ x ∈ l, OkRule x) : Does Try.prog 24 [.sl (l.map encRule)] [] (fun v h' => OwnSl ERule 72 9 l v h') := by
  refine fn_of_runD tyOk ztOk mix Try.func24 rfl (by decide) Try.ntmps24 (fun w0 F => ?_)
  change Run _ _ _ _ _ F
  repeat' (first
      | (refine j_go ?_; first
        | refine j_op0 rfl rfl rfl rfl ?_ | (refine j_kLen rfl ?_; first | refine j_len rfl rfl rfl rfl rfl rfl ?_))
      | refine j_nil ?_
      | (refine r_go ?_; first | refine run_seq ?_ | refine run_region ?_)
      | refine seqQ_normal ?_)
  refine j_makeI (g := Subtype.val) (⟨[.int 0, .int 0, .sl [], .sl [], .sl [], .sl [], .sl [], .sl [], .raw (.bool false)], rfl⟩ : Cells 9) rfl rfl rfl rfl rfl rfl rfl rfl rfl (by omega) rfl rfl (fun b => ?_)
  repeat' (first
      | (refine j_go ?_; first
        | refine j_op0 rfl rfl rfl rfl ?_)
      | refine j_nil ?_
      | (refine r_go ?_; first | refine run_seq ?_ | refine run_region ?_ | refine run_block ?_)
      | refine seqQ_normal ?_)
  refine run_loop (fun s : Nat × List (Cells 9) × List Heap => [(0, .sl (l.map encRule)), (3, .os (some b) l.length l.length), (4, .int (s.1 : Int))])
      (fun s => ⟨some b, 72, l.length * 9, ((s.2.1 ++ List.replicate (l.length - s.1) (⟨[.int 0, .int 0, .sl [], .sl [], .sl [], .sl [], .sl [], .sl [], .raw (.bool false)], rfl⟩ : Cells 9)).map Subtype.val).flatten⟩ :: (s.2.2.flatten ++ F))
      (fun s => s.1 ≤ l.length ∧ s.2.1.length = s.1 ∧ s.2.2.length = s.1 ∧ ∀ i (hi : i < l.length) (h1 : i < s.2.1.length) (h2 : i < s.2.2.length), ERule l[i] s.2.1[i].1 s.2.2[i]) (fun s => l.length - s.1) (0, [], []) ⟨rfl, rfl, rfl, trivial⟩ (by simp) ⟨by simp, rfl, rfl, fun i _ h1 => absurd h1 (Nat.not_lt_zero _)⟩ ?_
  intro ⟨k, css, hs⟩ ⟨g1, g2, g3, g4⟩
  dsimp only at g1 g2 g3 g4 ⊢
  repeat' (first
      | (refine j_go ?_; first
        | refine j_op0 rfl rfl rfl rfl ?_ | (refine j_kIdx rfl ?_; first | refine j_idx rfl rfl rfl rfl rfl (by omega) rfl rfl rfl ?_) | (refine j_kLen rfl ?_; first | refine j_len rfl rfl rfl rfl rfl rfl ?_))
      | refine j_nil ?_
      | (refine r_go ?_; first | refine run_seq ?_ | refine run_region ?_ | (refine (run_if rfl (fun hb => ?_) (fun hb => ?_)) <;> first | (exfalso; omega) | skip) | refine run_block ?_ | refine run_ret ?_ | refine run_exit ?_ | refine run_skip ?_)
      | refine seqQ_normal ?_ | refine seqQ_exit ?_ | refine blockQ_eq ?_ | refine loopQ_exit ?_)
  · have hk : k < l.length := by omega
    refine j_kCall rfl rfl rfl rfl ?_
    refine jcp _ (n_toRule l[k] (hl2 _ (List.getElem_mem _))) (List.Perm.refl _) (LeL.refl _) rfl rfl (fun v h1 hR => ?_)
    obtain ⟨cs, rfl, hE⟩ := hR
    have hok := ERule_ok hE
    repeat' (first
      | (refine j_go ?_; first
        | (refine j_kIdx rfl ?_; first | refine j_midx rfl rfl rfl rfl rfl (by first | omega | (simp only [List.length_append, List.length_cons, List.length_nil]; omega)) rfl rfl ?_)))
    refine j_view (view_perm List.perm_middle) ?_
    refine j_storeE 0 k (g := Subtype.val) (⟨cs, ERule_len hE⟩ : Cells 9) rfl rfl rfl rfl rfl rfl rfl rfl hok (fun y => y.2 : ∀ y : Cells 9, y.1.length = 9) rfl (by simp; omega) ?_
    repeat' (first
      | (refine j_go ?_; first
        | refine j_op0 rfl rfl rfl rfl ?_ | (refine j_kBin rfl ?_; first | refine j_in rfl rfl ⟨by omega, by omega⟩ rfl rfl ?_))
      | refine j_nil ?_
      | (refine r_go ?_; first | refine run_region ?_)
      | refine seqQ_normal ?_ | refine blockQ_normal ?_)
    refine loopQ_view (view_perm (h' := ⟨some b, 72, l.length * 9, (((css ++ [(⟨cs, ERule_len hE⟩ : Cells 9)]) ++ List.replicate (l.length - (k + 1)) (⟨[.int 0, .int 0, .sl [], .sl [], .sl [], .sl [], .sl [], .sl [], .raw (.bool false)], rfl⟩ : Cells 9)).map Subtype.val).flatten⟩ :: ((hs ++ [h1]).flatten ++ F)) (by rw [app_rep_set g2 hk]; exact .cons _ (by simp only [List.flatten_append, List.flatten_cons, List.flatten_nil, List.append_nil]; exact (by classical exact List.perm_iff_count.2 fun _ => by simp only [List.count_append, List.count_cons, List.count_nil, Nat.add_zero, Nat.zero_add]; first | done | ac_rfl | omega)))) ?_
    exact loopQ_next (k + 1, css ++ [(⟨cs, ERule_len hE⟩ : Cells 9)], hs ++ [h1]) ⟨by dsimp only; omega, by simp [g2], by simp [g3], fun i hi h1' h2' => own_snoc g2 g3 (hl := hk) g4 hE i hi h1' h2'⟩ (by dsimp only; omega) rfl ⟨rfl, rfl, nx _, trivial⟩
  · have : k = l.length := by omega
    subst this
    exact endD_ret (h1 := ⟨some b, 72, l.length * 9, (css.map Subtype.val).flatten⟩ :: hs.flatten) (by simp) (.cons (.tmp rfl) .nil) (Le.refl _) ⟨b, css, hs, g2, g3, g4, rfl, rfl⟩ (.inl rfl)
theorem m_markRuleS (l : List (Rule)) (a : A) (h : Heap) (k0 : Nat) (ho : OwnSl ERule 72 9 l a h) (hk : k0 + mcnt cntRule l ≤ 4611686018427387904) : Does Try.prog 32 [a, .int (k0 : Int)] h (fun v h' => v = .int ((k0 + mcnt cntRule l : Nat) : Int) ∧ h' = []) := by
  obtain ⟨b, css, hs, l1, l2, hall, rfl, rfl⟩ := ho
  refine fn_of_runD tyOk ztOk mix Try.func32 rfl (by decide) Try.ntmps32 (fun w0 F => ?_)
  change Run _ _ _ _ _ (⟨some b, 72, l.length * 9, (css.map Subtype.val).flatten⟩ :: (hs.flatten ++ F))
  refine run_olen (t := 0) rfl (fun hol => ?_)
  repeat' (first
      | (refine j_go ?_; first
        | refine j_op0 rfl rfl rfl rfl ?_)
      | refine j_nil ?_
      | (refine r_go ?_; first | refine run_seq ?_ | refine run_region ?_ | refine run_block ?_)
      | refine seqQ_normal ?_)
  refine run_loop (fun s : Nat × Nat × List (Cells 9) => [(0, .os (some b) l.length l.length), (1, .int (s.2.1 : Int)), (5, .int (s.1 : Int))])
    (fun s => ⟨some b, 72, l.length * 9, (s.2.2.map Subtype.val).flatten⟩ :: ((hs.drop s.1).flatten ++ F))
    (fun s => s.1 ≤ l.length ∧ s.2.1 = k0 + mcnt cntRule (l.take s.1) ∧ s.2.2.length = l.length ∧ ∀ i, s.1 ≤ i → s.2.2[i]? = css[i]?) (fun s => l.length - s.1) (0, k0, css) ⟨rfl, rfl, rfl, trivial⟩ (by simp) ⟨by simp, by simp [mcnt], l1, fun _ _ => rfl⟩ ?_
  intro ⟨k, kv, cc⟩ ⟨g1, g2, g3, g4⟩
  dsimp only at g1 g2 g3 g4 ⊢
  by_cases hkl : k < l.length
  · have hc1 : k < css.length := by omega
    have hc2 : k < hs.length := by omega
    have hc3 : k < cc.length := by omega
    have e1 : cc[k] = css[k] := by have := g4 k (Nat.le_refl _); simpa [hc1, hc3] using this
    have hsn := mcnt_take (f := cntRule) hkl
    have hlt := mcnt_take_le (f := cntRule) (k + 1) l
    have hd : (hs.drop k).flatten = hs[k] ++ (hs.drop (k + 1)).flatten := by rw [List.drop_eq_getElem_cons hc2]; rfl
    obtain ⟨a0, h0, o0, a1, h1, o1, a2, h2, o2, a3, h3, o3, a4, h4, o4, a5, h5, o5, ea, eh⟩ := hall k hkl hc1 hc2
    have hcn : cntRule l[k] = 1 + 1 + l[k].need.length + l[k].have_.length + l[k].lack.length + l[k].here.length + l[k].out.length + mcnt cntInto l[k].into + 1 := rfl
    have e0 : cc = cc.set k (⟨[.int l[k].cell, .int l[k].rank, a0, a1, a2, a3, a4, a5, .raw (.bool l[k].melts)], rfl⟩ : Cells 9) := set_own hc3 (by rw [e1, ea])
    obtain ⟨b0, eb0⟩ := o0.isos
    obtain ⟨b1, eb1⟩ := o1.isos
    obtain ⟨b2, eb2⟩ := o2.isos
    obtain ⟨b3, eb3⟩ := o3.isos
    obtain ⟨b4, eb4⟩ := o4.isos
    obtain ⟨b5, eb5⟩ := o5.isos
    refine run_heq (h' := ⟨some b, 72, l.length * 9, ((cc.set k (⟨[.int l[k].cell, .int l[k].rank, a0, a1, a2, a3, a4, a5, .raw (.bool l[k].melts)], rfl⟩ : Cells 9)).map Subtype.val).flatten⟩ :: (h0 ++ (h1 ++ (h2 ++ (h3 ++ (h4 ++ (h5 ++ ((hs.drop (k + 1)).flatten ++ F)))))))) (by rw [← e0, hd, eh]; simp only [List.append_assoc]) ?_
    clear eh
    subst eb0 eb1 eb2 eb3 eb4 eb5
    repeat' (first
      | (refine j_go ?_; first
        | refine j_op0 rfl rfl rfl rfl ?_ | (refine j_kIdx rfl ?_; first | refine j_midx rfl rfl rfl rfl rfl (by first | omega | (simp only [List.length_append, List.length_cons, List.length_nil]; omega)) rfl rfl ?_) | (refine j_kLen rfl ?_; first | refine j_op rfl rfl rfl rfl ?_))
      | refine j_nil ?_
      | (refine r_go ?_; first | refine run_seq ?_ | refine run_region ?_ | (refine (run_if rfl (fun hb => ?_) (fun hb => ?_)) <;> first | (exfalso; omega) | skip) | refine run_block ?_ | refine run_skip ?_)
      | refine seqQ_normal ?_)
    refine j_storeS 0 k 0 rfl rfl rfl rfl rfl rfl rfl rfl rfl rfl rfl hc3 rfl ?_
    repeat' (first
      | (refine j_go ?_; first
        | refine j_op0 rfl rfl rfl rfl ?_ | (refine j_kIdx rfl ?_; first | refine j_midx rfl rfl rfl rfl rfl (by first | omega | (simp only [List.length_append, List.length_cons, List.length_nil]; omega)) rfl rfl ?_) | (refine j_kBin rfl ?_; first | refine j_in rfl rfl ⟨by omega, by omega⟩ rfl rfl ?_))
      | refine j_nil ?_
      | (refine r_go ?_; first | refine run_seq ?_ | refine run_region ?_)
      | refine seqQ_normal ?_)
    refine j_storeS 0 k 1 rfl rfl rfl rfl rfl rfl rfl rfl rfl rfl rfl hc3 rfl ?_
    repeat' (first
      | (refine j_go ?_; first
        | refine j_op0 rfl rfl rfl rfl ?_ | (refine j_kIdx rfl ?_; first | refine j_midx rfl rfl rfl rfl rfl (by first | omega | (simp only [List.length_append, List.length_cons, List.length_nil]; omega)) rfl rfl ?_) | (refine j_kBin rfl ?_; first | refine j_in rfl rfl ⟨by omega, by omega⟩ rfl rfl ?_))
      | refine j_nil ?_
      | (refine r_go ?_; first | refine run_seq ?_ | refine run_region ?_)
      | refine seqQ_normal ?_)
    refine j_loadS 0 k 2 rfl rfl rfl rfl rfl hc3 rfl (fun rest => rfl) rfl rfl ?_
    repeat' (first
      | (refine j_go ?_; first
        | refine j_op0 rfl rfl rfl rfl ?_))
    refine j_kCall rfl rfl rfl rfl ?_
    refine jcp _ (m_markInt64S _ _ _ (kv + 1 + 1) o0 (by first | omega | (simp only [cntRule] at *; omega))) List.perm_middle.symm (LeL.refl _) rfl rfl (fun v h1 hR => ?_)
    obtain ⟨rfl, rfl⟩ := hR
    repeat' (first
      | (refine j_go ?_; first
        | refine j_op0 rfl rfl rfl rfl ?_ | (refine j_kIdx rfl ?_; first | refine j_midx rfl rfl rfl rfl rfl (by first | omega | (simp only [List.length_append, List.length_cons, List.length_nil]; omega)) rfl rfl ?_))
      | refine j_nil ?_
      | (refine r_go ?_; first | refine run_seq ?_ | refine run_region ?_)
      | refine seqQ_normal ?_)
    refine j_loadS 0 k 3 rfl rfl rfl rfl rfl hc3 rfl (fun rest => rfl) rfl rfl ?_
    repeat' (first
      | (refine j_go ?_; first
        | refine j_op0 rfl rfl rfl rfl ?_))
    refine j_kCall rfl rfl rfl rfl ?_
    refine jcp _ (m_markInt64S _ _ _ (kv + 1 + 1 + l[k].need.length) o1 (by first | omega | (simp only [cntRule] at *; omega))) List.perm_middle.symm (LeL.refl _) rfl rfl (fun v h1 hR => ?_)
    obtain ⟨rfl, rfl⟩ := hR
    repeat' (first
      | (refine j_go ?_; first
        | refine j_op0 rfl rfl rfl rfl ?_ | (refine j_kIdx rfl ?_; first | refine j_midx rfl rfl rfl rfl rfl (by first | omega | (simp only [List.length_append, List.length_cons, List.length_nil]; omega)) rfl rfl ?_))
      | refine j_nil ?_
      | (refine r_go ?_; first | refine run_seq ?_ | refine run_region ?_)
      | refine seqQ_normal ?_)
    refine j_loadS 0 k 4 rfl rfl rfl rfl rfl hc3 rfl (fun rest => rfl) rfl rfl ?_
    repeat' (first
      | (refine j_go ?_; first
        | refine j_op0 rfl rfl rfl rfl ?_))
    refine j_kCall rfl rfl rfl rfl ?_
    refine jcp _ (m_markInt64S _ _ _ (kv + 1 + 1 + l[k].need.length + l[k].have_.length) o2 (by first | omega | (simp only [cntRule] at *; omega))) List.perm_middle.symm (LeL.refl _) rfl rfl (fun v h1 hR => ?_)
    obtain ⟨rfl, rfl⟩ := hR
    repeat' (first
      | (refine j_go ?_; first
        | refine j_op0 rfl rfl rfl rfl ?_ | (refine j_kIdx rfl ?_; first | refine j_midx rfl rfl rfl rfl rfl (by first | omega | (simp only [List.length_append, List.length_cons, List.length_nil]; omega)) rfl rfl ?_))
      | refine j_nil ?_
      | (refine r_go ?_; first | refine run_seq ?_ | refine run_region ?_)
      | refine seqQ_normal ?_)
    refine j_loadS 0 k 5 rfl rfl rfl rfl rfl hc3 rfl (fun rest => rfl) rfl rfl ?_
    repeat' (first
      | (refine j_go ?_; first
        | refine j_op0 rfl rfl rfl rfl ?_))
    refine j_kCall rfl rfl rfl rfl ?_
    refine jcp _ (m_markInt64S _ _ _ (kv + 1 + 1 + l[k].need.length + l[k].have_.length + l[k].lack.length) o3 (by first | omega | (simp only [cntRule] at *; omega))) List.perm_middle.symm (LeL.refl _) rfl rfl (fun v h1 hR => ?_)
    obtain ⟨rfl, rfl⟩ := hR
    repeat' (first
      | (refine j_go ?_; first
        | refine j_op0 rfl rfl rfl rfl ?_ | (refine j_kIdx rfl ?_; first | refine j_midx rfl rfl rfl rfl rfl (by first | omega | (simp only [List.length_append, List.length_cons, List.length_nil]; omega)) rfl rfl ?_))
      | refine j_nil ?_
      | (refine r_go ?_; first | refine run_seq ?_ | refine run_region ?_)
      | refine seqQ_normal ?_)
    refine j_loadS 0 k 6 rfl rfl rfl rfl rfl hc3 rfl (fun rest => rfl) rfl rfl ?_
    repeat' (first
      | (refine j_go ?_; first
        | refine j_op0 rfl rfl rfl rfl ?_))
    refine j_kCall rfl rfl rfl rfl ?_
    refine jcp _ (m_markInt64S _ _ _ (kv + 1 + 1 + l[k].need.length + l[k].have_.length + l[k].lack.length + l[k].here.length) o4 (by first | omega | (simp only [cntRule] at *; omega))) List.perm_middle.symm (LeL.refl _) rfl rfl (fun v h1 hR => ?_)
    obtain ⟨rfl, rfl⟩ := hR
    repeat' (first
      | (refine j_go ?_; first
        | refine j_op0 rfl rfl rfl rfl ?_ | (refine j_kIdx rfl ?_; first | refine j_midx rfl rfl rfl rfl rfl (by first | omega | (simp only [List.length_append, List.length_cons, List.length_nil]; omega)) rfl rfl ?_))
      | refine j_nil ?_
      | (refine r_go ?_; first | refine run_seq ?_ | refine run_region ?_)
      | refine seqQ_normal ?_)
    refine j_loadS 0 k 7 rfl rfl rfl rfl rfl hc3 rfl (fun rest => rfl) rfl rfl ?_
    repeat' (first
      | (refine j_go ?_; first
        | refine j_op0 rfl rfl rfl rfl ?_))
    refine j_kCall rfl rfl rfl rfl ?_
    refine jcp _ (m_markIntoS _ _ _ (kv + 1 + 1 + l[k].need.length + l[k].have_.length + l[k].lack.length + l[k].here.length + l[k].out.length) o5 (by first | omega | (simp only [cntRule] at *; omega))) List.perm_middle.symm (LeL.refl _) rfl rfl (fun v h1 hR => ?_)
    obtain ⟨rfl, rfl⟩ := hR
    repeat' (first
      | (refine j_go ?_; first
        | refine j_op0 rfl rfl rfl rfl ?_ | (refine j_kIdx rfl ?_; first | refine j_midx rfl rfl rfl rfl rfl (by first | omega | (simp only [List.length_append, List.length_cons, List.length_nil]; omega)) rfl rfl ?_) | (refine j_kBin rfl ?_; first | refine j_rem rfl rfl rfl rfl (by omega) rfl rfl ?_))
      | refine j_nil ?_
      | (refine r_go ?_; first | refine run_seq ?_ | refine run_region ?_)
      | refine seqQ_normal ?_)
    refine j_storeS 0 k 8 rfl rfl rfl rfl rfl rfl rfl rfl rfl rfl rfl hc3 rfl ?_
    repeat' (first
      | (refine j_go ?_; first
        | refine j_op0 rfl rfl rfl rfl ?_ | (refine j_kBin rfl ?_; first | refine j_in rfl rfl ⟨by omega, by omega⟩ rfl rfl ?_))
      | refine j_nil ?_
      | (refine r_go ?_; first | refine run_region ?_)
      | refine seqQ_normal ?_ | refine blockQ_normal ?_)
    refine loopQ_nextS (c := ?c) (k + 1) (kv + 1 + 1 + l[k].need.length + l[k].have_.length + l[k].lack.length + l[k].here.length + l[k].out.length + mcnt cntInto l[k].into + 1) cc k ?g1 ?g2 ?g3 ?g4
    case g3 => rfl
    case g4 => exact ⟨rfl, rfl, nx _, trivial⟩
    case g2 => dsimp only; omega
    case g1 => exact ⟨by dsimp only; omega, by dsimp only; rw [hsn, hcn]; omega, by dsimp only; rw [List.length_set]; omega, fun i hi => by dsimp only at hi ⊢; rw [List.getElem?_set_ne (by omega)]; exact g4 i (by omega)⟩
  · repeat' (first
      | (refine j_go ?_; first
        | refine j_op0 rfl rfl rfl rfl ?_ | (refine j_kLen rfl ?_; first | refine j_op rfl rfl rfl rfl ?_))
      | refine j_nil ?_
      | (refine r_go ?_; first | refine run_seq ?_ | refine run_region ?_ | (refine (run_if rfl (fun hb => ?_) (fun hb => ?_)) <;> first | (exfalso; omega) | skip) | refine run_ret ?_ | refine run_exit ?_)
      | refine seqQ_normal ?_ | refine seqQ_exit ?_ | refine blockQ_eq ?_ | refine loopQ_exit ?_)
    have : k = l.length := by omega
    subst this
    rw [List.take_length] at g2
    subst g2
    exact endD_view (view_sub (h0 := [] ++ F) (by simp)) (endD_ret (h1 := []) rfl (.cons (.tmp rfl) .nil) (Le.refl _) ⟨rfl, rfl⟩ (.inl rfl))

def cntSystem (x : System) : Nat := 1 + x.parents.length + mcnt cntRule x.rules
def ESystem (x : System) (cs : List A) (h : Heap) : Prop := ∃ (a0 : A) (h0 : Heap), OwnSl EI 2 1 x.parents a0 h0 ∧ ∃ (a1 : A) (h1 : Heap), OwnSl ERule 72 9 x.rules a1 h1 ∧ cs = [.int x.kinds, a0, a1] ∧ h = h0 ++ (h1)
theorem cntSystem_le {x : System} (hx : OkSystem x) : cntSystem x ≤ 1152928101680807937 := by
  obtain ⟨k0, ⟨k1, m1⟩⟩ := hx
  have e1 := mcnt_le2 (f := cntRule) k1 (fun y hy => cntRule_le (m1 y hy))
  unfold cntSystem
  omega
theorem ESystem_frz (x : System) (cs : List A) (h : Heap) (q : ESystem x cs h) : FrzL h cs (encSystem x) := by
  obtain ⟨a0, h0, o0, a1, h1, o1, rfl, rfl⟩ := q
  exact (FrzL.cons (Frz.same _ _) (FrzL.cons (Frz.mono (fun _ hk => by simp [hk]) (o0.frz (fun _ => rfl) EI_frz)) (FrzL.cons (Frz.mono (fun _ hk => by simp [hk]) (o1.frz (fun _ => rfl) ERule_frz)) (FrzL.nil _))))
theorem n_toSystem (x : System) (hx : OkSystem x) : Does Try.prog 7 [.agg (encSystem x)] [] (fun v h' => ∃ cs, v = .agg cs ∧ ESystem x cs h') := by
  obtain ⟨k0, ⟨k1, m1⟩⟩ := hx
  refine Does.drop (R := fun v h' => ∃ cs k hh, v = .agg cs ∧ ESystem x cs hh ∧ h'.Perm (k :: hh)) ?_ (fun v h' ⟨cs, k, hh, q1, q2, q3⟩ => ⟨_, hh, q3, List.sublist_cons_self _ _, cs, q1, q2⟩)
  refine fn_of_runD tyOk ztOk mix Try.func7 rfl (by decide) Try.ntmps7 (fun w0 F => ?_)
  change Run _ _ _ _ _ F
  repeat' (first
      | (refine j_go ?_; first
        | refine j_op0 rfl rfl rfl rfl ?_ | (refine j_kStore rfl ?_; first | refine j_store 0 rfl rfl rfl rfl rfl rfl rfl rfl rfl rfl rfl ?_) | refine j_box rfl rfl rfl rfl rfl rfl ?_ | refine j_alloc rfl rfl rfl rfl rfl (fun _ => ?_))
      | refine j_nil ?_
      | (refine r_go ?_; first | refine run_seq ?_ | refine run_region ?_)
      | refine seqQ_normal ?_)
  refine j_kCall rfl rfl rfl rfl ?_
  refine jcp _ (n_toInt64S _ k0) (List.Perm.refl _) (LeL.refl _) rfl rfl (fun v0 h0 o0 => ?_)
  refine j_view (view_perm perm2) ?_
  obtain ⟨b0, rfl⟩ := o0.isos
  repeat' (first
      | (refine j_go ?_; first
        | refine j_op0 rfl rfl rfl rfl ?_ | (refine j_kStore rfl ?_; first | refine j_store 0 rfl rfl rfl rfl rfl rfl rfl rfl rfl rfl rfl ?_))
      | refine j_nil ?_
      | (refine r_go ?_; first | refine run_seq ?_ | refine run_region ?_)
      | refine seqQ_normal ?_)
  refine j_kCall rfl rfl rfl rfl ?_
  refine jcp _ (n_toRuleS _ k1 m1) (List.Perm.refl _) (LeL.refl _) rfl rfl (fun v1 h1 o1 => ?_)
  refine j_view (view_perm perm2) ?_
  obtain ⟨b1, rfl⟩ := o1.isos
  repeat' (first
      | (refine j_go ?_; first
        | refine j_op0 rfl rfl rfl rfl ?_ | (refine j_kLoad rfl ?_; first | refine j_mload 0 rfl rfl rfl rfl rfl rfl rfl ?_) | (refine j_kStore rfl ?_; first | refine j_store 0 rfl rfl rfl rfl rfl rfl rfl rfl rfl rfl rfl ?_ | refine j_storeN 1 rfl rfl rfl rfl rfl rfl rfl rfl rfl rfl rfl ?_))
      | refine j_nil ?_
      | (refine r_go ?_; first | refine run_seq ?_ | refine run_region ?_ | refine run_ret ?_)
      | refine seqQ_normal ?_)
  refine endD_view (view_erase 0) ?_
  exact endD_ret (h1 := _ :: (h1 ++ (h0))) (congrArg (List.cons _) (show h1 ++ (h0 ++ F) = (h1 ++ (h0)) ++ F by simp only [List.append_assoc])) (.cons (.cellM rfl (List.mem_cons_self ..) rfl) .nil) (Le.refl _) ⟨_, _, h0 ++ (h1), rfl, ⟨_, h0, o0, _, h1, o1, rfl, rfl⟩, .cons _ (by classical exact List.perm_iff_count.2 fun _ => by simp only [List.count_append, List.count_cons, List.count_nil, Nat.add_zero, Nat.zero_add]; first | done | ac_rfl | omega)⟩ (.inl rfl)
theorem m_markSystem (x : System) (cs : List A) (h : Heap) (k0 : Nat) (q : ESystem x cs h) (hk : k0 + cntSystem x ≤ 4611686018427387904) : Does Try.prog 13 [.agg cs, .int (k0 : Int)] h (fun v h' => v = .int ((k0 + (x.parents.length + mcnt cntRule x.rules) : Nat) : Int) ∧ h' = []) := by
  obtain ⟨a0, h0, o0, a1, h1, o1, rfl, rfl⟩ := q
  have hcn : cntSystem x = 1 + x.parents.length + mcnt cntRule x.rules := rfl
  obtain ⟨b0, eb0⟩ := o0.isos
  obtain ⟨b1, eb1⟩ := o1.isos
  subst eb0 eb1
  refine fn_of_runD tyOk ztOk mix Try.func13 rfl (by decide) Try.ntmps13 (fun w0 F => ?_)
  refine run_heq (h' := h0 ++ (h1 ++ F)) (by simp only [List.append_assoc]) ?_
  repeat' (first
      | (refine j_go ?_; first
        | refine j_op0 rfl rfl rfl rfl ?_ | refine j_box rfl rfl rfl rfl rfl rfl ?_)
      | refine j_nil ?_
      | (refine r_go ?_; first | refine run_seq ?_ | refine run_region ?_)
      | refine seqQ_normal ?_)
  refine j_kCall rfl rfl rfl rfl ?_
  refine jcp _ (m_markInt64S _ _ _ (k0) o0 (by omega)) (List.Perm.refl _) (LeL.refl _) rfl rfl (fun v h1 hR => ?_)
  obtain ⟨rfl, rfl⟩ := hR
  repeat' (first
      | (refine j_go ?_; first
        | refine j_op0 rfl rfl rfl rfl ?_)
      | refine j_nil ?_
      | (refine r_go ?_; first | refine run_seq ?_ | refine run_region ?_)
      | refine seqQ_normal ?_)
  refine j_kCall rfl rfl rfl rfl ?_
  refine jcp _ (m_markRuleS _ _ _ (k0 + x.parents.length) o1 (by omega)) (List.Perm.refl _) (LeL.refl _) rfl rfl (fun v h1 hR => ?_)
  obtain ⟨rfl, rfl⟩ := hR
  repeat' (first
      | (refine j_go ?_; first
        | refine j_op0 rfl rfl rfl rfl ?_)
      | refine j_nil ?_
      | (refine r_go ?_; first | refine run_seq ?_ | refine run_region ?_ | refine run_ret ?_)
      | refine seqQ_normal ?_)
  exact endD_ret (h1 := []) rfl (.cons (.tmp rfl) .nil) (Le.refl _) ⟨ani (by omega), rfl⟩ (.inl rfl)

def cntState (x : State) : Nat := x.alive.length + mcnt List.length x.bags + x.around.length
def EState (x : State) (cs : List A) (h : Heap) : Prop := ∃ (a0 : A) (h0 : Heap), OwnSl EB 4 1 x.alive a0 h0 ∧ ∃ (a1 : A) (h1 : Heap), OwnSl EII 22 1 x.bags a1 h1 ∧ ∃ (a2 : A) (h2 : Heap), OwnSl EI 2 1 x.around a2 h2 ∧ cs = [a0, a1, a2] ∧ h = h0 ++ (h1 ++ (h2))
theorem cntState_le {x : State} (hx : OkState x) : cntState x ≤ 1099513724928 := by
  obtain ⟨k0, ⟨k1, m1⟩, k2⟩ := hx
  have e1 := mcnt_le2 (f := List.length) k1 (fun y hy => m1 y hy)
  unfold cntState
  omega
theorem EState_frz (x : State) (cs : List A) (h : Heap) (q : EState x cs h) : FrzL h cs (encState x) := by
  obtain ⟨a0, h0, o0, a1, h1, o1, a2, h2, o2, rfl, rfl⟩ := q
  exact (FrzL.cons (Frz.mono (fun _ hk => by simp [hk]) (o0.frz (fun _ => rfl) EB_frz)) (FrzL.cons (Frz.mono (fun _ hk => by simp [hk]) (o1.frz (fun _ => rfl) EII_frz)) (FrzL.cons (Frz.mono (fun _ hk => by simp [hk]) (o2.frz (fun _ => rfl) EI_frz)) (FrzL.nil _))))
theorem n_toState (x : State) (hx : OkState x) : Does Try.prog 8 [.agg (encState x)] [] (fun v h' => ∃ cs, v = .agg cs ∧ EState x cs h') := by
  obtain ⟨k0, ⟨k1, m1⟩, k2⟩ := hx
  refine Does.drop (R := fun v h' => ∃ cs k hh, v = .agg cs ∧ EState x cs hh ∧ h'.Perm (k :: hh)) ?_ (fun v h' ⟨cs, k, hh, q1, q2, q3⟩ => ⟨_, hh, q3, List.sublist_cons_self _ _, cs, q1, q2⟩)
  refine fn_of_runD tyOk ztOk mix Try.func8 rfl (by decide) Try.ntmps8 (fun w0 F => ?_)
  change Run _ _ _ _ _ F
  repeat' (first
      | (refine j_go ?_; first
        | refine j_op0 rfl rfl rfl rfl ?_ | refine j_box rfl rfl rfl rfl rfl rfl ?_ | refine j_alloc rfl rfl rfl rfl rfl (fun _ => ?_))
      | refine j_nil ?_
      | (refine r_go ?_; first | refine run_seq ?_ | refine run_region ?_)
      | refine seqQ_normal ?_)
  refine j_kCall rfl rfl rfl rfl ?_
  refine jcp _ (n_toBoolS _ k0) (List.Perm.refl _) (LeL.refl _) rfl rfl (fun v0 h0 o0 => ?_)
  refine j_view (view_perm perm2) ?_
  obtain ⟨b0, rfl⟩ := o0.isos
  repeat' (first
      | (refine j_go ?_; first
        | refine j_op0 rfl rfl rfl rfl ?_ | (refine j_kStore rfl ?_; first | refine j_store 0 rfl rfl rfl rfl rfl rfl rfl rfl rfl rfl rfl ?_))
      | refine j_nil ?_
      | (refine r_go ?_; first | refine run_seq ?_ | refine run_region ?_)
      | refine seqQ_normal ?_)
  refine j_kCall rfl rfl rfl rfl ?_
  refine jcp _ (n_toInt64SS _ k1 m1) (List.Perm.refl _) (LeL.refl _) rfl rfl (fun v1 h1 o1 => ?_)
  refine j_view (view_perm perm2) ?_
  obtain ⟨b1, rfl⟩ := o1.isos
  repeat' (first
      | (refine j_go ?_; first
        | refine j_op0 rfl rfl rfl rfl ?_ | (refine j_kStore rfl ?_; first | refine j_store 0 rfl rfl rfl rfl rfl rfl rfl rfl rfl rfl rfl ?_))
      | refine j_nil ?_
      | (refine r_go ?_; first | refine run_seq ?_ | refine run_region ?_)
      | refine seqQ_normal ?_)
  refine j_kCall rfl rfl rfl rfl ?_
  refine jcp _ (n_toInt64S _ k2) (List.Perm.refl _) (LeL.refl _) rfl rfl (fun v2 h2 o2 => ?_)
  refine j_view (view_perm perm2) ?_
  obtain ⟨b2, rfl⟩ := o2.isos
  repeat' (first
      | (refine j_go ?_; first
        | refine j_op0 rfl rfl rfl rfl ?_ | (refine j_kLoad rfl ?_; first | refine j_mload 0 rfl rfl rfl rfl rfl rfl rfl ?_) | (refine j_kStore rfl ?_; first | refine j_store 0 rfl rfl rfl rfl rfl rfl rfl rfl rfl rfl rfl ?_ | refine j_storeN 1 rfl rfl rfl rfl rfl rfl rfl rfl rfl rfl rfl ?_))
      | refine j_nil ?_
      | (refine r_go ?_; first | refine run_seq ?_ | refine run_region ?_ | refine run_ret ?_)
      | refine seqQ_normal ?_)
  refine endD_view (view_erase 0) ?_
  exact endD_ret (h1 := _ :: (h2 ++ (h1 ++ (h0)))) (congrArg (List.cons _) (show h2 ++ (h1 ++ (h0 ++ F)) = (h2 ++ (h1 ++ (h0))) ++ F by simp only [List.append_assoc])) (.cons (.cellM rfl (List.mem_cons_self ..) rfl) .nil) (Le.refl _) ⟨_, _, h0 ++ (h1 ++ (h2)), rfl, ⟨_, h0, o0, _, h1, o1, _, h2, o2, rfl, rfl⟩, .cons _ (by classical exact List.perm_iff_count.2 fun _ => by simp only [List.count_append, List.count_cons, List.count_nil, Nat.add_zero, Nat.zero_add]; first | done | ac_rfl | omega)⟩ (.inl rfl)
theorem m_markState (x : State) (cs : List A) (h : Heap) (k0 : Nat) (q : EState x cs h) (hk : k0 + cntState x ≤ 4611686018427387904) : Does Try.prog 14 [.agg cs, .int (k0 : Int)] h (fun v h' => v = .int ((k0 + (x.alive.length + mcnt List.length x.bags + x.around.length) : Nat) : Int) ∧ h' = []) := by
  obtain ⟨a0, h0, o0, a1, h1, o1, a2, h2, o2, rfl, rfl⟩ := q
  have hcn : cntState x = x.alive.length + mcnt List.length x.bags + x.around.length := rfl
  obtain ⟨b0, eb0⟩ := o0.isos
  obtain ⟨b1, eb1⟩ := o1.isos
  obtain ⟨b2, eb2⟩ := o2.isos
  subst eb0 eb1 eb2
  refine fn_of_runD tyOk ztOk mix Try.func14 rfl (by decide) Try.ntmps14 (fun w0 F => ?_)
  refine run_heq (h' := h0 ++ (h1 ++ (h2 ++ F))) (by simp only [List.append_assoc]) ?_
  repeat' (first
      | (refine j_go ?_; first
        | refine j_op0 rfl rfl rfl rfl ?_ | refine j_box rfl rfl rfl rfl rfl rfl ?_)
      | refine j_nil ?_
      | (refine r_go ?_; first | refine run_seq ?_ | refine run_region ?_)
      | refine seqQ_normal ?_)
  refine j_kCall rfl rfl rfl rfl ?_
  refine jcp _ (m_markBoolS _ _ _ (k0) o0 (by omega)) (List.Perm.refl _) (LeL.refl _) rfl rfl (fun v h1 hR => ?_)
  obtain ⟨rfl, rfl⟩ := hR
  repeat' (first
      | (refine j_go ?_; first
        | refine j_op0 rfl rfl rfl rfl ?_)
      | refine j_nil ?_
      | (refine r_go ?_; first | refine run_seq ?_ | refine run_region ?_)
      | refine seqQ_normal ?_)
  refine j_kCall rfl rfl rfl rfl ?_
  refine jcp _ (m_markInt64SS _ _ _ (k0 + x.alive.length) o1 (by omega)) (List.Perm.refl _) (LeL.refl _) rfl rfl (fun v h1 hR => ?_)
  obtain ⟨rfl, rfl⟩ := hR
  repeat' (first
      | (refine j_go ?_; first
        | refine j_op0 rfl rfl rfl rfl ?_)
      | refine j_nil ?_
      | (refine r_go ?_; first | refine run_seq ?_ | refine run_region ?_)
      | refine seqQ_normal ?_)
  refine j_kCall rfl rfl rfl rfl ?_
  refine jcp _ (m_markInt64S _ _ _ (k0 + x.alive.length + mcnt List.length x.bags) o2 (by omega)) (List.Perm.refl _) (LeL.refl _) rfl rfl (fun v h1 hR => ?_)
  obtain ⟨rfl, rfl⟩ := hR
  repeat' (first
      | (refine j_go ?_; first
        | refine j_op0 rfl rfl rfl rfl ?_)
      | refine j_nil ?_
      | (refine r_go ?_; first | refine run_seq ?_ | refine run_region ?_ | refine run_ret ?_)
      | refine seqQ_normal ?_)
  exact endD_ret (h1 := []) rfl (.cons (.tmp rfl) .nil) (Le.refl _) ⟨ani (by omega), rfl⟩ (.inl rfl)
end Go.Proofs.Ytlllmhjpcdcoiaa
