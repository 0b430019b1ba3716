/-
  Copies of the data of theme 7 in memory of the call's own, and their marks. No condition but that the sizes are bounded.
-/
import Derived.Test.YtandldhceabdiaaZG7
import Derived.Test.YtandldhceabdiaaZS7n
import Derived.Test.YtandldhceabdiaaZVC
namespace Go.Proofs.Ytandldhceabdiaa
open Go.AI
set_option maxRecDepth 8000
set_option maxHeartbeats 1600000


def cntGroup (x : Group) : Nat := 1 + x.contents.length + 1
def EGroup (x : Group) (cs : List A) (h : Heap) : Prop := ∃ (a0 : A) (h0 : Heap), OwnSl EI 2 1 x.contents a0 h0 ∧ cs = [.int x.charge, a0, .int x.count] ∧ h = h0
theorem cntGroup_le {x : Group} (hx : OkGroup x) : cntGroup x ≤ 1048578 := by
  obtain ⟨k0⟩ := hx
  unfold cntGroup
  omega
theorem EGroup_frz (x : Group) (cs : List A) (h : Heap) (q : EGroup x cs h) : FrzL h cs (encGroup x) := by
  obtain ⟨a0, h0, o0, rfl, rfl⟩ := q
  exact (FrzL.cons (Frz.same _ _) (FrzL.cons (Frz.mono (fun _ hk => by simp [hk]) (o0.frz (fun _ => rfl) EI_frz)) (FrzL.cons (Frz.same _ _) (FrzL.nil _))))
theorem EGroup_len {x : Group} {cs : List A} {h : Heap} (q : EGroup x cs h) : cs.length = 3 := by
  obtain ⟨a0, h0, o0, rfl, rfl⟩ := q
  rfl
theorem EGroup_ok {x : Group} {cs : List A} {h : Heap} (q : EGroup x cs h) : cs.all okCell = true := by
  obtain ⟨a0, h0, o0, rfl, rfl⟩ := q
  obtain ⟨b0, rfl⟩ := o0.isos
  rfl
theorem n_toGroup (x : Group) (hx : OkGroup x) : Does Try.prog 102 [.agg (encGroup x)] [] (fun v h' => ∃ cs, v = .agg cs ∧ EGroup x cs h') := by
  obtain ⟨k0⟩ := hx
  refine Does.drop (R := fun v h' => ∃ cs k hh, v = .agg cs ∧ EGroup x cs hh ∧ h'.Perm (k :: hh)) ?_ (fun v h' ⟨cs, k, hh, q1, q2, q3⟩ => ⟨_, hh, q3, List.sublist_cons_self _ _, cs, q1, q2⟩)
  refine fn_of_runD tyOk ztOk mix Try.func102 rfl (by decide) Try.ntmps102 (fun w0 F => ?_)
  change Run _ _ _ _ _ F
  repeat' (first
      | (refine j_go ?_; first
        | refine j_op0 rfl rfl rfl rfl ?_ | (refine j_kStore rfl ?_; first | refine j_store 0 rfl rfl rfl rfl rfl rfl rfl rfl rfl rfl rfl ?_) | refine j_box rfl rfl rfl rfl rfl rfl ?_ | refine j_alloc rfl rfl rfl rfl rfl (fun _ => ?_))
      | refine j_nil ?_
      | (refine r_go ?_; first | refine run_seq ?_ | refine run_region ?_)
      | refine seqQ_normal ?_)
  refine j_kCall rfl rfl rfl rfl ?_
  refine jcp _ (n_toInt64S _ k0) (List.Perm.refl _) (LeL.refl _) rfl rfl (fun v0 h0 o0 => ?_)
  refine j_view (view_perm perm2) ?_
  obtain ⟨b0, rfl⟩ := o0.isos
  repeat' (first
      | (refine j_go ?_; first
        | refine j_op0 rfl rfl rfl rfl ?_ | (refine j_kLoad rfl ?_; first | refine j_mload 0 rfl rfl rfl rfl rfl rfl rfl ?_) | (refine j_kStore rfl ?_; first | refine j_store 0 rfl rfl rfl rfl rfl rfl rfl rfl rfl rfl rfl ?_ | refine j_storeN 1 rfl rfl rfl rfl rfl rfl rfl rfl rfl rfl rfl ?_))
      | refine j_nil ?_
      | (refine r_go ?_; first | refine run_seq ?_ | refine run_region ?_ | refine run_ret ?_)
      | refine seqQ_normal ?_)
  refine endD_view (view_erase 0) ?_
  exact endD_ret (h1 := _ :: (h0)) (congrArg (List.cons _) (show h0 ++ F = (h0) ++ F by simp only [List.append_assoc])) (.cons (.cellM rfl (List.mem_cons_self ..) rfl) .nil) (Le.refl _) ⟨_, _, h0, rfl, ⟨_, h0, o0, rfl, rfl⟩, .cons _ (List.Perm.refl _)⟩ (.inl rfl)
theorem n_toGroupS (l : List (Group)) (hl : l.length ≤ 1048576) (hl2 : ∀ x ∈ l, OkGroup x) : Does Try.prog 38 [.sl (l.map encGroup)] [] (fun v h' => OwnSl EGroup 130 3 l v h') := by
  refine fn_of_runD tyOk ztOk mix Try.func38 rfl (by decide) Try.ntmps38 (fun w0 F => ?_)
  change Run _ _ _ _ _ F
  repeat' (first
      | (refine j_go ?_; first
        | refine j_op0 rfl rfl rfl rfl ?_ | (refine j_kLen rfl ?_; first | refine j_len rfl rfl rfl rfl rfl rfl ?_))
      | refine j_nil ?_
      | (refine r_go ?_; first | refine run_seq ?_ | refine run_region ?_)
      | refine seqQ_normal ?_)
  refine j_makeI (g := Subtype.val) (⟨[.int 0, .sl [], .int 0], rfl⟩ : Cells 3) rfl rfl rfl rfl rfl rfl rfl rfl rfl (by omega) rfl rfl (fun b => ?_)
  repeat' (first
      | (refine j_go ?_; first
        | refine j_op0 rfl rfl rfl rfl ?_)
      | refine j_nil ?_
      | (refine r_go ?_; first | refine run_seq ?_ | refine run_region ?_ | refine run_block ?_)
      | refine seqQ_normal ?_)
  refine run_loop (fun s : Nat × List (Cells 3) × List Heap => [(0, .sl (l.map encGroup)), (3, .os (some b) l.length l.length), (4, .int (s.1 : Int))])
      (fun s => ⟨some b, 130, l.length * 3, ((s.2.1 ++ List.replicate (l.length - s.1) (⟨[.int 0, .sl [], .int 0], rfl⟩ : Cells 3)).map Subtype.val).flatten⟩ :: (s.2.2.flatten ++ F))
      (fun s => s.1 ≤ l.length ∧ s.2.1.length = s.1 ∧ s.2.2.length = s.1 ∧ ∀ i (hi : i < l.length) (h1 : i < s.2.1.length) (h2 : i < s.2.2.length), EGroup l[i] s.2.1[i].1 s.2.2[i]) (fun s => l.length - s.1) (0, [], []) ⟨rfl, rfl, rfl, trivial⟩ (by simp) ⟨by simp, rfl, rfl, fun i _ h1 => absurd h1 (Nat.not_lt_zero _)⟩ ?_
  intro ⟨k, css, hs⟩ ⟨g1, g2, g3, g4⟩
  dsimp only at g1 g2 g3 g4 ⊢
  repeat' (first
      | (refine j_go ?_; first
        | refine j_op0 rfl rfl rfl rfl ?_ | (refine j_kIdx rfl ?_; first | refine j_idx rfl rfl rfl rfl rfl (by omega) rfl rfl rfl ?_) | (refine j_kLen rfl ?_; first | refine j_len rfl rfl rfl rfl rfl rfl ?_))
      | refine j_nil ?_
      | (refine r_go ?_; first | refine run_seq ?_ | refine run_region ?_ | (refine (run_if rfl (fun hb => ?_) (fun hb => ?_)) <;> first | (exfalso; omega) | skip) | refine run_block ?_ | refine run_ret ?_ | refine run_exit ?_ | refine run_skip ?_)
      | refine seqQ_normal ?_ | refine seqQ_exit ?_ | refine blockQ_eq ?_ | refine loopQ_exit ?_)
  · have hk : k < l.length := by omega
    refine j_kCall rfl rfl rfl rfl ?_
    refine jcp _ (n_toGroup l[k] (hl2 _ (List.getElem_mem _))) (List.Perm.refl _) (LeL.refl _) rfl rfl (fun v h1 hR => ?_)
    obtain ⟨cs, rfl, hE⟩ := hR
    have hok := EGroup_ok hE
    repeat' (first
      | (refine j_go ?_; first
        | (refine j_kIdx rfl ?_; first | refine j_midx rfl rfl rfl rfl rfl (by first | omega | (simp only [List.length_append, List.length_cons, List.length_nil]; omega)) rfl rfl ?_)))
    refine j_view (view_perm List.perm_middle) ?_
    refine j_storeE 0 k (g := Subtype.val) (⟨cs, EGroup_len hE⟩ : Cells 3) rfl rfl rfl rfl rfl rfl rfl rfl hok (fun y => y.2 : ∀ y : Cells 3, y.1.length = 3) rfl (by simp; omega) ?_
    repeat' (first
      | (refine j_go ?_; first
        | refine j_op0 rfl rfl rfl rfl ?_ | (refine j_kBin rfl ?_; first | refine j_in rfl rfl ⟨by omega, by omega⟩ rfl rfl ?_))
      | refine j_nil ?_
      | (refine r_go ?_; first | refine run_region ?_)
      | refine seqQ_normal ?_ | refine blockQ_normal ?_)
    refine loopQ_view (view_perm (h' := ⟨some b, 130, l.length * 3, (((css ++ [(⟨cs, EGroup_len hE⟩ : Cells 3)]) ++ List.replicate (l.length - (k + 1)) (⟨[.int 0, .sl [], .int 0], rfl⟩ : Cells 3)).map Subtype.val).flatten⟩ :: ((hs ++ [h1]).flatten ++ F)) (by rw [app_rep_set g2 hk]; exact .cons _ (by simp only [List.flatten_append, List.flatten_cons, List.flatten_nil, List.append_nil]; exact (by classical exact List.perm_iff_count.2 fun _ => by simp only [List.count_append, List.count_cons, List.count_nil, Nat.add_zero, Nat.zero_add]; first | done | ac_rfl | omega)))) ?_
    exact loopQ_next (k + 1, css ++ [(⟨cs, EGroup_len hE⟩ : Cells 3)], hs ++ [h1]) ⟨by dsimp only; omega, by simp [g2], by simp [g3], fun i hi h1' h2' => own_snoc g2 g3 (hl := hk) g4 hE i hi h1' h2'⟩ (by dsimp only; omega) rfl ⟨rfl, rfl, nx _, trivial⟩
  · have : k = l.length := by omega
    subst this
    exact endD_ret (h1 := ⟨some b, 130, l.length * 3, (css.map Subtype.val).flatten⟩ :: hs.flatten) (by simp) (.cons (.tmp rfl) .nil) (Le.refl _) ⟨b, css, hs, g2, g3, g4, rfl, rfl⟩ (.inl rfl)
theorem m_markGroupS (l : List (Group)) (a : A) (h : Heap) (k0 : Nat) (ho : OwnSl EGroup 130 3 l a h) (hk : k0 + mcnt cntGroup l ≤ 4611686018427387904) : Does Try.prog 45 [a, .int (k0 : Int)] h (fun v h' => v = .int ((k0 + mcnt cntGroup l : Nat) : Int) ∧ h' = []) := by
  obtain ⟨b, css, hs, l1, l2, hall, rfl, rfl⟩ := ho
  refine fn_of_runD tyOk ztOk mix Try.func45 rfl (by decide) Try.ntmps45 (fun w0 F => ?_)
  change Run _ _ _ _ _ (⟨some b, 130, l.length * 3, (css.map Subtype.val).flatten⟩ :: (hs.flatten ++ F))
  refine run_olen (t := 0) rfl (fun hol => ?_)
  repeat' (first
      | (refine j_go ?_; first
        | refine j_op0 rfl rfl rfl rfl ?_)
      | refine j_nil ?_
      | (refine r_go ?_; first | refine run_seq ?_ | refine run_region ?_ | refine run_block ?_)
      | refine seqQ_normal ?_)
  refine run_loop (fun s : Nat × Nat × List (Cells 3) => [(0, .os (some b) l.length l.length), (1, .int (s.2.1 : Int)), (5, .int (s.1 : Int))])
    (fun s => ⟨some b, 130, l.length * 3, (s.2.2.map Subtype.val).flatten⟩ :: ((hs.drop s.1).flatten ++ F))
    (fun s => s.1 ≤ l.length ∧ s.2.1 = k0 + mcnt cntGroup (l.take s.1) ∧ s.2.2.length = l.length ∧ ∀ i, s.1 ≤ i → s.2.2[i]? = css[i]?) (fun s => l.length - s.1) (0, k0, css) ⟨rfl, rfl, rfl, trivial⟩ (by simp) ⟨by simp, by simp [mcnt], l1, fun _ _ => rfl⟩ ?_
  intro ⟨k, kv, cc⟩ ⟨g1, g2, g3, g4⟩
  dsimp only at g1 g2 g3 g4 ⊢
  by_cases hkl : k < l.length
  · have hc1 : k < css.length := by omega
    have hc2 : k < hs.length := by omega
    have hc3 : k < cc.length := by omega
    have e1 : cc[k] = css[k] := by have := g4 k (Nat.le_refl _); simpa [hc1, hc3] using this
    have hsn := mcnt_take (f := cntGroup) hkl
    have hlt := mcnt_take_le (f := cntGroup) (k + 1) l
    have hd : (hs.drop k).flatten = hs[k] ++ (hs.drop (k + 1)).flatten := by rw [List.drop_eq_getElem_cons hc2]; rfl
    obtain ⟨a0, h0, o0, ea, eh⟩ := hall k hkl hc1 hc2
    have hcn : cntGroup l[k] = 1 + l[k].contents.length + 1 := rfl
    have e0 : cc = cc.set k (⟨[.int l[k].charge, a0, .int l[k].count], rfl⟩ : Cells 3) := set_own hc3 (by rw [e1, ea])
    obtain ⟨b0, eb0⟩ := o0.isos
    refine run_heq (h' := ⟨some b, 130, l.length * 3, ((cc.set k (⟨[.int l[k].charge, a0, .int l[k].count], rfl⟩ : Cells 3)).map Subtype.val).flatten⟩ :: (h0 ++ ((hs.drop (k + 1)).flatten ++ F))) (by rw [← e0, hd, eh]; simp only [List.append_assoc]) ?_
    clear eh
    subst eb0
    repeat' (first
      | (refine j_go ?_; first
        | refine j_op0 rfl rfl rfl rfl ?_ | (refine j_kIdx rfl ?_; first | refine j_midx rfl rfl rfl rfl rfl (by first | omega | (simp only [List.length_append, List.length_cons, List.length_nil]; omega)) rfl rfl ?_) | (refine j_kLen rfl ?_; first | refine j_op rfl rfl rfl rfl ?_))
      | refine j_nil ?_
      | (refine r_go ?_; first | refine run_seq ?_ | refine run_region ?_ | (refine (run_if rfl (fun hb => ?_) (fun hb => ?_)) <;> first | (exfalso; omega) | skip) | refine run_block ?_ | refine run_skip ?_)
      | refine seqQ_normal ?_)
    refine j_storeS 0 k 0 rfl rfl rfl rfl rfl rfl rfl rfl rfl rfl rfl hc3 rfl ?_
    repeat' (first
      | (refine j_go ?_; first
        | refine j_op0 rfl rfl rfl rfl ?_ | (refine j_kIdx rfl ?_; first | refine j_midx rfl rfl rfl rfl rfl (by first | omega | (simp only [List.length_append, List.length_cons, List.length_nil]; omega)) rfl rfl ?_) | (refine j_kBin rfl ?_; first | refine j_in rfl rfl ⟨by omega, by omega⟩ rfl rfl ?_))
      | refine j_nil ?_
      | (refine r_go ?_; first | refine run_seq ?_ | refine run_region ?_)
      | refine seqQ_normal ?_)
    refine j_loadS 0 k 1 rfl rfl rfl rfl rfl hc3 rfl (fun rest => rfl) rfl rfl ?_
    repeat' (first
      | (refine j_go ?_; first
        | refine j_op0 rfl rfl rfl rfl ?_))
    refine j_kCall rfl rfl rfl rfl ?_
    refine jcp _ (m_markInt64S _ _ _ (kv + 1) o0 (by first | omega | (simp only [cntGroup] at *; omega))) List.perm_middle.symm (LeL.refl _) rfl rfl (fun v h1 hR => ?_)
    obtain ⟨rfl, rfl⟩ := hR
    repeat' (first
      | (refine j_go ?_; first
        | refine j_op0 rfl rfl rfl rfl ?_ | (refine j_kIdx rfl ?_; first | refine j_midx rfl rfl rfl rfl rfl (by first | omega | (simp only [List.length_append, List.length_cons, List.length_nil]; omega)) rfl rfl ?_))
      | refine j_nil ?_
      | (refine r_go ?_; first | refine run_seq ?_ | refine run_region ?_)
      | refine seqQ_normal ?_)
    refine j_storeS 0 k 2 rfl rfl rfl rfl rfl rfl rfl rfl rfl rfl rfl hc3 rfl ?_
    repeat' (first
      | (refine j_go ?_; first
        | refine j_op0 rfl rfl rfl rfl ?_ | (refine j_kBin rfl ?_; first | refine j_in rfl rfl ⟨by omega, by omega⟩ rfl rfl ?_))
      | refine j_nil ?_
      | (refine r_go ?_; first | refine run_region ?_)
      | refine seqQ_normal ?_ | refine blockQ_normal ?_)
    refine loopQ_nextS (c := ?c) (k + 1) (kv + 1 + l[k].contents.length + 1) cc k ?g1 ?g2 ?g3 ?g4
    case g3 => rfl
    case g4 => exact ⟨rfl, rfl, nx _, trivial⟩
    case g2 => dsimp only; omega
    case g1 => exact ⟨by dsimp only; omega, by dsimp only; rw [hsn, hcn]; omega, by dsimp only; rw [List.length_set]; omega, fun i hi => by dsimp only at hi ⊢; rw [List.getElem?_set_ne (by omega)]; exact g4 i (by omega)⟩
  · repeat' (first
      | (refine j_go ?_; first
        | refine j_op0 rfl rfl rfl rfl ?_ | (refine j_kLen rfl ?_; first | refine j_op rfl rfl rfl rfl ?_))
      | refine j_nil ?_
      | (refine r_go ?_; first | refine run_seq ?_ | refine run_region ?_ | (refine (run_if rfl (fun hb => ?_) (fun hb => ?_)) <;> first | (exfalso; omega) | skip) | refine run_ret ?_ | refine run_exit ?_)
      | refine seqQ_normal ?_ | refine seqQ_exit ?_ | refine blockQ_eq ?_ | refine loopQ_exit ?_)
    have : k = l.length := by omega
    subst this
    rw [List.take_length] at g2
    subst g2
    exact endD_view (view_sub (h0 := [] ++ F) (by simp)) (endD_ret (h1 := []) rfl (.cons (.tmp rfl) .nil) (Le.refl _) ⟨rfl, rfl⟩ (.inl rfl))


def cntDivRule (x : DivRule) : Nat := 1 + 1 + 1 + 1 + x.first.length + 1 + x.second.length
def EDivRule (x : DivRule) (cs : List A) (h : Heap) : Prop := ∃ (a0 : A) (h0 : Heap), OwnSl EI 2 1 x.first a0 h0 ∧ ∃ (a1 : A) (h1 : Heap), OwnSl EI 2 1 x.second a1 h1 ∧ cs = [.int x.kind, .int x.charge, .int x.object, .int x.to, a0, .int x.toB, a1] ∧ h = h0 ++ (h1)
theorem cntDivRule_le {x : DivRule} (hx : OkDivRule x) : cntDivRule x ≤ 2097157 := by
  obtain ⟨k0, k1⟩ := hx
  unfold cntDivRule
  omega
theorem EDivRule_frz (x : DivRule) (cs : List A) (h : Heap) (q : EDivRule x cs h) : FrzL h cs (encDivRule x) := by
  obtain ⟨a0, h0, o0, a1, h1, o1, rfl, rfl⟩ := q
  exact (FrzL.cons (Frz.same _ _) (FrzL.cons (Frz.same _ _) (FrzL.cons (Frz.same _ _) (FrzL.cons (Frz.same _ _) (FrzL.cons (Frz.mono (fun _ hk => by simp [hk]) (o0.frz (fun _ => rfl) EI_frz)) (FrzL.cons (Frz.same _ _) (FrzL.cons (Frz.mono (fun _ hk => by simp [hk]) (o1.frz (fun _ => rfl) EI_frz)) (FrzL.nil _))))))))
theorem EDivRule_len {x : DivRule} {cs : List A} {h : Heap} (q : EDivRule x cs h) : cs.length = 7 := by
  obtain ⟨a0, h0, o0, a1, h1, o1, rfl, rfl⟩ := q
  rfl
theorem EDivRule_ok {x : DivRule} {cs : List A} {h : Heap} (q : EDivRule x cs h) : cs.all okCell = true := by
  obtain ⟨a0, h0, o0, a1, h1, o1, rfl, rfl⟩ := q
  obtain ⟨b0, rfl⟩ := o0.isos
  obtain ⟨b1, rfl⟩ := o1.isos
  rfl
theorem n_toDivRule (x : DivRule) (hx : OkDivRule x) : Does Try.prog 158 [.agg (encDivRule x)] [] (fun v h' => ∃ cs, v = .agg cs ∧ EDivRule x cs h') := by
  obtain ⟨k0, k1⟩ := hx
  refine Does.drop (R := fun v h' => ∃ cs k hh, v = .agg cs ∧ EDivRule x cs hh ∧ h'.Perm (k :: hh)) ?_ (fun v h' ⟨cs, k, hh, q1, q2, q3⟩ => ⟨_, hh, q3, List.sublist_cons_self _ _, cs, q1, q2⟩)
  refine fn_of_runD tyOk ztOk mix Try.func158 rfl (by decide) Try.ntmps158 (fun w0 F => ?_)
  change Run _ _ _ _ _ F
  repeat' (first
      | (refine j_go ?_; first
        | refine j_op0 rfl rfl rfl rfl ?_ | (refine j_kStore rfl ?_; first | refine j_store 0 rfl rfl rfl rfl rfl rfl rfl rfl rfl rfl rfl ?_) | refine j_box rfl rfl rfl rfl rfl rfl ?_ | refine j_alloc rfl rfl rfl rfl rfl (fun _ => ?_))
      | refine j_nil ?_
      | (refine r_go ?_; first | refine run_seq ?_ | refine run_region ?_)
      | refine seqQ_normal ?_)
  refine j_kCall rfl rfl rfl rfl ?_
  refine jcp _ (n_toInt64S _ k0) (List.Perm.refl _) (LeL.refl _) rfl rfl (fun v0 h0 o0 => ?_)
  refine j_view (view_perm perm2) ?_
  obtain ⟨b0, rfl⟩ := o0.isos
  repeat' (first
      | (refine j_go ?_; first
        | refine j_op0 rfl rfl rfl rfl ?_ | (refine j_kStore rfl ?_; first | refine j_store 0 rfl rfl rfl rfl rfl rfl rfl rfl rfl rfl rfl ?_))
      | refine j_nil ?_
      | (refine r_go ?_; first | refine run_seq ?_ | refine run_region ?_)
      | refine seqQ_normal ?_)
  refine j_kCall rfl rfl rfl rfl ?_
  refine jcp _ (n_toInt64S _ k1) (List.Perm.refl _) (LeL.refl _) rfl rfl (fun v1 h1 o1 => ?_)
  refine j_view (view_perm perm2) ?_
  obtain ⟨b1, rfl⟩ := o1.isos
  repeat' (first
      | (refine j_go ?_; first
        | refine j_op0 rfl rfl rfl rfl ?_ | (refine j_kLoad rfl ?_; first | refine j_mload 0 rfl rfl rfl rfl rfl rfl rfl ?_) | (refine j_kStore rfl ?_; first | refine j_store 0 rfl rfl rfl rfl rfl rfl rfl rfl rfl rfl rfl ?_ | refine j_storeN 1 rfl rfl rfl rfl rfl rfl rfl rfl rfl rfl rfl ?_))
      | refine j_nil ?_
      | (refine r_go ?_; first | refine run_seq ?_ | refine run_region ?_ | refine run_ret ?_)
      | refine seqQ_normal ?_)
  refine endD_view (view_erase 0) ?_
  exact endD_ret (h1 := _ :: (h1 ++ (h0))) (congrArg (List.cons _) (show h1 ++ (h0 ++ F) = (h1 ++ (h0)) ++ F by simp only [List.append_assoc])) (.cons (.cellM rfl (List.mem_cons_self ..) rfl) .nil) (Le.refl _) ⟨_, _, h0 ++ (h1), rfl, ⟨_, h0, o0, _, h1, o1, rfl, rfl⟩, .cons _ (by classical exact List.perm_iff_count.2 fun _ => by simp only [List.count_append, List.count_cons, List.count_nil, Nat.add_zero, Nat.zero_add]; first | done | ac_rfl | omega)⟩ (.inl rfl)
theorem n_toDivRuleS (l : List (DivRule)) (hl : l.length ≤ 1048576) (hl2 : ∀ x ∈ l, OkDivRule x) : Does Try.prog 101 [.sl (l.map encDivRule)] [] (fun v h' => OwnSl EDivRule 194 7 l v h') := by
  refine fn_of_runD tyOk ztOk mix Try.func101 rfl (by decide) Try.ntmps101 (fun w0 F => ?_)
  change Run _ _ _ _ _ F
  repeat' (first
      | (refine j_go ?_; first
        | refine j_op0 rfl rfl rfl rfl ?_ | (refine j_kLen rfl ?_; first | refine j_len rfl rfl rfl rfl rfl rfl ?_))
      | refine j_nil ?_
      | (refine r_go ?_; first | refine run_seq ?_ | refine run_region ?_)
      | refine seqQ_normal ?_)
  refine j_makeI (g := Subtype.val) (⟨[.int 0, .int 0, .int 0, .int 0, .sl [], .int 0, .sl []], rfl⟩ : Cells 7) rfl rfl rfl rfl rfl rfl rfl rfl rfl (by omega) rfl rfl (fun b => ?_)
  repeat' (first
      | (refine j_go ?_; first
        | refine j_op0 rfl rfl rfl rfl ?_)
      | refine j_nil ?_
      | (refine r_go ?_; first | refine run_seq ?_ | refine run_region ?_ | refine run_block ?_)
      | refine seqQ_normal ?_)
  refine run_loop (fun s : Nat × List (Cells 7) × List Heap => [(0, .sl (l.map encDivRule)), (3, .os (some b) l.length l.length), (4, .int (s.1 : Int))])
      (fun s => ⟨some b, 194, l.length * 7, ((s.2.1 ++ List.replicate (l.length - s.1) (⟨[.int 0, .int 0, .int 0, .int 0, .sl [], .int 0, .sl []], rfl⟩ : Cells 7)).map Subtype.val).flatten⟩ :: (s.2.2.flatten ++ F))
      (fun s => s.1 ≤ l.length ∧ s.2.1.length = s.1 ∧ s.2.2.length = s.1 ∧ ∀ i (hi : i < l.length) (h1 : i < s.2.1.length) (h2 : i < s.2.2.length), EDivRule l[i] s.2.1[i].1 s.2.2[i]) (fun s => l.length - s.1) (0, [], []) ⟨rfl, rfl, rfl, trivial⟩ (by simp) ⟨by simp, rfl, rfl, fun i _ h1 => absurd h1 (Nat.not_lt_zero _)⟩ ?_
  intro ⟨k, css, hs⟩ ⟨g1, g2, g3, g4⟩
  dsimp only at g1 g2 g3 g4 ⊢
  repeat' (first
      | (refine j_go ?_; first
        | refine j_op0 rfl rfl rfl rfl ?_ | (refine j_kIdx rfl ?_; first | refine j_idx rfl rfl rfl rfl rfl (by omega) rfl rfl rfl ?_) | (refine j_kLen rfl ?_; first | refine j_len rfl rfl rfl rfl rfl rfl ?_))
      | refine j_nil ?_
      | (refine r_go ?_; first | refine run_seq ?_ | refine run_region ?_ | (refine (run_if rfl (fun hb => ?_) (fun hb => ?_)) <;> first | (exfalso; omega) | skip) | refine run_block ?_ | refine run_ret ?_ | refine run_exit ?_ | refine run_skip ?_)
      | refine seqQ_normal ?_ | refine seqQ_exit ?_ | refine blockQ_eq ?_ | refine loopQ_exit ?_)
  · have hk : k < l.length := by omega
    refine j_kCall rfl rfl rfl rfl ?_
    refine jcp _ (n_toDivRule l[k] (hl2 _ (List.getElem_mem _))) (List.Perm.refl _) (LeL.refl _) rfl rfl (fun v h1 hR => ?_)
    obtain ⟨cs, rfl, hE⟩ := hR
    have hok := EDivRule_ok hE
    repeat' (first
      | (refine j_go ?_; first
        | (refine j_kIdx rfl ?_; first | refine j_midx rfl rfl rfl rfl rfl (by first | omega | (simp only [List.length_append, List.length_cons, List.length_nil]; omega)) rfl rfl ?_)))
    refine j_view (view_perm List.perm_middle) ?_
    refine j_storeE 0 k (g := Subtype.val) (⟨cs, EDivRule_len hE⟩ : Cells 7) rfl rfl rfl rfl rfl rfl rfl rfl hok (fun y => y.2 : ∀ y : Cells 7, y.1.length = 7) rfl (by simp; omega) ?_
    repeat' (first
      | (refine j_go ?_; first
        | refine j_op0 rfl rfl rfl rfl ?_ | (refine j_kBin rfl ?_; first | refine j_in rfl rfl ⟨by omega, by omega⟩ rfl rfl ?_))
      | refine j_nil ?_
      | (refine r_go ?_; first | refine run_region ?_)
      | refine seqQ_normal ?_ | refine blockQ_normal ?_)
    refine loopQ_view (view_perm (h' := ⟨some b, 194, l.length * 7, (((css ++ [(⟨cs, EDivRule_len hE⟩ : Cells 7)]) ++ List.replicate (l.length - (k + 1)) (⟨[.int 0, .int 0, .int 0, .int 0, .sl [], .int 0, .sl []], rfl⟩ : Cells 7)).map Subtype.val).flatten⟩ :: ((hs ++ [h1]).flatten ++ F)) (by rw [app_rep_set g2 hk]; exact .cons _ (by simp only [List.flatten_append, List.flatten_cons, List.flatten_nil, List.append_nil]; exact (by classical exact List.perm_iff_count.2 fun _ => by simp only [List.count_append, List.count_cons, List.count_nil, Nat.add_zero, Nat.zero_add]; first | done | ac_rfl | omega)))) ?_
    exact loopQ_next (k + 1, css ++ [(⟨cs, EDivRule_len hE⟩ : Cells 7)], hs ++ [h1]) ⟨by dsimp only; omega, by simp [g2], by simp [g3], fun i hi h1' h2' => own_snoc g2 g3 (hl := hk) g4 hE i hi h1' h2'⟩ (by dsimp only; omega) rfl ⟨rfl, rfl, nx _, trivial⟩
  · have : k = l.length := by omega
    subst this
    exact endD_ret (h1 := ⟨some b, 194, l.length * 7, (css.map Subtype.val).flatten⟩ :: hs.flatten) (by simp) (.cons (.tmp rfl) .nil) (Le.refl _) ⟨b, css, hs, g2, g3, g4, rfl, rfl⟩ (.inl rfl)
theorem m_markDivRuleS (l : List (DivRule)) (a : A) (h : Heap) (k0 : Nat) (ho : OwnSl EDivRule 194 7 l a h) (hk : k0 + mcnt cntDivRule l ≤ 4611686018427387904) : Does Try.prog 105 [a, .int (k0 : Int)] h (fun v h' => v = .int ((k0 + mcnt cntDivRule l : Nat) : Int) ∧ h' = []) := by
  obtain ⟨b, css, hs, l1, l2, hall, rfl, rfl⟩ := ho
  refine fn_of_runD tyOk ztOk mix Try.func105 rfl (by decide) Try.ntmps105 (fun w0 F => ?_)
  change Run _ _ _ _ _ (⟨some b, 194, l.length * 7, (css.map Subtype.val).flatten⟩ :: (hs.flatten ++ F))
  refine run_olen (t := 0) rfl (fun hol => ?_)
  repeat' (first
      | (refine j_go ?_; first
        | refine j_op0 rfl rfl rfl rfl ?_)
      | refine j_nil ?_
      | (refine r_go ?_; first | refine run_seq ?_ | refine run_region ?_ | refine run_block ?_)
      | refine seqQ_normal ?_)
  refine run_loop (fun s : Nat × Nat × List (Cells 7) => [(0, .os (some b) l.length l.length), (1, .int (s.2.1 : Int)), (5, .int (s.1 : Int))])
    (fun s => ⟨some b, 194, l.length * 7, (s.2.2.map Subtype.val).flatten⟩ :: ((hs.drop s.1).flatten ++ F))
    (fun s => s.1 ≤ l.length ∧ s.2.1 = k0 + mcnt cntDivRule (l.take s.1) ∧ s.2.2.length = l.length ∧ ∀ i, s.1 ≤ i → s.2.2[i]? = css[i]?) (fun s => l.length - s.1) (0, k0, css) ⟨rfl, rfl, rfl, trivial⟩ (by simp) ⟨by simp, by simp [mcnt], l1, fun _ _ => rfl⟩ ?_
  intro ⟨k, kv, cc⟩ ⟨g1, g2, g3, g4⟩
  dsimp only at g1 g2 g3 g4 ⊢
  by_cases hkl : k < l.length
  · have hc1 : k < css.length := by omega
    have hc2 : k < hs.length := by omega
    have hc3 : k < cc.length := by omega
    have e1 : cc[k] = css[k] := by have := g4 k (Nat.le_refl _); simpa [hc1, hc3] using this
    have hsn := mcnt_take (f := cntDivRule) hkl
    have hlt := mcnt_take_le (f := cntDivRule) (k + 1) l
    have hd : (hs.drop k).flatten = hs[k] ++ (hs.drop (k + 1)).flatten := by rw [List.drop_eq_getElem_cons hc2]; rfl
    obtain ⟨a0, h0, o0, a1, h1, o1, ea, eh⟩ := hall k hkl hc1 hc2
    have hcn : cntDivRule l[k] = 1 + 1 + 1 + 1 + l[k].first.length + 1 + l[k].second.length := rfl
    have e0 : cc = cc.set k (⟨[.int l[k].kind, .int l[k].charge, .int l[k].object, .int l[k].to, a0, .int l[k].toB, a1], rfl⟩ : Cells 7) := set_own hc3 (by rw [e1, ea])
    obtain ⟨b0, eb0⟩ := o0.isos
    obtain ⟨b1, eb1⟩ := o1.isos
    refine run_heq (h' := ⟨some b, 194, l.length * 7, ((cc.set k (⟨[.int l[k].kind, .int l[k].charge, .int l[k].object, .int l[k].to, a0, .int l[k].toB, a1], rfl⟩ : Cells 7)).map Subtype.val).flatten⟩ :: (h0 ++ (h1 ++ ((hs.drop (k + 1)).flatten ++ F)))) (by rw [← e0, hd, eh]; simp only [List.append_assoc]) ?_
    clear eh
    subst eb0 eb1
    repeat' (first
      | (refine j_go ?_; first
        | refine j_op0 rfl rfl rfl rfl ?_ | (refine j_kIdx rfl ?_; first | refine j_midx rfl rfl rfl rfl rfl (by first | omega | (simp only [List.length_append, List.length_cons, List.length_nil]; omega)) rfl rfl ?_) | (refine j_kLen rfl ?_; first | refine j_op rfl rfl rfl rfl ?_))
      | refine j_nil ?_
      | (refine r_go ?_; first | refine run_seq ?_ | refine run_region ?_ | (refine (run_if rfl (fun hb => ?_) (fun hb => ?_)) <;> first | (exfalso; omega) | skip) | refine run_block ?_ | refine run_skip ?_)
      | refine seqQ_normal ?_)
    refine j_storeS 0 k 0 rfl rfl rfl rfl rfl rfl rfl rfl rfl rfl rfl hc3 rfl ?_
    repeat' (first
      | (refine j_go ?_; first
        | refine j_op0 rfl rfl rfl rfl ?_ | (refine j_kIdx rfl ?_; first | refine j_midx rfl rfl rfl rfl rfl (by first | omega | (simp only [List.length_append, List.length_cons, List.length_nil]; omega)) rfl rfl ?_) | (refine j_kBin rfl ?_; first | refine j_in rfl rfl ⟨by omega, by omega⟩ rfl rfl ?_))
      | refine j_nil ?_
      | (refine r_go ?_; first | refine run_seq ?_ | refine run_region ?_)
      | refine seqQ_normal ?_)
    refine j_storeS 0 k 1 rfl rfl rfl rfl rfl rfl rfl rfl rfl rfl rfl hc3 rfl ?_
    repeat' (first
      | (refine j_go ?_; first
        | refine j_op0 rfl rfl rfl rfl ?_ | (refine j_kIdx rfl ?_; first | refine j_midx rfl rfl rfl rfl rfl (by first | omega | (simp only [List.length_append, List.length_cons, List.length_nil]; omega)) rfl rfl ?_) | (refine j_kBin rfl ?_; first | refine j_in rfl rfl ⟨by omega, by omega⟩ rfl rfl ?_))
      | refine j_nil ?_
      | (refine r_go ?_; first | refine run_seq ?_ | refine run_region ?_)
      | refine seqQ_normal ?_)
    refine j_storeS 0 k 2 rfl rfl rfl rfl rfl rfl rfl rfl rfl rfl rfl hc3 rfl ?_
    repeat' (first
      | (refine j_go ?_; first
        | refine j_op0 rfl rfl rfl rfl ?_ | (refine j_kIdx rfl ?_; first | refine j_midx rfl rfl rfl rfl rfl (by first | omega | (simp only [List.length_append, List.length_cons, List.length_nil]; omega)) rfl rfl ?_) | (refine j_kBin rfl ?_; first | refine j_in rfl rfl ⟨by omega, by omega⟩ rfl rfl ?_))
      | refine j_nil ?_
      | (refine r_go ?_; first | refine run_seq ?_ | refine run_region ?_)
      | refine seqQ_normal ?_)
    refine j_storeS 0 k 3 rfl rfl rfl rfl rfl rfl rfl rfl rfl rfl rfl hc3 rfl ?_
    repeat' (first
      | (refine j_go ?_; first
        | refine j_op0 rfl rfl rfl rfl ?_ | (refine j_kIdx rfl ?_; first | refine j_midx rfl rfl rfl rfl rfl (by first | omega | (simp only [List.length_append, List.length_cons, List.length_nil]; omega)) rfl rfl ?_) | (refine j_kBin rfl ?_; first | refine j_in rfl rfl ⟨by omega, by omega⟩ rfl rfl ?_))
      | refine j_nil ?_
      | (refine r_go ?_; first | refine run_seq ?_ | refine run_region ?_)
      | refine seqQ_normal ?_)
    refine j_loadS 0 k 4 rfl rfl rfl rfl rfl hc3 rfl (fun rest => rfl) rfl rfl ?_
    repeat' (first
      | (refine j_go ?_; first
        | refine j_op0 rfl rfl rfl rfl ?_))
    refine j_kCall rfl rfl rfl rfl ?_
    refine jcp _ (m_markInt64S _ _ _ (kv + 1 + 1 + 1 + 1) o0 (by first | omega | (simp only [cntDivRule] at *; omega))) List.perm_middle.symm (LeL.refl _) rfl rfl (fun v h1 hR => ?_)
    obtain ⟨rfl, rfl⟩ := hR
    repeat' (first
      | (refine j_go ?_; first
        | refine j_op0 rfl rfl rfl rfl ?_ | (refine j_kIdx rfl ?_; first | refine j_midx rfl rfl rfl rfl rfl (by first | omega | (simp only [List.length_append, List.length_cons, List.length_nil]; omega)) rfl rfl ?_))
      | refine j_nil ?_
      | (refine r_go ?_; first | refine run_seq ?_ | refine run_region ?_)
      | refine seqQ_normal ?_)
    refine j_storeS 0 k 5 rfl rfl rfl rfl rfl rfl rfl rfl rfl rfl rfl hc3 rfl ?_
    repeat' (first
      | (refine j_go ?_; first
        | refine j_op0 rfl rfl rfl rfl ?_ | (refine j_kIdx rfl ?_; first | refine j_midx rfl rfl rfl rfl rfl (by first | omega | (simp only [List.length_append, List.length_cons, List.length_nil]; omega)) rfl rfl ?_) | (refine j_kBin rfl ?_; first | refine j_in rfl rfl ⟨by omega, by omega⟩ rfl rfl ?_))
      | refine j_nil ?_
      | (refine r_go ?_; first | refine run_seq ?_ | refine run_region ?_)
      | refine seqQ_normal ?_)
    refine j_loadS 0 k 6 rfl rfl rfl rfl rfl hc3 rfl (fun rest => rfl) rfl rfl ?_
    repeat' (first
      | (refine j_go ?_; first
        | refine j_op0 rfl rfl rfl rfl ?_))
    refine j_kCall rfl rfl rfl rfl ?_
    refine jcp _ (m_markInt64S _ _ _ (kv + 1 + 1 + 1 + 1 + l[k].first.length + 1) o1 (by first | omega | (simp only [cntDivRule] at *; omega))) List.perm_middle.symm (LeL.refl _) rfl rfl (fun v h1 hR => ?_)
    obtain ⟨rfl, rfl⟩ := hR
    repeat' (first
      | (refine j_go ?_; first
        | refine j_op0 rfl rfl rfl rfl ?_ | (refine j_kBin rfl ?_; first | refine j_in rfl rfl ⟨by omega, by omega⟩ rfl rfl ?_))
      | refine j_nil ?_
      | (refine r_go ?_; first | refine run_region ?_)
      | refine seqQ_normal ?_ | refine blockQ_normal ?_)
    refine loopQ_nextS (c := ?c) (k + 1) (kv + 1 + 1 + 1 + 1 + l[k].first.length + 1 + l[k].second.length) cc k ?g1 ?g2 ?g3 ?g4
    case g3 => rfl
    case g4 => exact ⟨rfl, rfl, nx _, trivial⟩
    case g2 => dsimp only; omega
    case g1 => exact ⟨by dsimp only; omega, by dsimp only; rw [hsn, hcn]; omega, by dsimp only; rw [List.length_set]; omega, fun i hi => by dsimp only at hi ⊢; rw [List.getElem?_set_ne (by omega)]; exact g4 i (by omega)⟩
  · repeat' (first
      | (refine j_go ?_; first
        | refine j_op0 rfl rfl rfl rfl ?_ | (refine j_kLen rfl ?_; first | refine j_op rfl rfl rfl rfl ?_))
      | refine j_nil ?_
      | (refine r_go ?_; first | refine run_seq ?_ | refine run_region ?_ | (refine (run_if rfl (fun hb => ?_) (fun hb => ?_)) <;> first | (exfalso; omega) | skip) | refine run_ret ?_ | refine run_exit ?_)
      | refine seqQ_normal ?_ | refine seqQ_exit ?_ | refine blockQ_eq ?_ | refine loopQ_exit ?_)
    have : k = l.length := by omega
    subst this
    rw [List.take_length] at g2
    subst g2
    exact endD_view (view_sub (h0 := [] ++ F) (by simp)) (endD_ret (h1 := []) rfl (.cons (.tmp rfl) .nil) (Le.refl _) ⟨rfl, rfl⟩ (.inl rfl))

def cntDivision (x : Division) : Nat := 1 + mcnt cntDivRule x.rules
def EDivision (x : Division) (cs : List A) (h : Heap) : Prop := ∃ (a0 : A) (h0 : Heap), OwnSl EDivRule 194 7 x.rules a0 h0 ∧ cs = [.int x.objects, a0] ∧ h = h0
theorem cntDivision_le {x : Division} (hx : OkDivision x) : cntDivision x ≤ 2199028498433 := by
  obtain ⟨⟨k0, m0⟩⟩ := hx
  have e0 := mcnt_le2 (f := cntDivRule) k0 (fun y hy => cntDivRule_le (m0 y hy))
  unfold cntDivision
  omega
theorem EDivision_frz (x : Division) (cs : List A) (h : Heap) (q : EDivision x cs h) : FrzL h cs (encDivision x) := by
  obtain ⟨a0, h0, o0, rfl, rfl⟩ := q
  exact (FrzL.cons (Frz.same _ _) (FrzL.cons (Frz.mono (fun _ hk => by simp [hk]) (o0.frz (fun _ => rfl) EDivRule_frz)) (FrzL.nil _)))
theorem n_toDivision (x : Division) (hx : OkDivision x) : Does Try.prog 36 [.agg (encDivision x)] [] (fun v h' => ∃ cs, v = .agg cs ∧ EDivision x cs h') := by
  obtain ⟨⟨k0, m0⟩⟩ := hx
  refine Does.drop (R := fun v h' => ∃ cs k hh, v = .agg cs ∧ EDivision x cs hh ∧ h'.Perm (k :: hh)) ?_ (fun v h' ⟨cs, k, hh, q1, q2, q3⟩ => ⟨_, hh, q3, List.sublist_cons_self _ _, cs, q1, q2⟩)
  refine fn_of_runD tyOk ztOk mix Try.func36 rfl (by decide) Try.ntmps36 (fun w0 F => ?_)
  change Run _ _ _ _ _ F
  repeat' (first
      | (refine j_go ?_; first
        | refine j_op0 rfl rfl rfl rfl ?_ | (refine j_kStore rfl ?_; first | refine j_store 0 rfl rfl rfl rfl rfl rfl rfl rfl rfl rfl rfl ?_) | refine j_box rfl rfl rfl rfl rfl rfl ?_ | refine j_alloc rfl rfl rfl rfl rfl (fun _ => ?_))
      | refine j_nil ?_
      | (refine r_go ?_; first | refine run_seq ?_ | refine run_region ?_)
      | refine seqQ_normal ?_)
  refine j_kCall rfl rfl rfl rfl ?_
  refine jcp _ (n_toDivRuleS _ k0 m0) (List.Perm.refl _) (LeL.refl _) rfl rfl (fun v0 h0 o0 => ?_)
  refine j_view (view_perm perm2) ?_
  obtain ⟨b0, rfl⟩ := o0.isos
  repeat' (first
      | (refine j_go ?_; first
        | refine j_op0 rfl rfl rfl rfl ?_ | (refine j_kLoad rfl ?_; first | refine j_mload 0 rfl rfl rfl rfl rfl rfl rfl ?_) | (refine j_kStore rfl ?_; first | refine j_store 0 rfl rfl rfl rfl rfl rfl rfl rfl rfl rfl rfl ?_ | refine j_storeN 1 rfl rfl rfl rfl rfl rfl rfl rfl rfl rfl rfl ?_))
      | refine j_nil ?_
      | (refine r_go ?_; first | refine run_seq ?_ | refine run_region ?_ | refine run_ret ?_)
      | refine seqQ_normal ?_)
  refine endD_view (view_erase 0) ?_
  exact endD_ret (h1 := _ :: (h0)) (congrArg (List.cons _) (show h0 ++ F = (h0) ++ F by simp only [List.append_assoc])) (.cons (.cellM rfl (List.mem_cons_self ..) rfl) .nil) (Le.refl _) ⟨_, _, h0, rfl, ⟨_, h0, o0, rfl, rfl⟩, .cons _ (List.Perm.refl _)⟩ (.inl rfl)
theorem m_markDivision (x : Division) (cs : List A) (h : Heap) (k0 : Nat) (q : EDivision x cs h) (hk : k0 + cntDivision x ≤ 4611686018427387904) : Does Try.prog 43 [.agg cs, .int (k0 : Int)] h (fun v h' => v = .int ((k0 + (mcnt cntDivRule x.rules) : Nat) : Int) ∧ h' = []) := by
  obtain ⟨a0, h0, o0, rfl, rfl⟩ := q
  have hcn : cntDivision x = 1 + mcnt cntDivRule x.rules := rfl
  obtain ⟨b0, eb0⟩ := o0.isos
  subst eb0
  refine fn_of_runD tyOk ztOk mix Try.func43 rfl (by decide) Try.ntmps43 (fun w0 F => ?_)
  repeat' (first
      | (refine j_go ?_; first
        | refine j_op0 rfl rfl rfl rfl ?_ | refine j_box rfl rfl rfl rfl rfl rfl ?_)
      | refine j_nil ?_
      | (refine r_go ?_; first | refine run_seq ?_ | refine run_region ?_)
      | refine seqQ_normal ?_)
  refine j_kCall rfl rfl rfl rfl ?_
  refine jcp _ (m_markDivRuleS _ _ _ (k0) o0 (by omega)) (List.Perm.refl _) (LeL.refl _) rfl rfl (fun v h1 hR => ?_)
  obtain ⟨rfl, rfl⟩ := hR
  repeat' (first
      | (refine j_go ?_; first
        | refine j_op0 rfl rfl rfl rfl ?_)
      | refine j_nil ?_
      | (refine r_go ?_; first | refine run_seq ?_ | refine run_region ?_ | refine run_ret ?_)
      | refine seqQ_normal ?_)
  exact endD_ret (h1 := []) rfl (.cons (.tmp rfl) .nil) (Le.refl _) ⟨ani (by omega), rfl⟩ (.inl rfl)
end Go.Proofs.Ytandldhceabdiaa

/-
  Results in memory of the call's own: their marks, and what is held of them. No condition but that the sizes are bounded.
-/
namespace Go.Proofs.Ytandldhceabdiaa
open Go.AI
set_option maxRecDepth 8000
set_option maxHeartbeats 1600000
def ROI (l : List Int) (a : A) (h : Heap) : Prop := OwnF Go.AI.encI 2 1 l a h
def ROB (l : List Bool) (a : A) (h : Heap) : Prop := OwnF encB 4 1 l a h
def ROII (L : List (List Int)) (a : A) (h : Heap) : Prop := OwnLL ROI 22 L a h
theorem ROI.frz {l : List Int} {a : A} {h : Heap} (o : ROI l a h) : Frz h a (.sl (l.map Go.AI.encI)) := OwnF.frz (fun _ => rfl) rfl o
theorem ROB.frz {l : List Bool} {a : A} {h : Heap} (o : ROB l a h) : Frz h a (.sl (l.map encB)) := OwnF.frz (fun _ => rfl) rfl o
theorem ROII.frz {l : List (List Int)} {a : A} {h : Heap} (o : ROII l a h) : Frz h a (.sl (l.map (encS Go.AI.encI))) := OwnLL.frz (enc := fun x => (x.map Go.AI.encI)) (fun _ _ _ q => q.frz) o (fun _ => rfl)
theorem ROI.clo {l : List Int} {a : A} {h : Heap} (o : ROI l a h) : Clo a ∧ CloH h := OwnF.clo (fun _ => CloL.cons (Clo.int _) CloL.nil) o
theorem ROB.clo {l : List Bool} {a : A} {h : Heap} (o : ROB l a h) : Clo a ∧ CloH h := OwnF.clo (fun _ => CloL.cons (Clo.raw _) CloL.nil) o
theorem ROII.clo {l : List (List Int)} {a : A} {h : Heap} (o : ROII l a h) : Clo a ∧ CloH h := OwnLL.clo (fun _ _ _ q => q.clo) o
theorem r_markI (r : List Int) (a : A) (h : Heap) (k0 : Nat) (o : ROI r a h) (hk : k0 + r.length ≤ 4611686018427387904) :
    Does Try.prog 44 [a, .int (k0 : Int)] h (fun v h' => v = .int ((k0 + r.length : Nat) : Int) ∧ ROI (markedI k0 r.length) a h') := by
  rcases o with ⟨b, cap, rfl, rfl⟩ | ⟨rfl, rfl, rfl⟩
  case inr =>
    refine fn_of_runD tyOk ztOk mix Try.func44 rfl (by decide) Try.ntmps44 (fun w0 F => ?_)
    change Run _ _ _ _ _ F
    repeat' (first
      | (refine j_go ?_; first
        | refine j_op0 rfl rfl rfl rfl ?_)
      | refine j_nil ?_
      | (refine r_go ?_; first | refine run_seq ?_ | refine run_region ?_ | refine run_block ?_)
      | refine seqQ_normal ?_)
    refine run_loop (fun _ : Unit => [(0, .sl []), (1, .int (k0 : Int)), (5, .int 0)]) (fun _ => F) (fun _ => True) (fun _ => 0) () ⟨rfl, rfl, rfl, trivial⟩ rfl trivial (fun _ _ => ?_)
    repeat' (first
      | (refine j_go ?_; first
        | refine j_op0 rfl rfl rfl rfl ?_ | (refine j_kLen rfl ?_; first | refine j_op rfl rfl rfl rfl ?_))
      | refine j_nil ?_
      | (refine r_go ?_; first | refine run_seq ?_ | refine run_region ?_ | (refine (run_if rfl (fun hb => ?_) (fun hb => ?_)) <;> first | (exfalso; omega) | skip) | refine run_block ?_ | refine run_ret ?_ | refine run_exit ?_ | refine run_skip ?_)
      | refine seqQ_normal ?_ | refine seqQ_exit ?_ | refine blockQ_eq ?_ | refine loopQ_exit ?_)
    · exact absurd hb (by simp)
    exact endD_ret (h1 := []) rfl (vs := [_]) (.cons (.tmp rfl) .nil) (Le.refl _) ⟨rfl, .inr ⟨rfl, rfl, rfl⟩⟩ (.inl rfl)
  have := x_markI b cap k0 r hk
  exact this.drop fun v h' ⟨q1, q2⟩ => ⟨h', h', .refl _, List.Sublist.refl _, q1, .inl ⟨b, cap, by rw [markedI_len], q2⟩⟩
theorem OwnF.okc {α : Type} {g : α → List A} {T z : Nat} {l : List α} {a : A} {h : Heap} (o : OwnF g T z l a h) : okCell a = true := by
  rcases o with ⟨b, cap, rfl, rfl⟩ | ⟨rfl, rfl, rfl⟩ <;> rfl
theorem OwnLL.okc {β : Type} {O : β → A → Heap → Prop} {T : Nat} {L : List β} {a : A} {h : Heap} (o : OwnLL O T L a h) : okCell a = true := by
  rcases o with ⟨b, cap, vs, hs, _, _, _, rfl, rfl⟩ | ⟨rfl, rfl, rfl⟩ <;> rfl

theorem ROI.frzF {l : List Int} {a : A} {h : Heap} (o : ROI l a h) : FrzF h a (.sl (l.map Go.AI.encI)) := OwnF.frzF (fun _ => rfl) rfl o
theorem ROB.frzF {l : List Bool} {a : A} {h : Heap} (o : ROB l a h) : FrzF h a (.sl (l.map encB)) := OwnF.frzF (fun _ => rfl) rfl o
theorem ROII.frzF {l : List (List Int)} {a : A} {h : Heap} (o : ROII l a h) : FrzF h a (.sl (l.map (encS Go.AI.encI))) := OwnLL.frzF (enc := fun x => (x.map Go.AI.encI)) (fun _ _ _ q => q.frzF) o (fun _ => rfl)
end Go.Proofs.Ytandldhceabdiaa
