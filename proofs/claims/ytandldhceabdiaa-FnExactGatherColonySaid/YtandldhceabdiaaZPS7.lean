/-
  Divisions and colonies in memory of the call's own: their marks, and what is held of them. No condition but that the sizes are bounded.
-/
import Derived.Test.YtandldhceabdiaaZPB
namespace Go.Proofs.Ytandldhceabdiaa
open Go.AI
set_option maxRecDepth 8000
set_option maxHeartbeats 1600000
/-- A list of elements with memory of their own: a block, or none at all. -/
def OwnS {α : Type} (E : α → List A → Heap → Prop) (T z : Nat) (L : List α) (a : A) (h : Heap) : Prop := OwnC E T z L a h ∨ (L = [] ∧ a = .sl [] ∧ h = [])
theorem OwnS.frz {α : Type} {E : α → List A → Heap → Prop} {enc : α → List A} {T z : Nat} {L : List α} {a : A} {h : Heap} (hz : ∀ x, (enc x).length = z) (hz0 : Nat.blt 0 z = true) (hE : ∀ x cs h, E x cs h → FrzL h cs (enc x)) (o : OwnS E T z L a h) : Frz h a (.sl (L.map enc)) := by
  rcases o with o | ⟨rfl, rfl, rfl⟩
  · exact o.frz hz hz0 hE
  · exact Frz.same _ _
theorem OwnS.frzF {α : Type} {E : α → List A → Heap → Prop} {enc : α → List A} {T z : Nat} {L : List α} {a : A} {h : Heap} (hz : ∀ x, (enc x).length = z) (hz0 : Nat.blt 0 z = true) (hE : ∀ x cs h, E x cs h → FrzLF h cs (enc x)) (o : OwnS E T z L a h) : FrzF h a (.sl (L.map enc)) := by
  rcases o with o | ⟨rfl, rfl, rfl⟩
  · exact o.frzF hz hz0 hE
  · exact FrzF.same _ _
theorem OwnS.clo {α : Type} {E : α → List A → Heap → Prop} {T z : Nat} {L : List α} {a : A} {h : Heap} (hE : ∀ x cs h, E x cs h → CloL cs ∧ CloH h) (o : OwnS E T z L a h) : Clo a ∧ CloH h := by
  rcases o with o | ⟨rfl, rfl, rfl⟩
  · exact o.clo hE
  · exact ⟨Clo.nil, CloH.nil⟩
theorem OwnS.okc {α : Type} {E : α → List A → Heap → Prop} {T z : Nat} {L : List α} {a : A} {h : Heap} (o : OwnS E T z L a h) : okCell a = true := by
  rcases o with ⟨b, cap, css, hs, _, _, _, rfl, rfl⟩ | ⟨rfl, rfl, rfl⟩ <;> rfl
/-- What stands in a list that was marked element by element. -/
def mksL {α : Type} (cnt : α → Nat) (mk : Nat → α → α) : Nat → List α → List α
  | _, [] => []
  | k, x :: L => mk k x :: mksL cnt mk (k + cnt x) L
theorem mksL_len {α : Type} {cnt : α → Nat} {mk : Nat → α → α} : ∀ (L : List α) (k : Nat), (mksL cnt mk k L).length = L.length
  | [], _ => rfl
  | x :: L, k => by simp [mksL, mksL_len L]
theorem mksL_get {α : Type} {cnt : α → Nat} {mk : Nat → α → α} : ∀ (L : List α) (k i : Nat) (h : i < L.length), (mksL cnt mk k L)[i]'(by rw [mksL_len]; exact h) = mk (k + mcnt cnt (L.take i)) L[i]
  | [], _, i, h => absurd h (Nat.not_lt_zero _)
  | x :: L, k, 0, h => by simp [mksL, mcnt]
  | x :: L, k, i + 1, h => by
    have := mksL_get (cnt := cnt) (mk := mk) L (k + cnt x) i (by simpa using h)
    simp only [mksL, List.getElem_cons_succ, this, List.take_succ_cons, mcnt, List.map_cons, List.sum_cons]
    rw [Nat.add_assoc]

def rcGroup (x : Group) : Nat := 1 + x.contents.length + 1
def mkGroup (k : Nat) (x : Group) : Group := ⟨(k : Int), markedI (k + 1) x.contents.length, ((k + 1 + x.contents.length : Nat) : Int)⟩
def ERGroup (x : Group) (cs : List A) (h : Heap) : Prop := ∃ (a0 : A), ROI x.contents a0 h ∧ cs = [.int x.charge, a0, .int x.count]
theorem ERGroup.frz {x : Group} {cs : List A} {h : Heap} (q : ERGroup x cs h) : FrzL h cs (encGroup x) := by
  obtain ⟨a0, o0, rfl⟩ := q
  exact FrzL.cons (Frz.same _ _) (FrzL.cons o0.frz (FrzL.cons (Frz.same _ _) (FrzL.nil _)))
theorem ERGroup.frzF {x : Group} {cs : List A} {h : Heap} (q : ERGroup x cs h) : FrzLF h cs (encGroup x) := by
  obtain ⟨a0, o0, rfl⟩ := q
  have := FrzLF.cons (FrzF.same [] (.int x.charge)) (FrzLF.cons o0.frzF (FrzLF.cons (FrzF.same [] (.int x.count)) (FrzLF.nil (h := []))))
  simp only [List.append_nil, List.nil_append] at this
  exact this
theorem ERGroup.clo {x : Group} {cs : List A} {h : Heap} (q : ERGroup x cs h) : CloL cs ∧ CloH h := by
  obtain ⟨a0, o0, rfl⟩ := q
  exact ⟨CloL.cons (Clo.int _) (CloL.cons o0.clo.1 (CloL.cons (Clo.int _) CloL.nil)), o0.clo.2⟩
def ROGroups (L : List Group) (a : A) (h : Heap) : Prop := OwnS ERGroup 130 3 L a h

def ERRule (x : DivRule) (cs : List A) (h : Heap) : Prop := ∃ (a0 : A) (h0 : Heap), ROI x.first a0 h0 ∧ ∃ (a1 : A) (h1 : Heap), ROI x.second a1 h1 ∧ cs = [.int x.kind, .int x.charge, .int x.object, .int x.to, a0, .int x.toB, a1] ∧ h = h0 ++ h1
theorem ERRule.frz {x : DivRule} {cs : List A} {h : Heap} (q : ERRule x cs h) : FrzL h cs (encDivRule x) := by
  obtain ⟨a0, h0, o0, a1, h1, o1, rfl, rfl⟩ := q
  exact FrzL.cons (Frz.same _ _) (FrzL.cons (Frz.same _ _) (FrzL.cons (Frz.same _ _) (FrzL.cons (Frz.same _ _) (FrzL.cons (Frz.mono (fun _ hk => by simp [hk]) o0.frz) (FrzL.cons (Frz.same _ _) (FrzL.cons (Frz.mono (fun _ hk => by simp [hk]) o1.frz) (FrzL.nil _)))))))
theorem ERRule.frzF {x : DivRule} {cs : List A} {h : Heap} (q : ERRule x cs h) : FrzLF h cs (encDivRule x) := by
  obtain ⟨a0, h0, o0, a1, h1, o1, rfl, rfl⟩ := q
  have := FrzLF.cons (FrzF.same [] (.int x.kind)) (FrzLF.cons (FrzF.same [] (.int x.charge)) (FrzLF.cons (FrzF.same [] (.int x.object)) (FrzLF.cons (FrzF.same [] (.int x.to)) (FrzLF.cons o0.frzF (FrzLF.cons (FrzF.same [] (.int x.toB)) (FrzLF.cons o1.frzF (FrzLF.nil (h := []))))))))
  simp only [List.append_nil, List.nil_append] at this
  exact this
theorem ERRule.clo {x : DivRule} {cs : List A} {h : Heap} (q : ERRule x cs h) : CloL cs ∧ CloH h := by
  obtain ⟨a0, h0, o0, a1, h1, o1, rfl, rfl⟩ := q
  exact ⟨CloL.cons (Clo.int _) (CloL.cons (Clo.int _) (CloL.cons (Clo.int _) (CloL.cons (Clo.int _) (CloL.cons o0.clo.1 (CloL.cons (Clo.int _) (CloL.cons o1.clo.1 CloL.nil)))))), o0.clo.2.append o1.clo.2⟩
def RORules (L : List DivRule) (a : A) (h : Heap) : Prop := OwnS ERRule 194 7 L a h
-- generated below
theorem mark_mid {b : Blk} {n ms r : Heap} : (n ++ ((b :: ms) ++ r)).Perm (b :: (n ++ (ms ++ r))) := by classical exact List.perm_iff_count.2 fun _ => by simp only [List.count_append, List.count_cons]; omega
theorem r_markGroup (L : List Group) (a : A) (h : Heap) (k0 : Nat) (o : ROGroups L a h) (hk : k0 + mcnt rcGroup L ≤ 4611686018427387904) :
    Does Try.prog 45 [a, .int (k0 : Int)] h (fun v h' => v = .int ((k0 + mcnt rcGroup L : Nat) : Int) ∧ ROGroups (mksL rcGroup mkGroup k0 L) a h') := by
  rcases o with ⟨b, cap, css, hs, l1, l2, hall, rfl, rfl⟩ | ⟨rfl, rfl, rfl⟩
  case inr =>
    refine fn_of_runD tyOk ztOk mix Try.func45 rfl (by decide) Try.ntmps45 (fun w0 F => ?_)
    change Run _ _ _ _ _ F
    repeat' (first
      | (refine j_go ?_; first
        | refine j_op0 rfl rfl rfl rfl ?_)
      | refine j_nil ?_
      | (refine r_go ?_; first | refine run_seq ?_ | refine run_region ?_ | refine run_block ?_)
      | refine seqQ_normal ?_)
    refine run_loop (fun _ : Unit => [(0, .sl []), (1, .int (k0 : Int)), (5, .int 0)]) (fun _ => F) (fun _ => True) (fun _ => 0) () ⟨rfl, rfl, rfl, trivial⟩ rfl trivial (fun _ _ => ?_)
    repeat' (first
      | (refine j_go ?_; first
        | refine j_op0 rfl rfl rfl rfl ?_ | (refine j_kLen rfl ?_; first | refine j_op rfl rfl rfl rfl ?_))
      | refine j_nil ?_
      | (refine r_go ?_; first | refine run_seq ?_ | refine run_region ?_ | (refine (run_if rfl (fun hb => ?_) (fun hb => ?_)) <;> first | (exfalso; omega) | skip) | refine run_block ?_ | refine run_ret ?_ | refine run_exit ?_ | refine run_skip ?_)
      | refine seqQ_normal ?_ | refine seqQ_exit ?_ | refine blockQ_eq ?_ | refine loopQ_exit ?_)
    · exact absurd hb (by simp)
    exact endD_ret (h1 := []) rfl (vs := [_]) (.cons (.tmp rfl) .nil) (Le.refl _) ⟨rfl, .inr ⟨rfl, rfl, rfl⟩⟩ (.inl rfl)
  refine fn_of_runD tyOk ztOk mix Try.func45 rfl (by decide) Try.ntmps45 (fun w0 F => ?_)
  change Run _ _ _ _ _ (⟨b, 130, cap * 3, (css.map Subtype.val).flatten⟩ :: (hs.flatten ++ F))
  refine run_olen (t := 0) rfl (fun hol => ?_)
  repeat' (first
      | (refine j_go ?_; first
        | refine j_op0 rfl rfl rfl rfl ?_)
      | refine j_nil ?_
      | (refine r_go ?_; first | refine run_seq ?_ | refine run_region ?_ | refine run_block ?_)
      | refine seqQ_normal ?_)
  refine run_loop (fun s : Nat × List (Cells 3) × List Heap => [(0, .os b L.length cap), (1, .int ((k0 + mcnt rcGroup (L.take s.1) : Nat) : Int)), (5, .int (s.1 : Int))])
    (fun s => ⟨b, 130, cap * 3, (s.2.1.map Subtype.val).flatten⟩ :: (s.2.2.flatten ++ ((hs.drop s.1).flatten ++ F)))
    (fun s => s.1 ≤ L.length ∧ s.2.1.length = L.length ∧ s.2.2.length = s.1 ∧ (∀ i, s.1 ≤ i → s.2.1[i]? = css[i]?) ∧ ∀ i (h0 : i < L.length) (h1 : i < s.2.1.length) (h2 : i < s.2.2.length), ERGroup (mkGroup (k0 + mcnt rcGroup (L.take i)) L[i]) s.2.1[i].1 s.2.2[i]) (fun s => L.length - s.1) (0, css, []) ⟨rfl, (by simp [mcnt]; rfl), rfl, trivial⟩ (by simp) ⟨by simp, l1, rfl, fun _ _ => rfl, fun _ _ _ h2 => absurd h2 (Nat.not_lt_zero _)⟩ ?_
  intro ⟨k, cc, ms⟩ ⟨g1, g2, g3, g4, g5⟩
  dsimp only at g1 g2 g3 g4 g5 ⊢
  by_cases hkl : k < L.length
  · have hc1 : k < css.length := by omega
    have hc2 : k < hs.length := by omega
    have hc3 : k < cc.length := by omega
    have e1 : cc[k] = css[k] := by have := g4 k (Nat.le_refl _); simpa [hc1, hc3] using this
    have hsn := mcnt_take (f := rcGroup) hkl
    have hlt := mcnt_take_le (f := rcGroup) (k + 1) L
    have hd : (hs.drop k).flatten = hs[k] ++ (hs.drop (k + 1)).flatten := by rw [List.drop_eq_getElem_cons hc2]; rfl
    generalize eK : k0 + mcnt rcGroup (L.take k) = K
    have hcn : rcGroup L[k] = 1 + L[k].contents.length + 1 := rfl
    obtain ⟨a0, o0, ea⟩ := hall k hkl hc1 hc2
    generalize eh : hs[k] = h0 at o0
    have e0 : cc = cc.set k (⟨[.int L[k].charge, a0, .int L[k].count], rfl⟩ : Cells 3) := set_own hc3 (by rw [e1, ea])
    have hne : ((cc.set k (⟨[.int L[k].charge, a0, .int L[k].count], rfl⟩ : Cells 3)).map Subtype.val).flatten ≠ [] := fun q => by have := flat_len (f := Subtype.val) (z := 3) (fun y : Cells 3 => y.2) cc; rw [← e0] at q; rw [q] at this; simp at this; omega
    refine run_heq (h' := ⟨b, 130, cap * 3, ((cc.set k (⟨[.int L[k].charge, a0, .int L[k].count], rfl⟩ : Cells 3)).map Subtype.val).flatten⟩ :: (ms.flatten ++ (h0 ++ ((hs.drop (k + 1)).flatten ++ F)))) (by rw [← e0, hd, eh]; simp only [List.append_assoc]) ?_
    refine run_some 0 rfl hne (fun b2 hb2 => ?_)
    subst hb2
    have oka0 := OwnF.okc o0
    repeat' (first
      | (refine j_go ?_; first
        | refine j_op0 rfl rfl rfl rfl ?_ | (refine j_kIdx rfl ?_; first | refine j_midx rfl rfl rfl rfl rfl (by first | omega | (simp only [List.length_append, List.length_cons, List.length_nil]; omega)) rfl rfl ?_) | (refine j_kLen rfl ?_; first | refine j_op rfl rfl rfl rfl ?_))
      | refine j_nil ?_
      | (refine r_go ?_; first | refine run_seq ?_ | refine run_region ?_ | (refine (run_if rfl (fun hb => ?_) (fun hb => ?_)) <;> first | (exfalso; omega) | skip) | refine run_block ?_ | refine run_skip ?_)
      | refine seqQ_normal ?_)
    refine j_storeS 0 k 0 rfl rfl rfl rfl rfl rfl rfl rfl rfl rfl rfl hc3 rfl ?_
    repeat' (first
      | (refine j_go ?_; first
        | refine j_op0 rfl rfl rfl rfl ?_ | (refine j_kIdx rfl ?_; first | refine j_midx rfl rfl rfl rfl rfl (by first | omega | (simp only [List.length_append, List.length_cons, List.length_nil]; omega)) rfl rfl ?_) | (refine j_kBin rfl ?_; first | refine j_in rfl rfl ⟨by omega, by omega⟩ rfl rfl ?_))
      | refine j_nil ?_
      | (refine r_go ?_; first | refine run_seq ?_ | refine run_region ?_)
      | refine seqQ_normal ?_)
    refine j_loadS 0 k 1 rfl rfl rfl rfl rfl hc3 rfl (fun rest => rfl) rfl rfl ?_
    repeat' (first
      | (refine j_go ?_; first
        | refine j_op0 rfl rfl rfl rfl ?_))
    refine j_kCall rfl rfl rfl rfl ?_
    refine jcp _ (r_markI _ _ _ (K + 1) o0 (by omega)) (pmid0 (l1 := _ :: ms.flatten)) (LeL.refl _) rfl rfl (fun v n0 hR => ?_)
    obtain ⟨rfl, p0⟩ := hR
    refine j_view (view_perm (h' := ⟨some b2, 130, cap * 3, ((cc.set k (⟨[.int ((K : Nat) : Int), a0, .int L[k].count], rfl⟩ : Cells 3)).map Subtype.val).flatten⟩ :: (n0 ++ (ms.flatten ++ ((hs.drop (k + 1)).flatten ++ F)))) mark_mid) ?_
    repeat' (first
      | (refine j_go ?_; first
        | refine j_op0 rfl rfl rfl rfl ?_ | (refine j_kIdx rfl ?_; first | refine j_midx rfl rfl rfl rfl rfl (by first | omega | (simp only [List.length_append, List.length_cons, List.length_nil]; omega)) rfl rfl ?_))
      | refine j_nil ?_
      | (refine r_go ?_; first | refine run_seq ?_ | refine run_region ?_)
      | refine seqQ_normal ?_)
    refine j_storeS 0 k 2 rfl rfl rfl rfl rfl rfl rfl rfl rfl rfl rfl hc3 rfl ?_
    repeat' (first
      | (refine j_go ?_; first
        | refine j_op0 rfl rfl rfl rfl ?_ | (refine j_kBin rfl ?_; first | refine j_in rfl rfl ⟨by omega, by omega⟩ rfl rfl ?_))
      | refine j_nil ?_
      | (refine r_go ?_; first | refine run_region ?_)
      | refine seqQ_normal ?_ | refine blockQ_normal ?_)
    refine loopQ_view (view_perm (h' := ⟨some b2, 130, cap * 3, ((cc.set k (⟨[.int ((K : Nat) : Int), a0, .int ((K + 1 + L[k].contents.length : Nat) : Int)], rfl⟩ : Cells 3)).map Subtype.val).flatten⟩ :: ((ms ++ [n0]).flatten ++ ((hs.drop (k + 1)).flatten ++ F))) (List.Perm.cons _ (by
      simp only [List.flatten_append, List.flatten_cons, List.flatten_nil, List.append_nil, List.append_assoc, List.cons_append]
      exact (by classical exact List.perm_iff_count.2 fun _ => by simp only [List.count_append, List.count_cons]; omega)))) ?_
    refine loopQ_next (k + 1, cc.set k (⟨[.int ((K : Nat) : Int), a0, .int ((K + 1 + L[k].contents.length : Nat) : Int)], rfl⟩ : Cells 3), ms ++ [n0]) ⟨by dsimp only; omega, by dsimp only; rw [List.length_set]; omega, by simp [g3], fun i hi => by dsimp only at hi ⊢; rw [List.getElem?_set_ne (by omega)]; exact g4 i (by omega), fun i h0 h1' h2' => ?_⟩ (by dsimp only; omega) rfl ⟨rfl, (by dsimp only; rw [hsn, ← Nat.add_assoc, eK, hcn]; exact si (by omega)), nx _, trivial⟩
    dsimp only at h1' h2' ⊢
    by_cases hik : i < k
    · have e9 : (cc.set k (⟨[.int ((K : Nat) : Int), a0, .int ((K + 1 + L[k].contents.length : Nat) : Int)], rfl⟩ : Cells 3))[i] = cc[i]'(by omega) := List.getElem_set_ne (by omega) _
      have e8 : (ms ++ [n0])[i] = ms[i]'(by omega) := List.getElem_append_left (by omega)
      rw [e9, e8]; exact g5 i h0 _ _
    · have : i = k := by simp at h2'; omega
      subst this
      have e9 : (cc.set i (⟨[.int ((K : Nat) : Int), a0, .int ((K + 1 + L[i].contents.length : Nat) : Int)], rfl⟩ : Cells 3))[i] = ⟨[.int ((K : Nat) : Int), a0, .int ((K + 1 + L[i].contents.length : Nat) : Int)], rfl⟩ := List.getElem_set_self _
      have e8 : (ms ++ [n0])[i] = n0 := by rw [List.getElem_append_right (by omega)]; simp [g3]
      rw [e9, e8, eK]
      exact ⟨a0, p0, rfl⟩
  · repeat' (first
      | (refine j_go ?_; first
        | refine j_op0 rfl rfl rfl rfl ?_ | (refine j_kLen rfl ?_; first | refine j_op rfl rfl rfl rfl ?_))
      | refine j_nil ?_
      | (refine r_go ?_; first | refine run_seq ?_ | refine run_region ?_ | (refine (run_if rfl (fun hb => ?_) (fun hb => ?_)) <;> first | (exfalso; omega) | skip) | refine run_ret ?_ | refine run_exit ?_)
      | refine seqQ_normal ?_ | refine seqQ_exit ?_ | refine blockQ_eq ?_ | refine loopQ_exit ?_)
    have : k = L.length := by omega
    subst this
    have e : (hs.drop L.length).flatten = [] := by rw [List.drop_of_length_le (by omega)]; rfl
    have e2 : mcnt rcGroup (L.take L.length) = mcnt rcGroup L := by rw [List.take_length]
    exact endD_ret (h1 := ⟨b, 130, cap * 3, (cc.map Subtype.val).flatten⟩ :: ms.flatten) (by rw [e]; simp) (.cons (.tmp rfl) .nil) (Le.refl _) ⟨by rw [e2]; rfl, .inl ⟨b, cap, cc, ms, by rw [mksL_len]; exact g2, by rw [mksL_len]; exact g3, fun i h0 h1 h2 => by
      rw [mksL_get L k0 i (by rw [mksL_len] at h0; exact h0)]
      exact g5 i (by rw [mksL_len] at h0; exact h0) h1 h2, by rw [mksL_len], rfl⟩⟩ (.inl rfl)
theorem c_heldGroupS (L : List Group) (k0 : Nat) (hk : k0 + mcnt rcGroup L ≤ 4611686018427387904) : Gives Try.prog 106 [.sl ((mksL rcGroup mkGroup k0 L).map encGroup), .int (k0 : Int)] (.int ((k0 + mcnt rcGroup L : Nat) : Int)) := by
  have hn : (mksL rcGroup mkGroup k0 L).length = L.length := mksL_len L k0
  refine fn_of_run tyOk ztOk mix Try.func106 rfl (by decide) Try.ntmps106 (fun w0 h => ?_)
  refine run_len (t := 0) rfl (fun hmx => ?_)
  rw [List.length_map, hn] at hmx
  repeat' (first
      | (refine j_go ?_; first
        | refine j_op0 rfl rfl rfl rfl ?_)
      | refine j_nil ?_
      | (refine r_go ?_; first | refine run_seq ?_ | refine run_region ?_ | refine run_block ?_)
      | refine seqQ_normal ?_)
  refine run_loop (fun i : Nat => [(0, .sl ((mksL rcGroup mkGroup k0 L).map encGroup)), (1, .int ((k0 + mcnt rcGroup (L.take i) : Nat) : Int)), (5, .int (i : Int))]) (fun _ => h) (fun i => i ≤ L.length) (fun i => L.length - i) 0 ⟨rfl, (by simp [mcnt]; rfl), rfl, trivial⟩ rfl (by omega) ?_
  intro i g1
  by_cases hi : i < L.length
  · have hLi := mksL_get (cnt := rcGroup) (mk := mkGroup) L k0 i hi
    have hsn := mcnt_take (f := rcGroup) hi
    have hlt := mcnt_take_le (f := rcGroup) (i + 1) L
    have hcn : rcGroup L[i] = 1 + L[i].contents.length + 1 := rfl
    generalize eK : k0 + mcnt rcGroup (L.take i) = K at hLi ⊢
    have e0 : (mksL rcGroup mkGroup k0 L)[i].charge = ((K : Nat) : Int) := by rw [hLi]; rfl
    have q1 := c_heldInt64S (mksL rcGroup mkGroup k0 L)[i].contents (K + 1) (by rw [hLi]; exact fun _ _ => markedI_get _) (by rw [hLi]; simp only [mkGroup, markedI_len]; omega)
    rw [show (mksL rcGroup mkGroup k0 L)[i].contents.length = L[i].contents.length from by rw [hLi]; exact markedI_len] at q1
    have e2 : (mksL rcGroup mkGroup k0 L)[i].count = ((K + 1 + L[i].contents.length : Nat) : Int) := by rw [hLi]; rfl
    repeat' (first
      | (refine j_go ?_; first
        | refine j_op0 rfl rfl rfl rfl ?_ | (refine j_kIdx rfl ?_; first | refine j_idx rfl rfl rfl rfl rfl (by omega) rfl rfl rfl ?_) | (refine j_kBin rfl ?_; first | refine j_in rfl rfl ⟨by omega, by omega⟩ rfl rfl ?_) | (refine j_kLen rfl ?_; first | refine j_len rfl rfl rfl rfl rfl rfl ?_) | (refine j_kCall rfl rfl rfl rfl ?_; first | refine jc (q1) (LeL.refl _) rfl rfl ?_))
      | refine j_nil ?_
      | (refine r_go ?_; first | refine run_seq ?_ | refine run_region ?_ | (refine (run_if rfl (fun hb => ?_) (fun hb => ?_)) <;> first | (exfalso; omega) | skip) | (refine (run_ifn rfl (fun hb => ?_) (fun hb => ?_)) <;> first | (exfalso; omega) | skip) | refine run_block ?_ | refine run_skip ?_)
      | refine seqQ_normal ?_ | refine blockQ_normal ?_)
    all_goals first | exact loopQ_next (i + 1) (by omega) (by omega) rfl ⟨rfl, (by rw [hsn, ← Nat.add_assoc, eK, hcn]; exact si (by omega)), nx _, trivial⟩ | (exfalso; omega) | trace_state
  · repeat' (first
      | (refine j_go ?_; first
        | refine j_op0 rfl rfl rfl rfl ?_ | (refine j_kLen rfl ?_; first | refine j_len rfl rfl rfl rfl rfl rfl ?_))
      | refine j_nil ?_
      | (refine r_go ?_; first | refine run_seq ?_ | refine run_region ?_ | (refine (run_if rfl (fun hb => ?_) (fun hb => ?_)) <;> first | (exfalso; omega) | skip) | refine run_ret ?_ | refine run_exit ?_)
      | refine seqQ_normal ?_ | refine seqQ_exit ?_ | refine blockQ_eq ?_ | refine loopQ_exit ?_)
    have : i = L.length := by omega
    subst this
    exact end1 rfl (List.Sublist.refl _) (by rw [List.take_length]) (.inl rfl)
def RODivision (x : Division) (a : A) (h : Heap) : Prop := ∃ (a1 : A), RORules x.rules a1 h ∧ a = .agg [.int x.objects, a1]
theorem RODivision.frz {x : Division} {a : A} {h : Heap} (o : RODivision x a h) : Frz h a (.agg (encDivision x)) := by
  obtain ⟨a1, o1, rfl⟩ := o
  exact Frz.agg (FrzL.cons (Frz.same _ _) (FrzL.cons (OwnS.frz (fun _ => rfl) rfl (fun _ _ _ q => q.frz) o1) (FrzL.nil _)))
theorem RODivision.frzF {x : Division} {a : A} {h : Heap} (o : RODivision x a h) : FrzF h a (.agg (encDivision x)) := by
  obtain ⟨a1, o1, rfl⟩ := o
  have q := FrzLF.cons (FrzF.same [] (.int x.objects)) (FrzLF.cons (OwnS.frzF (enc := encDivRule) (fun _ => rfl) rfl (fun _ _ _ q => q.frzF) o1) (FrzLF.nil (h := [])))
  simp only [List.append_nil, List.nil_append] at q
  exact FrzF.agg q
theorem RODivision.clo {x : Division} {a : A} {h : Heap} (o : RODivision x a h) : Clo a ∧ CloH h := by
  obtain ⟨a1, o1, rfl⟩ := o
  have q := OwnS.clo (fun _ _ _ q => ERRule.clo q) o1
  exact ⟨Clo.agg (CloL.cons (Clo.int _) (CloL.cons q.1 CloL.nil)), q.2⟩
theorem RODivision.cells {x : Division} {a : A} {h : Heap} (o : RODivision x a h) : ∃ a0 a1, a = .agg [a0, a1] ∧ [a0, a1].all okCell = true := by
  obtain ⟨a1, o1, rfl⟩ := o
  exact ⟨_, a1, rfl, by simp only [List.all_cons, List.all_nil, OwnS.okc o1]; rfl⟩
def ROColony (x : Colony) (a : A) (h : Heap) : Prop := ∃ (a0 : A) (h0 : Heap), ROI x.skin a0 h0 ∧ ∃ (a1 : A) (h1 : Heap), ROGroups x.groups a1 h1 ∧ a = .agg [a0, a1] ∧ h = h0 ++ h1
theorem ROColony.frz {x : Colony} {a : A} {h : Heap} (o : ROColony x a h) : Frz h a (.agg (encColony x)) := by
  obtain ⟨a0, h0, o0, a1, h1, o1, rfl, rfl⟩ := o
  exact Frz.agg (FrzL.cons (Frz.mono (fun _ hk => by simp [hk]) o0.frz) (FrzL.cons (Frz.mono (fun _ hk => by simp [hk]) (OwnS.frz (enc := encGroup) (fun _ => rfl) rfl (fun _ _ _ q => q.frz) o1)) (FrzL.nil _)))
theorem ROColony.frzF {x : Colony} {a : A} {h : Heap} (o : ROColony x a h) : FrzF h a (.agg (encColony x)) := by
  obtain ⟨a0, h0, o0, a1, h1, o1, rfl, rfl⟩ := o
  have q := FrzLF.cons o0.frzF (FrzLF.cons (OwnS.frzF (enc := encGroup) (fun _ => rfl) rfl (fun _ _ _ q => q.frzF) o1) (FrzLF.nil (h := [])))
  simp only [List.append_nil] at q
  exact FrzF.agg q
theorem ROColony.clo {x : Colony} {a : A} {h : Heap} (o : ROColony x a h) : Clo a ∧ CloH h := by
  obtain ⟨a0, h0, o0, a1, h1, o1, rfl, rfl⟩ := o
  have q := OwnS.clo (fun _ _ _ q => ERGroup.clo q) o1
  exact ⟨Clo.agg (CloL.cons o0.clo.1 (CloL.cons q.1 CloL.nil)), o0.clo.2.append q.2⟩
theorem ROColony.cells {x : Colony} {a : A} {h : Heap} (o : ROColony x a h) : ∃ a0 a1, a = .agg [a0, a1] ∧ [a0, a1].all okCell = true := by
  obtain ⟨a0, h0, o0, a1, h1, o1, rfl, rfl⟩ := o
  exact ⟨a0, a1, rfl, by simp only [List.all_cons, List.all_nil, OwnF.okc o0, OwnS.okc o1]; rfl⟩
def rcColony (x : Colony) : Nat := x.skin.length + mcnt rcGroup x.groups
def mkColony (k : Nat) (x : Colony) : Colony := ⟨markedI k x.skin.length, mksL rcGroup mkGroup (k + x.skin.length) x.groups⟩
theorem r_markColony (x : Colony) (a : A) (h : Heap) (k0 : Nat) (o : ROColony x a h) (hk : k0 + rcColony x ≤ 4611686018427387904) : Does Try.prog 46 [a, .int (k0 : Int)] h (fun v h' => v = .int ((k0 + rcColony x : Nat) : Int) ∧ ROColony (mkColony k0 x) a h') := by
  obtain ⟨a1, h1, o1, a2, h2, o2, rfl, rfl⟩ := o
  unfold rcColony at hk
  refine fn_of_runD tyOk ztOk mix Try.func46 rfl (by decide) Try.ntmps46 (fun w0 F => ?_)
  refine run_heq (h' := h1 ++ (h2 ++ F)) (by simp only [List.append_assoc]) ?_
  repeat' (first
      | (refine j_go ?_; first
        | refine j_op0 rfl rfl rfl rfl ?_ | refine j_box rfl rfl rfl rfl rfl rfl ?_)
      | refine j_nil ?_
      | (refine r_go ?_; first | refine run_seq ?_ | refine run_region ?_)
      | refine seqQ_normal ?_)
  refine j_kCall rfl rfl rfl rfl ?_
  refine jcp _ (r_markI _ _ _ k0 o1 (by omega)) (List.Perm.refl _) (LeL.refl _) rfl rfl (fun v n1 hR => ?_)
  obtain ⟨rfl, p1⟩ := hR
  repeat' (first
      | (refine j_go ?_; first
        | refine j_op0 rfl rfl rfl rfl ?_)
      | refine j_nil ?_
      | (refine r_go ?_; first | refine run_seq ?_ | refine run_region ?_)
      | refine seqQ_normal ?_)
  refine j_kCall rfl rfl rfl rfl ?_
  refine jcp _ (r_markGroup _ _ _ (k0 + x.skin.length) o2 (by omega)) (pmid0 (l1 := n1)) (LeL.refl _) rfl rfl (fun v n2 hR => ?_)
  obtain ⟨rfl, p2⟩ := hR
  repeat' (first
      | (refine j_go ?_; first
        | refine j_op0 rfl rfl rfl rfl ?_)
      | refine j_nil ?_
      | (refine r_go ?_; first | refine run_seq ?_ | refine run_region ?_ | refine run_ret ?_)
      | refine seqQ_normal ?_)
  refine endD_view (view_perm (h' := n1 ++ n2 ++ F) (by classical exact List.perm_iff_count.2 fun _ => by simp only [List.count_append]; omega)) ?_
  exact endD_ret (h1 := n1 ++ n2) rfl (.cons (.tmp rfl) .nil) (Le.refl _) ⟨ani (by unfold rcColony; omega), a1, n1, p1, a2, n2, p2, rfl, rfl⟩ (.inl rfl)
theorem c_heldColony (x : Colony) (k0 : Nat) (hk : k0 + rcColony x ≤ 4611686018427387904) : Gives Try.prog 47 [.agg (encColony (mkColony k0 x)), .int (k0 : Int)] (.int ((k0 + rcColony x : Nat) : Int)) := by
  unfold rcColony at hk
  refine fn_of_run tyOk ztOk mix Try.func47 rfl (by decide) Try.ntmps47 (fun w0 h => ?_)
  have q1 := c_heldInt64S (markedI k0 x.skin.length) k0 (fun _ _ => markedI_get _) (by rw [markedI_len]; omega)
  have q2 := c_heldGroupS x.groups (k0 + x.skin.length) (by omega)
  rw [markedI_len] at q1
  repeat' (first
      | (refine j_go ?_; first
        | refine j_op0 rfl rfl rfl rfl ?_ | (refine j_kCall rfl rfl rfl rfl ?_; first | refine jc (q1) (LeL.refl _) rfl rfl ?_ | refine jc (q2) (LeL.refl _) rfl rfl ?_) | refine j_box rfl rfl rfl rfl rfl rfl ?_)
      | refine j_nil ?_
      | (refine r_go ?_; first | refine run_seq ?_ | refine run_region ?_ | (refine (run_if rfl (fun hb => ?_) (fun hb => ?_)) <;> first | (exfalso; omega) | skip) | refine run_ret ?_ | refine run_skip ?_)
      | refine seqQ_normal ?_)
  all_goals first | (exfalso; omega) | exact end1 rfl (List.Sublist.refl _) (ani (by unfold rcColony; omega)) (.inl rfl) | trace_state
end Go.Proofs.Ytandldhceabdiaa
