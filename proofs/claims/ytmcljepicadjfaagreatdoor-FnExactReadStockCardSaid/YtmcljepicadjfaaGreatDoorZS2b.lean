/-
  Results in memory of the call's own: their marks, and what is held of them. No condition but that the sizes are bounded.
-/
import Derived.Test.YtmcljepicadjfaaGreatDoorZOB
import Derived.Test.YtmcljepicadjfaaGreatDoorZP
import Derived.Test.YtmcljepicadjfaaGreatDoorZVC
import Derived.Test.YtmcljepicadjfaaGreatDoorZRf
import Derived.Test.YtmcljepicadjfaaGreatDoorZE2
namespace Go.Proofs.YtmcljepicadjfaaGreatDoor
open Go.AI
set_option maxRecDepth 8000
set_option maxHeartbeats 1600000
def ROI (l : List Int) (a : A) (h : Heap) : Prop := OwnF Go.AI.encI 2 1 l a h
def ROB (l : List Bool) (a : A) (h : Heap) : Prop := OwnF encB 4 1 l a h
def ROII (L : List (List Int)) (a : A) (h : Heap) : Prop := OwnLL ROI 24 L a h
theorem ROI.frz {l : List Int} {a : A} {h : Heap} (o : ROI l a h) : Frz h a (.sl (l.map Go.AI.encI)) := OwnF.frz (fun _ => rfl) rfl o
theorem ROB.frz {l : List Bool} {a : A} {h : Heap} (o : ROB l a h) : Frz h a (.sl (l.map encB)) := OwnF.frz (fun _ => rfl) rfl o
theorem ROII.frz {l : List (List Int)} {a : A} {h : Heap} (o : ROII l a h) : Frz h a (.sl (l.map (encS Go.AI.encI))) := OwnLL.frz (enc := fun x => (x.map Go.AI.encI)) (fun _ _ _ q => q.frz) o (fun _ => rfl)
theorem ROI.clo {l : List Int} {a : A} {h : Heap} (o : ROI l a h) : Clo a ∧ CloH h := OwnF.clo (fun _ => CloL.cons (Clo.int _) CloL.nil) o
theorem ROB.clo {l : List Bool} {a : A} {h : Heap} (o : ROB l a h) : Clo a ∧ CloH h := OwnF.clo (fun _ => CloL.cons (Clo.raw _) CloL.nil) o
theorem ROII.clo {l : List (List Int)} {a : A} {h : Heap} (o : ROII l a h) : Clo a ∧ CloH h := OwnLL.clo (fun _ _ _ q => q.clo) o
theorem r_markI (r : List Int) (a : A) (h : Heap) (k0 : Nat) (o : ROI r a h) (hk : k0 + r.length ≤ 4611686018427387904) :
    Does Tryz.prog 62 [a, .int (k0 : Int)] h (fun v h' => v = .int ((k0 + r.length : Nat) : Int) ∧ ROI (markedI k0 r.length) a h') := by
  rcases o with ⟨b, cap, rfl, rfl⟩ | ⟨rfl, rfl, rfl⟩
  case inr =>
    refine fn_of_runD tyOk ztOk mix Tryz.func62 rfl (by decide) Tryz.ntmps62 (fun w0 F => ?_)
    change Run _ _ _ _ _ F
    repeat' (first
      | (refine j_go ?_; first
        | refine j_op0 rfl rfl rfl rfl ?_)
      | refine j_nil ?_
      | (refine r_go ?_; first | refine run_seq ?_ | refine run_region ?_ | refine run_block ?_)
      | refine seqQ_normal ?_)
    refine run_loop (fun _ : Unit => [(0, .sl []), (1, .int (k0 : Int)), (5, .int 0)]) (fun _ => F) (fun _ => True) (fun _ => 0) () ⟨rfl, rfl, rfl, trivial⟩ rfl trivial (fun _ _ => ?_)
    repeat' (first
      | (refine j_go ?_; first
        | refine j_op0 rfl rfl rfl rfl ?_ | (refine j_kLen rfl ?_; first | refine j_op rfl rfl rfl rfl ?_))
      | refine j_nil ?_
      | (refine r_go ?_; first | refine run_seq ?_ | refine run_region ?_ | (refine (run_if rfl (fun hb => ?_) (fun hb => ?_)) <;> first | (exfalso; omega) | skip) | refine run_block ?_ | refine run_ret ?_ | refine run_exit ?_ | refine run_skip ?_)
      | refine seqQ_normal ?_ | refine seqQ_exit ?_ | refine blockQ_eq ?_ | refine loopQ_exit ?_)
    · exact absurd hb (by simp)
    exact endD_ret (h1 := []) rfl (vs := [_]) (.cons (.tmp rfl) .nil) (Le.refl _) ⟨rfl, .inr ⟨rfl, rfl, rfl⟩⟩ (.inl rfl)
  have := x_markI b cap k0 r hk
  exact this.drop fun v h' ⟨q1, q2⟩ => ⟨h', h', .refl _, List.Sublist.refl _, q1, .inl ⟨b, cap, by rw [markedI_len], q2⟩⟩
theorem c_heldInt64SS (L : List (List Int)) (k0 : Nat) (hk : k0 + mcnt List.length L ≤ 4611686018427387904) : Gives Tryz.prog 80 [.sl ((markedII k0 L).map (encS Go.AI.encI)), .int (k0 : Int)] (.int ((k0 + mcnt List.length L : Nat) : Int)) := by
  have hn : (markedII k0 L).length = L.length := markedII_len L k0
  refine fn_of_run tyOk ztOk mix Tryz.func80 rfl (by decide) Tryz.ntmps80 (fun w0 h => ?_)
  refine run_len (t := 0) rfl (fun hmx => ?_)
  rw [List.length_map, hn] at hmx
  repeat' (first
      | (refine j_go ?_; first
        | refine j_op0 rfl rfl rfl rfl ?_)
      | refine j_nil ?_
      | (refine r_go ?_; first | refine run_seq ?_ | refine run_region ?_ | refine run_block ?_)
      | refine seqQ_normal ?_)
  refine run_loop (fun i : Nat => [(0, .sl ((markedII k0 L).map (encS Go.AI.encI))), (1, .int ((k0 + mcnt List.length (L.take i) : Nat) : Int)), (5, .int (i : Int))]) (fun _ => h) (fun i => i ≤ L.length) (fun i => L.length - i) 0 ⟨rfl, (by simp [mcnt]; rfl), rfl, trivial⟩ rfl (by omega) ?_
  intro i g1
  by_cases hi : i < L.length
  · have hLi := markedII_get L k0 i hi
    have hsn := mcnt_take (f := List.length) hi
    have hlt := mcnt_take_le (f := List.length) (i + 1) L
    have hgi := c_heldInt64S (markedII k0 L)[i] (k0 + mcnt List.length (L.take i)) (by rw [hLi]; exact fun _ _ => markedI_get _) (by rw [hLi, markedI_len]; omega)
    rw [show (markedII k0 L)[i].length = L[i].length from by rw [hLi, markedI_len]] at hgi
    repeat' (first
      | (refine j_go ?_; first
        | refine j_op0 rfl rfl rfl rfl ?_ | (refine j_kIdx rfl ?_; first | refine j_idx rfl rfl rfl rfl rfl (by omega) rfl rfl rfl ?_) | (refine j_kBin rfl ?_; first | refine j_in rfl rfl ⟨by omega, by omega⟩ rfl rfl ?_) | (refine j_kLen rfl ?_; first | refine j_len rfl rfl rfl rfl rfl rfl ?_) | (refine j_kCall rfl rfl rfl rfl ?_; first | refine jc (hgi) (LeL.refl _) rfl rfl ?_))
      | refine j_nil ?_
      | (refine r_go ?_; first | refine run_seq ?_ | refine run_region ?_ | (refine (run_if rfl (fun hb => ?_) (fun hb => ?_)) <;> first | (exfalso; omega) | skip) | refine run_block ?_ | refine run_skip ?_)
      | refine seqQ_normal ?_ | refine blockQ_normal ?_)
    all_goals first | exact loopQ_next (i + 1) (by omega) (by omega) rfl ⟨rfl, (by rw [hsn, ← Nat.add_assoc]; rfl), nx _, trivial⟩ | (exfalso; omega) | trace_state
  · repeat' (first
      | (refine j_go ?_; first
        | refine j_op0 rfl rfl rfl rfl ?_ | (refine j_kLen rfl ?_; first | refine j_len rfl rfl rfl rfl rfl rfl ?_))
      | refine j_nil ?_
      | (refine r_go ?_; first | refine run_seq ?_ | refine run_region ?_ | (refine (run_if rfl (fun hb => ?_) (fun hb => ?_)) <;> first | (exfalso; omega) | skip) | refine run_ret ?_ | refine run_exit ?_)
      | refine seqQ_normal ?_ | refine seqQ_exit ?_ | refine blockQ_eq ?_ | refine loopQ_exit ?_)
    have : i = L.length := by omega
    subst this
    exact end1 rfl (List.Sublist.refl _) (by rw [List.take_length]) (.inl rfl)
theorem r_markII (L : List (List Int)) (a : A) (h : Heap) (k0 : Nat) (o : ROII L a h) (hk : k0 + mcnt List.length L ≤ 4611686018427387904) :
    Does Tryz.prog 79 [a, .int (k0 : Int)] h (fun v h' => v = .int ((k0 + mcnt List.length L : Nat) : Int) ∧ ROII (markedII k0 L) a h') := by
  rcases o with ⟨b, cap, vs, hs, l1, l2, hall, rfl, rfl⟩ | ⟨rfl, rfl, rfl⟩
  case inr =>
    refine fn_of_runD tyOk ztOk mix Tryz.func79 rfl (by decide) Tryz.ntmps79 (fun w0 F => ?_)
    change Run _ _ _ _ _ F
    repeat' (first
      | (refine j_go ?_; first
        | refine j_op0 rfl rfl rfl rfl ?_)
      | refine j_nil ?_
      | (refine r_go ?_; first | refine run_seq ?_ | refine run_region ?_ | refine run_block ?_)
      | refine seqQ_normal ?_)
    refine run_loop (fun _ : Unit => [(0, .sl []), (1, .int (k0 : Int)), (5, .int 0)]) (fun _ => F) (fun _ => True) (fun _ => 0) () ⟨rfl, rfl, rfl, trivial⟩ rfl trivial (fun _ _ => ?_)
    repeat' (first
      | (refine j_go ?_; first
        | refine j_op0 rfl rfl rfl rfl ?_ | (refine j_kLen rfl ?_; first | refine j_op rfl rfl rfl rfl ?_))
      | refine j_nil ?_
      | (refine r_go ?_; first | refine run_seq ?_ | refine run_region ?_ | (refine (run_if rfl (fun hb => ?_) (fun hb => ?_)) <;> first | (exfalso; omega) | skip) | refine run_block ?_ | refine run_ret ?_ | refine run_exit ?_ | refine run_skip ?_)
      | refine seqQ_normal ?_ | refine seqQ_exit ?_ | refine blockQ_eq ?_ | refine loopQ_exit ?_)
    · exact absurd hb (by simp)
    exact endD_ret (h1 := []) rfl (vs := [_]) (.cons (.tmp rfl) .nil) (Le.refl _) ⟨rfl, .inr ⟨rfl, rfl, rfl⟩⟩ (.inl rfl)
  refine fn_of_runD tyOk ztOk mix Tryz.func79 rfl (by decide) Tryz.ntmps79 (fun w0 F => ?_)
  change Run _ _ _ _ _ (⟨b, 24, cap * 1, (vs.map fun a => [a]).flatten⟩ :: (hs.flatten ++ F))
  refine run_olen (t := 0) rfl (fun hol => ?_)
  repeat' (first
      | (refine j_go ?_; first
        | refine j_op0 rfl rfl rfl rfl ?_)
      | refine j_nil ?_
      | (refine r_go ?_; first | refine run_seq ?_ | refine run_region ?_ | refine run_block ?_)
      | refine seqQ_normal ?_)
  refine run_loop (fun s : Nat × List Heap => [(0, .os b L.length cap), (1, .int ((k0 + mcnt List.length (L.take s.1) : Nat) : Int)), (5, .int (s.1 : Int))])
    (fun s => ⟨b, 24, cap * 1, (vs.map fun a => [a]).flatten⟩ :: (s.2.flatten ++ ((hs.drop s.1).flatten ++ F)))
    (fun s => s.1 ≤ L.length ∧ s.2.length = s.1 ∧ ∀ i (h0 : i < L.length) (h1 : i < vs.length) (h2 : i < s.2.length), ROI (markedI (k0 + mcnt List.length (L.take i)) L[i].length) vs[i] s.2[i]) (fun s => L.length - s.1) (0, []) ⟨rfl, (by simp [mcnt]; rfl), rfl, trivial⟩ (by simp) ⟨by simp, rfl, fun _ _ _ h2 => absurd h2 (Nat.not_lt_zero _)⟩ ?_
  intro ⟨k, ms⟩ ⟨g1, g2, g3⟩
  dsimp only at g1 g2 g3 ⊢
  by_cases hkl : k < L.length
  · have hc1 : k < vs.length := by omega
    have hc2 : k < hs.length := by omega
    have hsn := mcnt_take (f := List.length) hkl
    have hlt := mcnt_take_le (f := List.length) (k + 1) L
    have hd : (hs.drop k).flatten = hs[k] ++ (hs.drop (k + 1)).flatten := by rw [List.drop_eq_getElem_cons hc2]; rfl
    have o0 := hall k hkl hc1 hc2
    have hne : (vs.map fun a => [a]).flatten ≠ [] := by rw [sing_flat]; exact fun q => by rw [q] at hc1; simp at hc1
    refine run_some 0 rfl hne (fun b2 hb2 => ?_)
    subst hb2
    rw [hd]
    refine run_heq (h' := ⟨some b2, 24, cap * 1, (vs.map fun a => [a]).flatten⟩ :: (ms.flatten ++ (hs[k] ++ ((hs.drop (k + 1)).flatten ++ F)))) (by simp only [List.append_assoc]) ?_
    repeat' (first
      | (refine j_go ?_; first
        | refine j_op0 rfl rfl rfl rfl ?_ | (refine j_kIdx rfl ?_; first | refine j_midx rfl rfl rfl rfl rfl (by first | omega | (simp only [List.length_append, List.length_cons, List.length_nil]; omega)) rfl rfl ?_) | (refine j_kLen rfl ?_; first | refine j_op rfl rfl rfl rfl ?_))
      | refine j_nil ?_
      | (refine r_go ?_; first | refine run_seq ?_ | refine run_region ?_ | (refine (run_if rfl (fun hb => ?_) (fun hb => ?_)) <;> first | (exfalso; omega) | skip) | refine run_block ?_ | refine run_skip ?_)
      | refine seqQ_normal ?_)
    refine j_mloadE 0 k (g := fun a => [a]) (L := vs) (z := 1) rfl rfl rfl rfl (fun _ => rfl) rfl hc1 (fun _ => rfl) rfl rfl ?_
    repeat' (first
      | (refine j_go ?_; first
        | refine j_op0 rfl rfl rfl rfl ?_))
    refine j_kCall rfl rfl rfl rfl ?_
    refine jcp _ (r_markI _ _ _ (k0 + mcnt List.length (L.take k)) o0 (by omega)) (pmid0 (l1 := _ :: ms.flatten)) (LeL.refl _) rfl rfl (fun v h1 hR => ?_)
    obtain ⟨rfl, hR⟩ := hR
    repeat' (first
      | (refine j_go ?_; first
        | refine j_op0 rfl rfl rfl rfl ?_ | (refine j_kBin rfl ?_; first | refine j_in rfl rfl ⟨by omega, by omega⟩ rfl rfl ?_))
      | refine j_nil ?_
      | (refine r_go ?_; first | refine run_region ?_)
      | refine seqQ_normal ?_ | refine blockQ_normal ?_)
    refine loopQ_view (view_perm (h' := ⟨some b2, 24, cap * 1, (vs.map fun a => [a]).flatten⟩ :: ((ms ++ [h1]).flatten ++ ((hs.drop (k + 1)).flatten ++ F))) (by
      simp only [List.flatten_append, List.flatten_cons, List.flatten_nil, List.append_nil, List.append_assoc, List.cons_append]
      exact (by classical exact List.perm_iff_count.2 fun _ => by simp only [List.count_append, List.count_cons]; omega))) ?_
    refine loopQ_next (k + 1, ms ++ [h1]) ⟨by dsimp only; omega, by simp [g2], fun i h0 h1' h2' => ?_⟩ (by dsimp only; omega) rfl ⟨rfl, (by dsimp only; rw [hsn, ← Nat.add_assoc]; rfl), nx _, trivial⟩
    dsimp only at h2' ⊢
    by_cases hik : i < k
    · rw [List.getElem_append_left (by omega)]; exact g3 i h0 h1' (by omega)
    · have : i = k := by simp at h2'; omega
      subst this
      rw [List.getElem_append_right (by omega)]
      simpa [g2] using hR
  · repeat' (first
      | (refine j_go ?_; first
        | refine j_op0 rfl rfl rfl rfl ?_ | (refine j_kLen rfl ?_; first | refine j_op rfl rfl rfl rfl ?_))
      | refine j_nil ?_
      | (refine r_go ?_; first | refine run_seq ?_ | refine run_region ?_ | (refine (run_if rfl (fun hb => ?_) (fun hb => ?_)) <;> first | (exfalso; omega) | skip) | refine run_ret ?_ | refine run_exit ?_)
      | refine seqQ_normal ?_ | refine seqQ_exit ?_ | refine blockQ_eq ?_ | refine loopQ_exit ?_)
    have : k = L.length := by omega
    subst this
    have e : (hs.drop L.length).flatten = [] := by rw [List.drop_of_length_le (by omega)]; rfl
    have e2 : mcnt List.length (L.take L.length) = mcnt List.length L := by rw [List.take_length]
    exact endD_ret (h1 := ⟨b, 24, cap * 1, (vs.map fun a => [a]).flatten⟩ :: ms.flatten) (by rw [e]; simp) (.cons (.tmp rfl) .nil) (Le.refl _) ⟨by rw [e2]; rfl, .inl ⟨b, cap, vs, ms, by rw [markedII_len]; exact l1, by rw [markedII_len]; exact g2, fun i h0 h1 h2 => by
      rw [markedII_get L k0 i (by rw [markedII_len] at h0; exact h0)]
      exact g3 i (by rw [markedII_len] at h0; exact h0) h1 h2, by rw [markedII_len], rfl⟩⟩ (.inl rfl)

theorem OwnF.okc {α : Type} {g : α → List A} {T z : Nat} {l : List α} {a : A} {h : Heap} (o : OwnF g T z l a h) : okCell a = true := by
  rcases o with ⟨b, cap, rfl, rfl⟩ | ⟨rfl, rfl, rfl⟩ <;> rfl
theorem OwnLL.okc {β : Type} {O : β → A → Heap → Prop} {T : Nat} {L : List β} {a : A} {h : Heap} (o : OwnLL O T L a h) : okCell a = true := by
  rcases o with ⟨b, cap, vs, hs, _, _, _, rfl, rfl⟩ | ⟨rfl, rfl, rfl⟩ <;> rfl

theorem ROI.frzF {l : List Int} {a : A} {h : Heap} (o : ROI l a h) : FrzF h a (.sl (l.map Go.AI.encI)) := OwnF.frzF (fun _ => rfl) rfl o
theorem ROB.frzF {l : List Bool} {a : A} {h : Heap} (o : ROB l a h) : FrzF h a (.sl (l.map encB)) := OwnF.frzF (fun _ => rfl) rfl o
theorem ROII.frzF {l : List (List Int)} {a : A} {h : Heap} (o : ROII l a h) : FrzF h a (.sl (l.map (encS Go.AI.encI))) := OwnLL.frzF (enc := fun x => (x.map Go.AI.encI)) (fun _ _ _ q => q.frzF) o (fun _ => rfl)
end Go.Proofs.YtmcljepicadjfaaGreatDoor

/-
  Formulas in memory of the call's own: their marks, and what is held of them. No condition but that the sizes are bounded.
-/
namespace Go.Proofs.YtmcljepicadjfaaGreatDoor
open Go.AI
set_option maxRecDepth 8000
set_option maxHeartbeats 1600000
end Go.Proofs.YtmcljepicadjfaaGreatDoor

/-
  Formulas read from texts: ReadCnf of the reference. No condition but that the text is not longer than a machine holds.
-/
namespace Go.Proofs.YtmcljepicadjfaaGreatDoor
open Go.AI Go.RowKit
set_option maxRecDepth 8000
set_option maxHeartbeats 1600000
/-- Where a text is cut so far. -/
structure SplAt (c : UInt8) (s : List UInt8) (i fr : Nat) (ws : List (List UInt8)) : Prop where
  le : fr ≤ i
  il : i ≤ s.length
  eq : spl c (s.take i) = ws ++ [(s.take i).drop fr]
theorem SplAt.nil (c : UInt8) (s : List UInt8) : SplAt c s 0 0 [] := ⟨Nat.le_refl _, Nat.zero_le _, by simp [spl]⟩
theorem SplAt.hit {c : UInt8} {s : List UInt8} {i fr : Nat} {ws : List (List UInt8)} (h : SplAt c s i fr ws) (hi : i < s.length) (hc : s[i] = c) : SplAt c s (i + 1) (i + 1) (ws ++ [(s.take i).drop fr]) := by
  refine ⟨Nat.le_refl _, hi, ?_⟩
  rw [List.take_succ_eq_append_getElem hi, hc, spl_snoc_eq, h.eq]
  congr 2
  rw [List.drop_of_length_le (by rw [List.length_append, List.length_take, List.length_singleton]; omega)]
theorem SplAt.miss {c : UInt8} {s : List UInt8} {i fr : Nat} {ws : List (List UInt8)} (h : SplAt c s i fr ws) (hi : i < s.length) (hc : ¬ s[i] = c) : SplAt c s (i + 1) fr ws := by
  refine ⟨Nat.le_succ_of_le h.le, hi, ?_⟩
  obtain ⟨vs, w, q1, q2⟩ := spl_snoc_ne c s[i] hc (s.take i)
  have q3 := q1.symm.trans h.eq
  have e1 : vs = ws := by
    have := congrArg List.dropLast q3
    simpa using this
  have e2 : w = (s.take i).drop fr := by
    have := congrArg List.getLast? q3
    simpa using this
  rw [List.take_succ_eq_append_getElem hi, q2, e1, e2, List.drop_append_of_le_length (by rw [List.length_take]; have := h.le; omega)]
theorem SplAt.len {c : UInt8} {s : List UInt8} {i fr : Nat} {ws : List (List UInt8)} (h : SplAt c s i fr ws) : ws.length ≤ i := by
  have q := spl_len c (s.take i)
  rw [h.eq, List.length_append, List.length_singleton, List.length_take] at q
  omega
theorem SplAt.all {c : UInt8} {s : List UInt8} {fr : Nat} {ws : List (List UInt8)} (h : SplAt c s s.length fr ws) : spl c s = ws ++ [s.drop fr] := by
  have := h.eq
  rwa [List.take_length] at this

theorem c_l06Lines (s : List UInt8) (hs : s.length ≤ 1048576) : Gives Tryz.prog 52 [.str s] (.tup [.sl ((lnW s).map encW), .raw (.bool (dec (lnE s = [])))]) := by
  refine fn_of_run tyOk ztOk mix Tryz.func52 rfl (by decide) Tryz.ntmps52 (fun w0 h => ?_)
  repeat' (first
      | (refine j_go ?_; first
        | refine j_op0 rfl rfl rfl rfl ?_ | (refine j_kBsl rfl ?_; first | refine j_bs0 rfl rfl rfl rfl rfl rfl ?_))
      | refine j_nil ?_
      | (refine r_go ?_; first | refine run_seq ?_ | refine run_region ?_ | refine run_block ?_)
      | refine seqQ_normal ?_)
  refine run_view (view_none 9 0 rfl) ?_
  refine run_loop (fun x : (Nat × Nat × List (List UInt8)) × Option Nat × Nat => [(0, .str s), (4, .os x.2.1 x.1.2.2.length x.2.2), (5, .int (x.1.2.1 : Int)), (6, .int (x.1.1 : Int))]) (fun x => ⟨x.2.1, 9, x.2.2 * 1, (x.1.2.2.map encW).flatten⟩ :: h) (fun x => SplAt 10 s x.1.1 x.1.2.1 x.1.2.2) (fun x => s.length - x.1.1) ((0, 0, []), none, 0) ⟨rfl, rfl, rfl, rfl, trivial⟩ rfl (SplAt.nil 10 s) (fun ⟨⟨k, fr, ws⟩, ob, cp⟩ sp => ?_)
  dsimp only at sp ⊢
  have kl := sp.il
  have fl := sp.le
  have wl := sp.len
  by_cases hk : k < s.length
  · repeat' (first
      | (refine j_go ?_; first
        | refine j_op0 rfl rfl rfl rfl ?_ | (refine j_kBin rfl ?_; first | refine j_in rfl rfl ⟨by omega, by omega⟩ rfl rfl ?_) | (refine j_kLen rfl ?_; first | refine j_op rfl rfl rfl rfl ?_) | (refine j_kBsl rfl ?_; first | refine j_bsl rfl rfl rfl rfl rfl rfl rfl rfl rfl rfl rfl ?_) | (refine j_kSlice rfl ?_; first | refine j_ss rfl rfl rfl rfl rfl rfl (by omega) rfl rfl ?_) | refine j_si rfl rfl rfl rfl rfl (by omega) rfl rfl ?_)
      | refine j_nil ?_
      | (refine r_go ?_; first | refine run_seq ?_ | refine run_region ?_ | (refine (run_if rfl (fun hb => ?_) (fun hb => ?_)) <;> first | (exfalso; omega) | skip) | refine run_block ?_ | refine run_skip ?_)
      | refine seqQ_normal ?_ | refine blockQ_normal ?_)
    · have hc : s[k] = 10 := by assumption
      refine j_append 0 (g := encW) [(s.take k).drop fr] rfl rfl rfl rfl rfl rfl rfl rfl rfl rfl rfl rfl (fun _ => rfl) (fun _ _ => rfl) ⟨by simp only [List.length_cons, List.length_nil]; omega, by simp only [List.length_cons, List.length_nil]; omega⟩ rfl rfl (fun b' cap' => ?_)
      repeat' (first
      | (refine j_go ?_; first
        | refine j_op0 rfl rfl rfl rfl ?_ | (refine j_kBin rfl ?_; first | refine j_in rfl rfl ⟨by omega, by omega⟩ rfl rfl ?_))
      | refine j_nil ?_
      | (refine r_go ?_; first | refine run_region ?_)
      | refine seqQ_normal ?_ | refine blockQ_normal ?_)
      exact loopQ_next ((k + 1, k + 1, ws ++ [(s.take k).drop fr]), b', cap') (sp.hit hk hc) (by dsimp only; omega) rfl ⟨rfl, rfl, nx _, nx _, trivial⟩
    · have hc : ¬ s[k] = 10 := by assumption
      exact loopQ_next ((k + 1, fr, ws), ob, cp) (sp.miss hk hc) (by dsimp only; omega) rfl ⟨rfl, rfl, rfl, nx _, trivial⟩
  · have hke : k = s.length := by omega
    subst hke
    have hall := sp.all
    have e1 : lnW s = ws := by unfold lnW; rw [hall]; simp
    have e2 : lnE s = s.drop fr := by unfold lnE; simp only [hall]; simp
    have e3 : lnE s = [] ↔ ((fr : Nat) : Int) = (s.length : Int) := by
      rw [e2, List.drop_eq_nil_iff]; omega
    repeat' (first
      | (refine j_go ?_; first
        | refine j_op0 rfl rfl rfl rfl ?_ | (refine j_kLen rfl ?_; first | refine j_op rfl rfl rfl rfl ?_))
      | refine j_nil ?_
      | (refine r_go ?_; first | refine run_seq ?_ | refine run_region ?_ | (refine (run_if rfl (fun hb => ?_) (fun hb => ?_)) <;> first | (exfalso; omega) | skip) | refine run_ret ?_ | refine run_exit ?_)
      | refine seqQ_normal ?_ | refine seqQ_exit ?_ | refine blockQ_eq ?_ | refine loopQ_exit ?_)
    refine end_view (view_freeze (g := encW) (z := 1) (ys := ws) 0 2 rfl rfl rfl (fun _ => rfl) rfl rfl) ?_
    exact end2 rfl rfl (List.Sublist.refl _) (by rw [e1, dec_congr e3]) (.inl rfl)

theorem c_l06Cut (s p : List UInt8) (hs : s.length ≤ 1048576) (hp : p.length ≤ 100) (hp0 : p ≠ []) : Gives Tryz.prog 71 [.str s, .str p] (.tup [.str (cutR p s).1, .str (cutR p s).2.1, .raw (.bool (cutR p s).2.2)]) := by
  refine fn_of_run tyOk ztOk mix Tryz.func71 rfl (by decide) Tryz.ntmps71 (fun w0 h => ?_)
  have hp1 : 0 < p.length := List.length_pos_iff.2 hp0
  repeat' (first
      | (refine j_go ?_; first
        | refine j_op0 rfl rfl rfl rfl ?_)
      | refine j_nil ?_
      | (refine r_go ?_; first | refine run_seq ?_ | refine run_region ?_ | refine run_block ?_)
      | refine seqQ_normal ?_)
  refine run_loop (fun k : Nat => [(0, .str s), (1, .str p), (7, .int (k : Int))]) (fun _ => _) (fun k => k ≤ s.length ∧ (∀ i (_ : i < s.length + 1), i < k → ¬ p.isPrefixOf (s.drop i) = true)) (fun k => s.length - k) 0 ⟨rfl, rfl, rfl, trivial⟩ rfl ⟨Nat.zero_le _, by first | (intros; omega) | (simp; done) | rfl | trivial | exact ⟨by simp [sumF], by intros; omega⟩ | exact ⟨by omega, by simp⟩⟩ (fun k ⟨kl, kp⟩ => ?_)
  by_cases hk : k + p.length ≤ s.length
  · have e0 : (s.take ((k : Int) + (p.length : Int)).toNat).drop (k : Int).toNat = (s.drop k).take p.length := by
      rw [show ((k : Int) + (p.length : Int)).toNat = k + p.length from by omega, Int.toNat_natCast, List.drop_take, Nat.add_sub_cancel_left]
    have e1 : (s.drop k).take p.length = p ↔ p.isPrefixOf (s.drop k) = true := by
      rw [List.isPrefixOf_iff_prefix]
      exact ⟨fun q => by rw [← q]; exact List.take_prefix _ _, fun ⟨t, q⟩ => by rw [← q]; simp⟩
    repeat' (first
      | (refine j_go ?_; first
        | refine j_op0 rfl rfl rfl rfl ?_ | (refine j_kBin rfl ?_; first | refine j_in rfl rfl ⟨by omega, by omega⟩ rfl rfl ?_) | (refine j_kLen rfl ?_; first | refine j_op rfl rfl rfl rfl ?_) | (refine j_kSlice rfl ?_; first | refine j_ss rfl rfl rfl rfl rfl rfl (by omega) rfl rfl ?_))
      | refine j_nil ?_
      | (refine r_go ?_; first | refine run_seq ?_ | refine run_region ?_ | (refine (run_if rfl (fun hb => ?_) (fun hb => ?_)) <;> first | (exfalso; omega) | skip) | refine run_block ?_ | refine run_ret ?_ | refine run_skip ?_ | refine run_regionD (by kernel_rfl) ?_)
      | refine seqQ_normal ?_ | refine seqQ_ret ?_ | refine blockQ_normal ?_ | refine blockQ_ret ?_ | refine loopQ_ret ?_)
    · have q := e1.1 (e0.symm.trans (by assumption))
      rw [cutR_at (by omega) q (fun i h => kp i (by omega) h)]
      exact end_ret (List.Sublist.refl _) (.cons (.tmp rfl) (.cons (.tmp rfl) (.cons (.tmp rfl) .nil))) (by rw [show ((k : Int) + (p.length : Int)).toNat = k + p.length from by omega, Int.toNat_natCast, Int.toNat_natCast, List.take_length]; rfl) (.inl rfl)
    · exact loopQ_nextD (k + 1) ⟨by omega, all_step kp (fun _ q => hb (e0.trans (e1.2 q)))⟩ (by omega) (by first | exact List.Sublist.refl _ | exact sub1 | exact sub2 | exact sub3) ⟨rfl, rfl, nx _, trivial⟩
  · repeat' (first
      | (refine j_go ?_; first
        | refine j_op0 rfl rfl rfl rfl ?_ | (refine j_kBin rfl ?_; first | refine j_in rfl rfl ⟨by omega, by omega⟩ rfl rfl ?_) | (refine j_kLen rfl ?_; first | refine j_op rfl rfl rfl rfl ?_))
      | refine j_nil ?_
      | (refine r_go ?_; first | refine run_seq ?_ | refine run_region ?_ | (refine (run_if rfl (fun hb => ?_) (fun hb => ?_)) <;> first | (exfalso; omega) | skip) | refine run_ret ?_ | refine run_exit ?_)
      | refine seqQ_normal ?_ | refine seqQ_exit ?_ | refine blockQ_eq ?_ | refine loopQ_exit ?_)
    rw [cutR_no (fun i hi q => by
      by_cases hik : i < k
      · exact kp i (by omega) hik q
      · have := (List.isPrefixOf_iff_prefix.1 q).length_le
        rw [List.length_drop] at this
        omega)]
    exact end_ret (List.Sublist.refl _) (.cons (.tmp rfl) (.cons (.tmp rfl) (.cons (.tmp rfl) .nil))) rfl (.inl rfl)



end Go.Proofs.YtmcljepicadjfaaGreatDoor

/-
  Library functions over lists of numbers and lists of lists: the first element of a kind. No condition.
-/
namespace Go.Proofs.YtmcljepicadjfaaGreatDoor
open Go.AI
set_option maxRecDepth 8000
set_option maxHeartbeats 1600000

theorem c_ixfI (f : FuncId) (caps : List A) (r : Int → Prop) (l : List (Int)) (hf : ∀ x ∈ l, Gives Tryz.prog f (.int x :: caps) (.raw (.bool (dec (r x))))) : Gives Tryz.prog 120 [.sl (l.map Go.AI.encI), .fn f caps] (.int (fIdx r l)) := by
  refine fn_of_run tyOk ztOk mix Tryz.func120 rfl (by decide) Tryz.ntmps120 (fun w0 h => ?_)
  refine run_len (t := 0) rfl (fun hl => ?_)
  rw [List.length_map] at hl
  repeat' (first
      | (refine j_go ?_; first
        | refine j_op0 rfl rfl rfl rfl ?_ | (refine j_kLen rfl ?_; first | refine j_len rfl rfl rfl rfl rfl rfl ?_))
      | refine j_nil ?_
      | (refine r_go ?_; first | refine run_seq ?_ | refine run_region ?_ | refine run_block ?_)
      | refine seqQ_normal ?_)
  refine run_loop (fun k : Nat => [(0, .sl (l.map Go.AI.encI)), (1, .fn f caps), (7, .int l.length), (8, .int (k : Int))]) (fun _ => _) (fun k => k ≤ l.length ∧ (∀ i (h : i < l.length), i < k → ¬ r l[i])) (fun k => l.length - k) 0 ⟨rfl, rfl, rfl, rfl, trivial⟩ rfl ⟨Nat.zero_le _, by first | (intros; omega) | (simp; done) | rfl | trivial | exact ⟨by simp [sumF], by intros; omega⟩ | exact ⟨by omega, by simp⟩⟩ (fun k ⟨kl, kp⟩ => ?_)
  repeat' (first
      | (refine j_go ?_; first
        | refine j_op0 rfl rfl rfl rfl ?_ | (refine j_kIdx rfl ?_; first | refine j_idx rfl rfl rfl rfl rfl (by omega) rfl rfl rfl ?_) | (refine j_kBin rfl ?_; first | refine j_in rfl rfl ⟨by omega, by omega⟩ rfl rfl ?_) | (refine j_kCall rfl rfl rfl rfl ?_; first | refine jc (hf _ (List.getElem_mem _)) (LeL.refl _) rfl rfl ?_))
      | refine j_nil ?_
      | (refine r_go ?_; first | refine run_seq ?_ | refine run_region ?_ | (refine (run_if rfl (fun hb => ?_) (fun hb => ?_)) <;> first | (exfalso; omega) | skip) | refine run_block ?_ | refine run_ret ?_ | refine run_exit ?_ | refine run_skip ?_)
      | refine seqQ_normal ?_ | refine seqQ_ret ?_ | refine seqQ_exit ?_ | refine blockQ_normal ?_ | refine blockQ_ret ?_ | refine blockQ_eq ?_ | refine loopQ_ret ?_ | refine loopQ_exit ?_)
  · exact end1 rfl (List.Sublist.refl _) (ai (fIdx_at (by omega) hb kp).symm) (.inl rfl)
  · exact loopQ_nextD (k + 1) ⟨by omega, all_step kp (fun _ => hb)⟩ (by omega) (by first | exact List.Sublist.refl _ | exact sub1 | exact sub2 | exact sub3) ⟨rfl, rfl, rfl, nx _, trivial⟩
  · exact end1 rfl (List.Sublist.refl _) (ai (fIdx_none (fun i h => kp i h (by omega))).symm) (.inl rfl)

theorem c_cfI (f : FuncId) (caps : List A) (r : Int → Prop) (l : List (Int)) (hf : ∀ x ∈ l, Gives Tryz.prog f (.int x :: caps) (.raw (.bool (dec (r x))))) : Gives Tryz.prog 94 [.sl (l.map Go.AI.encI), .fn f caps] (.raw (.bool (dec (∃ x ∈ l, r x)))) := by
  refine fn_of_run tyOk ztOk mix Tryz.func94 rfl (by decide) Tryz.ntmps94 (fun w0 h => ?_)
  repeat' (first
      | (refine j_go ?_; first
        | refine j_op0 rfl rfl rfl rfl ?_ | (refine j_kCall rfl rfl rfl rfl ?_; first | refine jc (c_ixfI _ _ r _ hf) (LeL.refl _) rfl rfl ?_))
      | refine j_nil ?_
      | (refine r_go ?_; first | refine run_seq ?_ | refine run_region ?_ | refine run_ret ?_)
      | refine seqQ_normal ?_)
  exact end1 rfl (List.Sublist.refl _) (rbD (fIdx_ex r l)) (.inl rfl)
theorem c_ixfS (f : FuncId) (caps : List A) (r : List Int → Prop) (l : List (List Int)) (hf : ∀ x ∈ l, Gives Tryz.prog f (.sl (x.map Go.AI.encI) :: caps) (.raw (.bool (dec (r x))))) : Gives Tryz.prog 96 [.sl (l.map (encS Go.AI.encI)), .fn f caps] (.int (fIdx r l)) := by
  refine fn_of_run tyOk ztOk mix Tryz.func96 rfl (by decide) Tryz.ntmps96 (fun w0 h => ?_)
  refine run_len (t := 0) rfl (fun hl => ?_)
  rw [List.length_map] at hl
  repeat' (first
      | (refine j_go ?_; first
        | refine j_op0 rfl rfl rfl rfl ?_ | (refine j_kLen rfl ?_; first | refine j_len rfl rfl rfl rfl rfl rfl ?_))
      | refine j_nil ?_
      | (refine r_go ?_; first | refine run_seq ?_ | refine run_region ?_ | refine run_block ?_)
      | refine seqQ_normal ?_)
  refine run_loop (fun k : Nat => [(0, .sl (l.map (encS Go.AI.encI))), (1, .fn f caps), (7, .int l.length), (8, .int (k : Int))]) (fun _ => _) (fun k => k ≤ l.length ∧ (∀ i (h : i < l.length), i < k → ¬ r l[i])) (fun k => l.length - k) 0 ⟨rfl, rfl, rfl, rfl, trivial⟩ rfl ⟨Nat.zero_le _, by first | (intros; omega) | (simp; done) | rfl | trivial | exact ⟨by simp [sumF], by intros; omega⟩ | exact ⟨by omega, by simp⟩⟩ (fun k ⟨kl, kp⟩ => ?_)
  repeat' (first
      | (refine j_go ?_; first
        | refine j_op0 rfl rfl rfl rfl ?_ | (refine j_kIdx rfl ?_; first | refine j_idx rfl rfl rfl rfl rfl (by omega) rfl rfl rfl ?_) | (refine j_kBin rfl ?_; first | refine j_in rfl rfl ⟨by omega, by omega⟩ rfl rfl ?_) | (refine j_kCall rfl rfl rfl rfl ?_; first | refine jc (hf _ (List.getElem_mem _)) (LeL.refl _) rfl rfl ?_))
      | refine j_nil ?_
      | (refine r_go ?_; first | refine run_seq ?_ | refine run_region ?_ | (refine (run_if rfl (fun hb => ?_) (fun hb => ?_)) <;> first | (exfalso; omega) | skip) | refine run_block ?_ | refine run_ret ?_ | refine run_exit ?_ | refine run_skip ?_)
      | refine seqQ_normal ?_ | refine seqQ_ret ?_ | refine seqQ_exit ?_ | refine blockQ_normal ?_ | refine blockQ_ret ?_ | refine blockQ_eq ?_ | refine loopQ_ret ?_ | refine loopQ_exit ?_)
  · exact end1 rfl (List.Sublist.refl _) (ai (fIdx_at (by omega) hb kp).symm) (.inl rfl)
  · exact loopQ_nextD (k + 1) ⟨by omega, all_step kp (fun _ => hb)⟩ (by omega) (by first | exact List.Sublist.refl _ | exact sub1 | exact sub2 | exact sub3) ⟨rfl, rfl, rfl, nx _, trivial⟩
  · exact end1 rfl (List.Sublist.refl _) (ai (fIdx_none (fun i h => kp i h (by omega))).symm) (.inl rfl)

theorem c_cfS (f : FuncId) (caps : List A) (r : List Int → Prop) (l : List (List Int)) (hf : ∀ x ∈ l, Gives Tryz.prog f (.sl (x.map Go.AI.encI) :: caps) (.raw (.bool (dec (r x))))) : Gives Tryz.prog 50 [.sl (l.map (encS Go.AI.encI)), .fn f caps] (.raw (.bool (dec (∃ x ∈ l, r x)))) := by
  refine fn_of_run tyOk ztOk mix Tryz.func50 rfl (by decide) Tryz.ntmps50 (fun w0 h => ?_)
  repeat' (first
      | (refine j_go ?_; first
        | refine j_op0 rfl rfl rfl rfl ?_ | (refine j_kCall rfl rfl rfl rfl ?_; first | refine jc (c_ixfS _ _ r _ hf) (LeL.refl _) rfl rfl ?_))
      | refine j_nil ?_
      | (refine r_go ?_; first | refine run_seq ?_ | refine run_region ?_ | refine run_ret ?_)
      | refine seqQ_normal ?_)
  exact end1 rfl (List.Sublist.refl _) (rbD (fIdx_ex r l)) (.inl rfl)

end Go.Proofs.YtmcljepicadjfaaGreatDoor

/-
  The data of the laws' theme 2, as structures, and the helpers of the laws over them: sizes, copies, comparisons. No condition but that the sizes are at most 1048576.
-/
namespace Go.Proofs.YtmcljepicadjfaaGreatDoor
open Go.AI
set_option maxRecDepth 8000

structure Into where
  cell : Int
  bag : List Int
  deriving DecidableEq, Inhabited
/-- What its size tells of it. -/
structure OkInto (x : Into) : Prop where
  bag : x.bag.length ≤ 1048576
structure Rule where
  cell : Int
  rank : Int
  need : List Int
  have_ : List Int
  lack : List Int
  here : List Int
  out : List Int
  into : List Into
  melts : Bool
  deriving DecidableEq, Inhabited
/-- What its size tells of it. -/
structure OkRule (x : Rule) : Prop where
  need : x.need.length ≤ 1048576
  have_ : x.have_.length ≤ 1048576
  lack : x.lack.length ≤ 1048576
  here : x.here.length ≤ 1048576
  out : x.out.length ≤ 1048576
  into : x.into.length ≤ 1048576 ∧ ∀ r ∈ x.into, OkInto r
structure System where
  kinds : Int
  parents : List Int
  rules : List Rule
  deriving DecidableEq, Inhabited
/-- What its size tells of it. -/
structure OkSystem (x : System) : Prop where
  parents : x.parents.length ≤ 1048576
  rules : x.rules.length ≤ 1048576 ∧ ∀ r ∈ x.rules, OkRule r
structure State where
  alive : List Bool
  bags : List (List Int)
  around : List Int
  deriving DecidableEq, Inhabited
/-- What its size tells of it. -/
structure OkState (x : State) : Prop where
  alive : x.alive.length ≤ 1048576
  bags : x.bags.length ≤ 1048576 ∧ ∀ r ∈ x.bags, r.length ≤ 1048576
  around : x.around.length ≤ 1048576
end Go.Proofs.YtmcljepicadjfaaGreatDoor

/-
  Library functions over lists of rules and of what is put into cells: the first element of a kind. No condition.
-/
namespace Go.Proofs.YtmcljepicadjfaaGreatDoor
open Go.AI
set_option maxRecDepth 8000
set_option maxHeartbeats 1600000




end Go.Proofs.YtmcljepicadjfaaGreatDoor

/-
  Bags: what the small functions on bags of the reference and of the program compute. No condition.
-/
namespace Go.Proofs.YtmcljepicadjfaaGreatDoor
open Go.AI
set_option maxRecDepth 8000
set_option maxHeartbeats 1600000

/-- A bag for so many kinds. -/
def BagK (k : Int) (b : List Int) : Prop := Bag b ∧ (b.length : Int) = k
theorem BagK.bnd {k : Int} {b : List Int} (h : BagK k b) : 0 ≤ tot b ∧ tot b ≤ 8000 := by
  have := h.1.take b.length (Nat.le_refl _)
  have := h.1.2.2
  rw [List.take_length] at *
  unfold tot; omega

theorem c_l01Bag (b : List Int) : Gives Tryz.prog 121 [.sl (b.map Go.AI.encI)] (.raw (.bool (dec (Bag b)))) := by
  refine fn_of_run tyOk ztOk mix Tryz.func121 rfl (by decide) Tryz.ntmps121 (fun w0 h => ?_)
  refine run_len (t := 0) rfl (fun hl => ?_)
  rw [List.length_map] at hl
  repeat' (first
      | (refine j_go ?_; first
        | refine j_op0 rfl rfl rfl rfl ?_)
      | refine j_nil ?_
      | (refine r_go ?_; first | refine run_seq ?_ | refine run_region ?_ | refine run_block ?_)
      | refine seqQ_normal ?_)
  refine run_loop (fun k : Nat => [(0, .sl (b.map Go.AI.encI)), (3, .int (k : Int))]) (fun _ => _) (fun k => k ≤ b.length ∧ (∀ i (h : i < b.length), i < k → 0 ≤ b[i] ∧ b[i] ≤ 1000)) (fun k => b.length - k) 0 ⟨rfl, rfl, trivial⟩ rfl ⟨Nat.zero_le _, by first | (intros; omega) | (simp; done) | rfl | trivial | exact ⟨by simp [sumF], by intros; omega⟩ | exact ⟨by omega, by simp⟩⟩ (fun k ⟨kl, kp⟩ => ?_)
  repeat' (first
      | (refine j_go ?_; first
        | refine j_op0 rfl rfl rfl rfl ?_ | (refine j_kIdx rfl ?_; first | refine j_idx rfl rfl rfl rfl rfl (by omega) rfl rfl rfl ?_) | (refine j_kBin rfl ?_; first | refine j_in rfl rfl ⟨by omega, by omega⟩ rfl rfl ?_) | (refine j_kLen rfl ?_; first | refine j_len rfl rfl rfl rfl rfl rfl ?_) | (refine j_kCall rfl rfl rfl rfl ?_; first | refine jc (c_l00In _ _ _) (LeL.refl _) rfl rfl ?_))
      | refine j_nil ?_
      | (refine r_go ?_; first | refine run_seq ?_ | refine run_region ?_ | (refine (run_if rfl (fun hb => ?_) (fun hb => ?_)) <;> first | (exfalso; omega) | skip) | (refine (run_ifn rfl (fun hb => ?_) (fun hb => ?_)) <;> first | (exfalso; omega) | skip) | refine run_block ?_ | refine run_ret ?_ | refine run_exit ?_ | refine run_skip ?_)
      | refine seqQ_normal ?_ | refine seqQ_ret ?_ | refine seqQ_exit ?_ | refine blockQ_normal ?_ | refine blockQ_ret ?_ | refine blockQ_eq ?_ | refine loopQ_ret ?_ | refine loopQ_exit ?_)
  · exact end1 rfl (by first | exact List.Sublist.refl _ | exact sub1 | exact sub2 | exact sub3) (rbF (fun q => hb (q.1 _ (List.getElem_mem _)))) (.inl rfl)
  · exact loopQ_nextD (k + 1) ⟨by omega, all_step kp (fun _ => hb)⟩ (by omega) (by first | exact List.Sublist.refl _ | exact sub1 | exact sub2 | exact sub3) ⟨rfl, nx _, trivial⟩
  · exact end1 rfl (List.Sublist.refl _) (rbD ⟨fun q => ⟨fun x hx => by obtain ⟨i, hi, rfl⟩ := List.getElem_of_mem hx; exact kp i hi (by omega), by omega, by omega⟩, fun q => by have := q.2; omega⟩) (.inl rfl)



theorem c_bagSize (b : List Int) (hB : Small b) : Gives Tryz.prog 48 [.sl (b.map Go.AI.encI)] (.int (tot b)) := by
  refine fn_of_run tyOk ztOk mix Tryz.func48 rfl (by decide) Tryz.ntmps48 (fun w0 h => ?_)
  have hB2 := hB.2
  repeat' (first
      | (refine j_go ?_; first
        | refine j_op0 rfl rfl rfl rfl ?_ | (refine j_kLen rfl ?_; first | refine j_len rfl rfl rfl rfl rfl rfl ?_))
      | refine j_nil ?_
      | (refine r_go ?_; first | refine run_seq ?_ | refine run_region ?_ | refine run_block ?_)
      | refine seqQ_normal ?_)
  refine run_loop (fun k : Nat => [(3, .int (sumF (fun x => x) (b.take k))), (6, .sl (b.map Go.AI.encI)), (7, .int b.length), (8, .int (k : Int))]) (fun _ => _) (fun k => k ≤ b.length ∧ (True)) (fun k => b.length - k) 0 ⟨(by first | rfl | exact si (by first | omega | (simp; done) | (simp [sumF]; done) | (simp; omega)) | exact raw_f (by simp) | exact raw_t (by simp) | exact sa (by first | (rw [catK_zero]; rfl) | (rw [catK_zero, List.append_nil]; rfl) | (rw [catK_zero, List.append_nil]) | (rw [joinK_zero, List.append_nil]; rfl) | (rw [joinK_zero, List.append_nil]) | (simp [catK]; done))), rfl, rfl, rfl, trivial⟩ rfl ⟨Nat.zero_le _, by first | (intros; omega) | (simp; done) | rfl | trivial | exact ⟨by simp [sumF], by intros; omega⟩ | exact ⟨by omega, by simp⟩⟩ (fun k ⟨kl, kp⟩ => ?_)
  have b1 := hB.take k kl
  by_cases hk : k < b.length
  · have b2 := hB.1 _ (List.getElem_mem hk)
    repeat' (first
      | (refine j_go ?_; first
        | refine j_op0 rfl rfl rfl rfl ?_ | (refine j_kIdx rfl ?_; first | refine j_idx rfl rfl rfl rfl rfl (by omega) rfl rfl rfl ?_) | (refine j_kBin rfl ?_; first | refine j_in rfl rfl ⟨by omega, by omega⟩ rfl rfl ?_))
      | refine j_nil ?_
      | (refine r_go ?_; first | refine run_seq ?_ | refine run_region ?_ | (refine (run_if rfl (fun hb => ?_) (fun hb => ?_)) <;> first | (exfalso; omega) | skip) | refine run_block ?_ | refine run_skip ?_)
      | refine seqQ_normal ?_ | refine blockQ_normal ?_)
    exact loopQ_nextD (k + 1) ⟨by omega, trivial⟩ (by omega) (by first | exact List.Sublist.refl _ | exact sub1 | exact sub2 | exact sub3) ⟨(by first | rfl | (rw [sumF_succ (fun x => x) hk]; try rfl) | exact si (by omega)), rfl, rfl, nx _, trivial⟩
  · repeat' (first
      | (refine j_go ?_; first
        | refine j_op0 rfl rfl rfl rfl ?_)
      | refine j_nil ?_
      | (refine r_go ?_; first | refine run_seq ?_ | refine run_region ?_ | (refine (run_if rfl (fun hb => ?_) (fun hb => ?_)) <;> first | (exfalso; omega) | skip) | refine run_ret ?_ | refine run_exit ?_)
      | refine seqQ_normal ?_ | refine seqQ_exit ?_ | refine blockQ_eq ?_ | refine loopQ_exit ?_)
    exact end1 rfl (List.Sublist.refl _) (ai (by rw [List.take_of_length_le (by omega)]; rfl)) (.inl rfl)

theorem c_sizeI (l : List Int) : Gives Tryz.prog 43 [.sl (l.map Go.AI.encI)] (.int l.length) := by
  refine fn_of_run tyOk ztOk mix Tryz.func43 rfl (by decide) Tryz.ntmps43 (fun w0 h => ?_)
  repeat' (first
      | (refine j_go ?_; first
        | refine j_op0 rfl rfl rfl rfl ?_ | (refine j_kLen rfl ?_; first | refine j_len rfl rfl rfl rfl rfl rfl ?_))
      | refine j_nil ?_
      | (refine r_go ?_; first | refine run_seq ?_ | refine run_region ?_ | refine run_ret ?_)
      | refine seqQ_normal ?_)
  exact end1 rfl (List.Sublist.refl _) (rfl) (.inl rfl)

theorem c_ValidBag1 (x : Int) : Gives Tryz.prog 95 [.int x] (.raw (.bool (dec (¬ (0 ≤ x ∧ x ≤ 1000))))) := by
  refine fn_of_run tyOk ztOk mix Tryz.func95 rfl (by decide) Tryz.ntmps95 (fun w0 h => ?_)
  repeat' (first
      | (refine j_go ?_; first
        | refine j_op0 rfl rfl rfl rfl ?_ | (refine j_kCall rfl rfl rfl rfl ?_; first | refine jc (c_inRange _ _ _) (LeL.refl _) rfl rfl ?_))
      | refine j_nil ?_
      | (refine r_go ?_; first | refine run_seq ?_ | refine run_region ?_ | refine run_ret ?_)
      | refine seqQ_normal ?_)
  exact end1 rfl (List.Sublist.refl _) (rbN Iff.rfl) (.inl rfl)

theorem bag_of {k : Int} {b : List Int} (h1 : 1 ≤ k ∧ k ≤ 8) (h2 : (b.length : Int) = k) : (¬ ∃ x ∈ b, ¬ (0 ≤ x ∧ x ≤ 1000)) ↔ BagK k b := by
  constructor
  · intro h
    exact ⟨⟨fun x hx => Classical.byContradiction fun q => h ⟨x, hx, q⟩, by omega, by omega⟩, h2⟩
  · rintro h ⟨x, hx, q⟩
    exact q (h.1.1 x hx)
theorem c_ValidBag (k : Int) (b : List Int) : Gives Tryz.prog 47 [.int k, .sl (b.map Go.AI.encI)] (.raw (.bool (dec (BagK k b)))) := by
  refine fn_of_run tyOk ztOk mix Tryz.func47 rfl (by decide) Tryz.ntmps47 (fun w0 h => ?_)
  repeat' (first
      | (refine j_go ?_; first
        | refine j_op0 rfl rfl rfl rfl ?_ | refine j_off rfl rfl rfl ?_ | (refine j_kCall rfl rfl rfl rfl ?_; first | refine jc (c_inRange _ _ _) (LeL.refl _) rfl rfl ?_ | refine jc (c_sizeI _) (LeL.refl _) rfl rfl ?_ | refine jc (c_cfI _ _ (fun x => ¬ (0 ≤ x ∧ x ≤ 1000)) _ (fun x _ => c_ValidBag1 x)) (LeL.refl _) rfl rfl ?_) | (refine j_kGuard rfl ?_; first | (refine (j_if rfl rfl rfl (fun hb => ?_) (fun hb => ?_)) <;> first | (exfalso; omega) | skip)))
      | refine j_nil ?_
      | (refine r_go ?_; first | refine run_seq ?_ | refine run_region ?_ | refine run_ret ?_)
      | refine seqQ_normal ?_)
  all_goals first | exact end1 rfl (List.Sublist.refl _) (rbN (bag_of (by assumption) (by assumption))) (.inl rfl) | exact end1 rfl (by first | exact List.Sublist.refl _ | exact sub1 | exact sub2 | exact sub3) (rbF (fun q => by have := q.1.2; have := q.2; omega)) (.inl rfl) | trace_state

/-! #### The frame of a system -/
def System.Frame (s : System) : Prop := (1 ≤ s.kinds ∧ s.kinds ≤ 8) ∧ (1 ≤ s.parents.length ∧ s.parents.length ≤ 6) ∧ s.parents[0]? = some (-1) ∧ ∀ c (h : c < s.parents.length), 1 ≤ c → 0 ≤ s.parents[c] ∧ s.parents[c] ≤ (c : Int) - 1
theorem System.Frame.zero {s : System} (h : s.Frame) : s.parents[0]'(by have := h.2.1; omega) = -1 := by
  have h1 := h.2.2.1
  rw [List.getElem?_eq_getElem (by have := h.2.1; omega)] at h1
  exact Option.some.inj h1



/-- Cell c lies within cell o. -/
inductive Lies (ps : List Int) (o : Int) : Int → Prop
  | here {c p : Int} (h : ps[c.toNat]? = some p) (hp : 0 ≤ p) (e : p = o) : Lies ps o c
  | up {c p : Int} (h : ps[c.toNat]? = some p) (hp : 0 ≤ p) (t : Lies ps o p) : Lies ps o c
end Go.Proofs.YtmcljepicadjfaaGreatDoor

/-
  Rules and systems: what ValidRule and ValidSystem of the reference and of the program compute. No condition.
-/
namespace Go.Proofs.YtmcljepicadjfaaGreatDoor
open Go.AI
set_option maxRecDepth 8000
set_option maxHeartbeats 1600000

def System.IntoOk (s : System) (r : Rule) (x : Into) : Prop := (0 ≤ x.cell ∧ x.cell ≤ (s.parents.length : Int) - 1) ∧ Lies s.parents r.cell x.cell ∧ BagK s.kinds x.bag ∧ ¬ tot x.bag = 0
/-- A rule is right for a system. -/
def System.RuleOk (s : System) (r : Rule) : Prop := (0 ≤ r.cell ∧ r.cell ≤ (s.parents.length : Int) - 1) ∧ (0 ≤ r.rank ∧ r.rank ≤ 9) ∧ ¬ (r.melts = true ∧ r.cell = 0) ∧ (r.into.length : Int) ≤ 3 ∧
  BagK s.kinds r.need ∧ BagK s.kinds r.have_ ∧ BagK s.kinds r.lack ∧ BagK s.kinds r.here ∧ BagK s.kinds r.out ∧ ¬ tot r.need = 0 ∧
  ∀ i (h : i < r.into.length), s.IntoOk r r.into[i] ∧ (0 < i → r.into[i-1].cell < r.into[i].cell)
theorem BagK.bag {k : Int} {b : List Int} (h : BagK k b) : Small b := h.1.small



def Rule.bags (r : Rule) : List (List Int) := [r.need, r.have_, r.lack, r.here, r.out]



end Go.Proofs.YtmcljepicadjfaaGreatDoor
