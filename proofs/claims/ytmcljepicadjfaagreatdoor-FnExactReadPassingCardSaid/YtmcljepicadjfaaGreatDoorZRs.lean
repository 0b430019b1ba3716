/-
  Passing systems read from texts: ReadPassing of the program. No condition.
-/
import Derived.Test.YtmcljepicadjfaaGreatDoorZRl
import Derived.Test.YtmcljepicadjfaaGreatDoorZJN
namespace Go.Proofs.YtmcljepicadjfaaGreatDoor
open Go.AI Go.RowKit
set_option maxRecDepth 8000
set_option maxHeartbeats 6400000
/-- What ReadPassing hands back. -/
def PaR (x : Passing) (cd : Int) (v : A) (h : Heap) : Prop := ∃ a, v = .tup [a, .int cd] ∧ ROPassing x a h
theorem PaR.nil {cd : Int} : PaR ⟨0, [], [], []⟩ cd (.tup [.agg [.int 0, .sl [], .sl [], .sl []], .int cd]) [] := ⟨_, rfl, .sl [], [], .inr ⟨rfl, rfl, rfl⟩, .sl [], [], .inr ⟨rfl, rfl, rfl⟩, .sl [], [], .inr ⟨rfl, rfl, rfl⟩, rfl, rfl⟩
abbrev paB (b : Nat) (cs : List A) : Blk := ⟨some b, 28, 4, cs⟩
abbrev inB6 (b : Option Nat) (cap : Nat) (l : List Int) : Blk := ⟨b, 2, cap * 1, (l.map Go.AI.encI).flatten⟩
theorem cPI_cons {t l0 l1 l2 : List UInt8} {ls : List (List UInt8)} (el : lnW t = l0 :: l1 :: l2 :: ls) {n : Nat} (hn : pIv (trimP pas8 l0) = (n : Int)) : cPI t = ⟨(n : Int), parI l1, frI n l2, ls.map (rulI n)⟩ := by
  unfold cPI
  rw [el]
  show (⟨pIv (trimP pas8 l0), parI l1, frI (pIv (trimP pas8 l0)).toNat l2, ls.map (rulI (pIv (trimP pas8 l0)).toNat)⟩ : Passing) = _
  rw [hn, Int.toNat_natCast]
theorem three {α : Type} : ∀ {l : List α}, 3 ≤ l.length → ∃ a b c r, l = a :: b :: c :: r
  | a :: b :: c :: r, _ => ⟨a, b, c, r, rfl⟩
  | [], h => absurd h (by simp)
  | [_], h => absurd h (by simp)
  | [_, _], h => absurd h (by simp)
theorem pm7 {α : Type} (a x1 x2 x3 x4 x5 x6 : α) (h R : List α) : (a :: (h ++ (x1 :: x2 :: x3 :: x4 :: x5 :: x6 :: R))).Perm (x1 :: a :: x2 :: x3 :: x4 :: x5 :: x6 :: (h ++ R)) := by
  classical exact List.perm_iff_count.2 fun _ => by simp only [List.count_cons, List.count_append]; omega
theorem pm5 {α : Type} (x1 x2 x3 x4 x5 : α) (h2 h1 : List α) (hs : List (List α)) (F : List α) : (x1 :: x2 :: x3 :: x4 :: x5 :: (h2 ++ (h1 ++ (hs.flatten ++ F)))).Perm (x1 :: x2 :: x3 :: x4 :: x5 :: ((hs ++ [h1 ++ h2]).flatten ++ F)) := by
  classical exact List.perm_iff_count.2 fun _ => by simp only [List.count_cons, List.count_append, List.flatten_append, List.flatten_cons, List.flatten_nil, List.count_nil]; omega
theorem pm3 {α : Type} (x1 x2 x3 : α) (R : List α) : (x1 :: x2 :: x3 :: R).Perm (x2 :: x3 :: x1 :: R) := by
  classical exact List.perm_iff_count.2 fun _ => by simp only [List.count_cons]; omega
theorem cPI_is {t : List UInt8} (h0 : t ≠ []) (h : txS (cPI t).Ok (passT (cPI t)) = t) : IsPaT t := by
  by_cases q : (cPI t).Ok
  · rw [txs_t q] at h; exact ⟨_, q, h⟩
  · rw [txs_f q] at h; exact absurd h.symm h0
theorem cPI_not {t : List UInt8} (h : ¬ txS (cPI t).Ok (passT (cPI t)) = t) : ¬ IsPaT t := fun ⟨p, hp, e⟩ => h (by
  rw [← e, cPI_text hp, txs_t hp])
/-- Rules of the call's own. -/
structure RBP (L : List PassRule) (css : List (Cells 3)) (hs : List Heap) : Prop where
  l1 : css.length = L.length
  l2 : hs.length = L.length
  all : ∀ i (hi : i < L.length) (h1 : i < css.length) (h2 : i < hs.length), ERPassRule L[i] css[i].1 hs[i]
theorem RBP.nil : RBP [] [] [] := ⟨rfl, rfl, fun _ hi => absurd hi (Nat.not_lt_zero _)⟩
theorem RBP.snoc {L : List PassRule} {css : List (Cells 3)} {hs : List Heap} (R : RBP L css hs) {r : PassRule} {c : Cells 3} {h : Heap} (q : ERPassRule r c.1 h) : RBP (L ++ [r]) (css ++ [c]) (hs ++ [h]) := by
  obtain ⟨l1, l2, all⟩ := R
  refine ⟨by simp [l1], by simp [l2], fun i hi h1 h2 => ?_⟩
  by_cases hk : i < L.length
  · rw [List.getElem_append_left hk, List.getElem_append_left (by omega), List.getElem_append_left (by omega)]; exact all i hk _ _
  · have e : i = L.length := by simp at hi; omega
    subst e
    rw [List.getElem_append_right (by omega), List.getElem_append_right (by omega), List.getElem_append_right (by omega)]
    simpa [l1, l2] using q
/-- Something is wrong with a rule's line. -/
noncomputable def b5 (n : Nat) (l : List UInt8) : Bool := ((((((false || !(cu0 l).2.2) || !(cu1 l).2.2) || !pIok (cu1 l).1) || !(cu2 l).2.2) || !dec (IsBagT n (cu2 l).1)) || !dec (IsBagT n (cu2 l).2.1))
theorem b5_ok {n : Nat} {l : List UInt8} (h : okI n l) : b5 n l = false := by
  obtain ⟨h1, h2, h3, h4, h5, h6⟩ := h
  unfold b5
  rw [h1, h2, h3, h4, dec_t h5, dec_t h6]; rfl
theorem b5_bad {n : Nat} {l : List UInt8} (h : ¬ okI n l) : b5 n l = true := by
  cases hb : b5 n l with
  | true => rfl
  | false =>
    refine absurd ?_ h
    unfold b5 at hb
    simp only [Bool.or_eq_false_iff, Bool.not_eq_false', Bool.false_or] at hb
    obtain ⟨⟨⟨⟨⟨h1, h2⟩, h3⟩, h4⟩, h5⟩, h6⟩ := hb
    exact ⟨h1, h2, h3, h4, dec_iff.1 h5, dec_iff.1 h6⟩
/-- The free kinds read so far. -/
def frP (n : Nat) (l : List UInt8) (j : Nat) : List Bool := (List.range n).map fun i => if i < j then decide (UInt8.ofNat (97 + i) ∈ l.drop 5) else false
theorem frP_zero (n : Nat) (l : List UInt8) : frP n l 0 = List.replicate n false := by
  unfold frP
  simp only [Nat.not_lt_zero, if_false, List.map_const', List.length_range]
theorem frP_len (n : Nat) (l : List UInt8) (j : Nat) : (frP n l j).length = n := by simp [frP]
theorem frP_all (n : Nat) (l : List UInt8) : frP n l n = frI n l := by
  unfold frP frI
  refine List.map_congr_left fun i hi => ?_
  rw [if_pos (List.mem_range.1 hi)]
theorem frP_set {n : Nat} {l : List UInt8} {j : Nat} (hj : j < n) : (frP n l j).set j (decide (UInt8.ofNat (97 + j) ∈ l.drop 5)) = frP n l (j + 1) := by
  refine List.ext_getElem (by simp [frP]) fun i h1 h2 => ?_
  rw [List.getElem_set]
  simp only [frP, List.getElem_map, List.getElem_range]
  by_cases q : j = i
  · subst q; rw [if_pos rfl, if_pos (by omega)]
  · rw [if_neg q]
    by_cases z : i < j
    · rw [if_pos z, if_pos (by omega)]
    · rw [if_neg z, if_neg (by omega)]
theorem min_drop (l : List UInt8) : (l.take (l.length : Int).toNat).drop (min 5 (l.length : Int)).toNat = l.drop 5 := by
  rw [Int.toNat_natCast, List.take_length]
  by_cases h : 5 ≤ l.length
  · rw [show (min 5 (l.length : Int)).toNat = 5 by omega]
  · rw [show (min 5 (l.length : Int)).toNat = l.length by omega, List.drop_length, List.drop_of_length_le (by omega)]
theorem c_iReadPassing (t : List UInt8) (ht : t.length ≤ 1048576) : Does Tryz.prog 8 [.str t] [] (PaR (resReadPassing t) (codeReadPassing t)) := by
  refine fn_of_runD tyOk ztOk mix Tryz.func8 rfl (by decide) Tryz.ntmps8 (fun w0 F => ?_)
  change Run _ _ _ _ _ F
  have fin : ∀ (c : Int) (b : Nat) (e : Env) (h1 : Heap) (T r : Nat), lk e 2 = some (.op (some b) 0) → lk e 3 = some (.int c) → h1 = ⟨some b, T, r, [.int 0, .os none 0 0, .os none 0 0, .os none 0 0]⟩ :: F → endD ty Tryz.f8.results (PaR ⟨0, [], [], []⟩ c) F .ret e h1 := fun c b e h1 T r q1 q2 q3 => by
    subst q3
    exact endD_view (view_freezeP 0 2 q1 rfl) (endD_ret (h1 := []) rfl (vs := [_, _]) (.cons (.cellI rfl rfl) (.cons (.tmp (by rw [lk_cons_ne _ _ (by decide)]; exact q2)) .nil)) (Le.tup (LeL.cons (Le.agg (LeL.cons (Le.refl _) (LeL.cons (Le.nil 0) (LeL.cons (Le.nil 0) (LeL.cons (Le.nil 0) LeL.nil))))) (LeL.cons (Le.refl _) LeL.nil))) PaR.nil (.inl rfl))
  by_cases hb4 : 4000 < t.length
  case pos =>
    rw [(rp_big hb4).1, (rp_big hb4).2]
    repeat' (first
      | (refine j_go ?_; first
        | refine j_op0 rfl rfl rfl rfl ?_ | (refine j_kLen rfl ?_; first | refine j_op rfl rfl rfl rfl ?_) | (refine j_kStore rfl ?_; first | refine j_storeN 0 rfl rfl rfl rfl rfl rfl rfl rfl rfl rfl rfl ?_) | refine j_build rfl rfl rfl rfl rfl rfl rfl ?_ | refine j_alloc rfl rfl rfl rfl rfl (fun _ => ?_))
      | refine j_nil ?_
      | (refine r_go ?_; first | refine run_seq ?_ | refine run_region ?_ | (refine (run_if rfl (fun hb => ?_) (fun hb => ?_)) <;> first | (exfalso; omega) | skip) | refine run_ret ?_)
      | refine seqQ_normal ?_ | refine seqQ_ret ?_)
    all_goals exact fin 2 _ _ _ _ _ rfl rfl rfl
  have no : ¬ IsPaT t → ∀ e h1, endD ty Tryz.f8.results (PaR ⟨0, [], [], []⟩ 5) F .ret e h1 → endD ty Tryz.f8.results (PaR (resReadPassing t) (codeReadPassing t)) F .ret e h1 := fun hn e h1 q => by
    rw [(rp_no hb4 hn).1, (rp_no hb4 hn).2]; exact q
  have cL := c_linesOf t ht
  have ln := lnW_len t
  have lw := lnW_mem t
  by_cases h3 : 3 ≤ (lnW t).length
  case neg =>
    repeat' (first
      | (refine j_go ?_; first
        | refine j_op0 rfl rfl rfl rfl ?_ | refine j_off rfl rfl rfl ?_ | (refine j_kLen rfl ?_; first | refine j_len rfl rfl rfl rfl rfl rfl ?_ | refine j_op rfl rfl rfl rfl ?_) | (refine j_kCall rfl rfl rfl rfl ?_; first | refine jc (cL) (LeL.refl _) rfl rfl ?_) | (refine j_kStore rfl ?_; first | refine j_storeN 0 rfl rfl rfl rfl rfl rfl rfl rfl rfl rfl rfl ?_) | (refine j_kGuard rfl ?_; first | (refine (j_ifn rfl rfl rfl (fun hb => ?_) (fun hb => ?_)) <;> first | (exfalso; omega) | skip)) | refine j_build rfl rfl rfl rfl rfl rfl rfl ?_ | refine j_alloc rfl rfl rfl rfl rfl (fun _ => ?_))
      | refine j_nil ?_
      | (refine r_go ?_; first | refine run_seq ?_ | refine run_region ?_ | refine run_cond_t rfl ?_ | (refine (run_if rfl (fun hb => ?_) (fun hb => ?_)) <;> first | (exfalso; omega) | skip) | refine run_ret ?_ | refine run_skip ?_)
      | refine seqQ_normal ?_ | refine seqQ_ret ?_)
    · refine no (fun q => absurd (isPaT_ln q).1 (by assumption)) _ _ ?_; exact fin 5 _ _ _ _ _ rfl rfl rfl
    · refine no (fun q => h3 (isPaT_ln q).2.1) _ _ ?_; exact fin 5 _ _ _ _ _ rfl rfl rfl
  obtain ⟨l0, l1, l2, ls, el⟩ := three h3
  rw [el] at cL ln lw h3
  have w0l := (lw l0 (by simp)).1
  have w1l := (lw l1 (by simp)).1
  have w2l := (lw l2 (by simp)).1
  have t0l : (trimP pas8 l0).length ≤ l0.length := by unfold trimP; split <;> simp
  have vI := pIv_in (trimP pas8 l0)
  have cP := c_PI (trimP pas8 l0) (by omega)
  by_cases hK : 1 ≤ pIv (trimP pas8 l0) ∧ pIv (trimP pas8 l0) ≤ 8
  case neg =>
    have ek : (cPI t).kinds = pIv (trimP pas8 l0) := by unfold cPI; rw [el]; rfl
    repeat' (first
      | (refine j_go ?_; first
        | refine j_op0 rfl rfl rfl rfl ?_ | refine j_off rfl rfl rfl ?_ | (refine j_kIdx rfl ?_; first | refine j_idxz rfl rfl rfl rfl rfl ⟨by omega, by omega⟩ rfl rfl rfl ?_) | (refine j_kLen rfl ?_; first | refine j_len rfl rfl rfl rfl rfl rfl ?_ | refine j_op rfl rfl rfl rfl ?_) | (refine j_kCall rfl rfl rfl rfl ?_; first | refine jc (cL) (LeL.refl _) rfl rfl ?_ | refine jc (c_CutPrefix l0 pas8) (LeL.refl _) rfl rfl ?_ | refine jc (cP) (LeL.refl _) rfl rfl ?_ | refine jc (c_inRange _ _ _) (LeL.refl _) rfl rfl ?_) | (refine j_kStore rfl ?_; first | refine j_storeN 0 rfl rfl rfl rfl rfl rfl rfl rfl rfl rfl rfl ?_) | (refine j_kGuard rfl ?_; first | (refine (j_ifn rfl rfl rfl (fun hb => ?_) (fun hb => ?_)) <;> first | (exfalso; omega) | skip)) | refine j_build rfl rfl rfl rfl rfl rfl rfl ?_ | refine j_alloc rfl rfl rfl rfl rfl (fun _ => ?_))
      | refine j_nil ?_
      | (refine r_go ?_; first | refine run_seq ?_ | refine run_region ?_ | refine run_cond_t rfl ?_ | (refine (run_if rfl (fun hb => ?_) (fun hb => ?_)) <;> first | (exfalso; omega) | skip) | (refine (run_ifn rfl (fun hb => ?_) (fun hb => ?_)) <;> first | (exfalso; omega) | skip) | refine run_ret ?_ | refine run_skip ?_)
      | refine seqQ_normal ?_ | refine seqQ_ret ?_)
    · refine no (fun q => absurd (isPaT_ln q).1 (by assumption)) _ _ ?_; exact fin 5 _ _ _ _ _ rfl rfl rfl
    · refine no (fun q => hK (by have := (isPaT_ln q).2.2.1; rwa [ek] at this)) _ _ ?_; exact fin 5 _ _ _ _ _ rfl rfl rfl
  obtain ⟨n, hn⟩ : ∃ n : Nat, pIv (trimP pas8 l0) = (n : Int) := ⟨(pIv (trimP pas8 l0)).toNat, by omega⟩
  have ec := cPI_cons el hn
  rw [hn] at cP hK vI
  repeat' (first
      | (refine j_go ?_; first
        | refine j_op0 rfl rfl rfl rfl ?_ | refine j_off rfl rfl rfl ?_ | (refine j_kIdx rfl ?_; first | refine j_idxz rfl rfl rfl rfl rfl ⟨by omega, by omega⟩ rfl rfl rfl ?_) | (refine j_kLen rfl ?_; first | refine j_len rfl rfl rfl rfl rfl rfl ?_ | refine j_op rfl rfl rfl rfl ?_) | (refine j_kCall rfl rfl rfl rfl ?_; first | refine jc (cL) (LeL.refl _) rfl rfl ?_ | refine jc (c_CutPrefix l0 pas8) (LeL.refl _) rfl rfl ?_ | refine jc (cP) (LeL.refl _) rfl rfl ?_ | refine jc (c_inRange _ _ _) (LeL.refl _) rfl rfl ?_) | (refine j_kStore rfl ?_; first | refine j_storeN 0 rfl rfl rfl rfl rfl rfl rfl rfl rfl rfl rfl ?_) | (refine j_kGuard rfl ?_; first | (refine (j_ifn rfl rfl rfl (fun hb => ?_) (fun hb => ?_)) <;> first | (exfalso; omega) | skip)) | refine j_build rfl rfl rfl rfl rfl rfl rfl ?_ | refine j_alloc rfl rfl rfl rfl rfl (fun _ => ?_))
      | refine j_nil ?_
      | (refine r_go ?_; first | refine run_seq ?_ | refine run_region ?_ | refine run_cond_t rfl ?_ | (refine (run_if rfl (fun hb => ?_) (fun hb => ?_)) <;> first | (exfalso; omega) | skip) | (refine (run_ifn rfl (fun hb => ?_) (fun hb => ?_)) <;> first | (exfalso; omega) | skip) | refine run_ret ?_ | refine run_skip ?_)
      | refine seqQ_normal ?_ | refine seqQ_ret ?_)
  · refine no (fun q => absurd (isPaT_ln q).1 (by assumption)) _ _ ?_; exact fin 5 _ _ _ _ _ rfl rfl rfl
  have sl := spl_len 32 l1
  have s0 : 0 < (spl 32 l1).length := List.length_pos_iff.2 (spl_ne 32 l1)
  refine j_makeI (g := encB) (m := n) false rfl rfl rfl rfl rfl rfl rfl rfl rfl (by omega) rfl rfl (fun bf => ?_)
  repeat' (first
      | (refine j_go ?_; first
        | refine j_op0 rfl rfl rfl rfl ?_ | (refine j_kIdx rfl ?_; first | refine j_idxz rfl rfl rfl rfl rfl ⟨by omega, by omega⟩ rfl rfl rfl ?_) | (refine j_kLen rfl ?_; first | refine j_len rfl rfl rfl rfl rfl rfl ?_) | (refine j_kCall rfl rfl rfl rfl ?_; first | refine jc (c_Split l1 32 (by omega)) (LeL.refl _) rfl rfl ?_) | (refine j_kStore rfl ?_; first | refine j_storeN 0 rfl rfl rfl rfl rfl rfl rfl rfl rfl rfl rfl ?_) | (refine j_kSlice rfl ?_; first | refine j_tail 1 rfl rfl rfl rfl rfl (by omega) (fun _ => rfl) rfl rfl ?_) | refine j_build rfl rfl rfl rfl rfl rfl rfl ?_ | refine j_alloc rfl rfl rfl rfl rfl (fun _ => ?_))
      | refine j_nil ?_
      | (refine r_go ?_; first | refine run_seq ?_ | refine run_region ?_ | refine run_block ?_)
      | refine seqQ_normal ?_)
  rename_i b2 _ _ _ b10
  generalize hW : (spl 32 l1).drop 1 = W
  have Wl : W.length ≤ 1048576 := by rw [← hW, List.length_drop]; omega
  have Wm : ∀ x ∈ W, x.length ≤ 1048576 := fun x hx => by
    have := (spl_mem 32 l1 x (List.mem_of_mem_drop (by rw [hW]; exact hx))).1
    omega
  refine run_view (view_none 2 0 rfl) ?_
  refine run_loop (fun x : Nat × Option Nat × Nat => [(0, .str t), (2, .op (some b2) 0), (4, .sl ((l0 :: l1 :: l2 :: ls).map encW)), (8, .int (n : Int)), (10, .op (some b10) 0), (61, .sl (W.map encW)), (62, .int W.length), (63, .int (x.1 : Int))])
    (fun x => inB6 x.2.1 x.2.2 ((W.take x.1).map wP) :: paB b10 [.int (n : Int), .os x.2.1 ((W.take x.1).map wP).length x.2.2, .os (some bf) n n, .os none 0 0] :: ⟨some bf, 4, n * 1, ((List.replicate n false).map encB).flatten⟩ :: paB b2 [.int 0, .os none 0 0, .os none 0 0, .os none 0 0] :: F)
    (fun x => x.1 ≤ W.length) (fun x => W.length - x.1) (0, none, 0) ⟨rfl, rfl, rfl, rfl, rfl, rfl, rfl, rfl, trivial⟩ rfl (Nat.zero_le _) (fun ⟨k, ob, cp⟩ kl => ?_)
  dsimp only at kl ⊢
  by_cases hk : k < W.length
  case pos =>
    have wk := Wm _ (List.getElem_mem hk)
    have vk := pIv_in W[k]
    have ml : ((W.take k).map wP).length = k := by rw [List.length_map, List.length_take]; omega
    have eT : (W.take (k + 1)).map wP = (W.take k).map wP ++ [wP W[k]] := by rw [List.take_succ_eq_append_getElem hk, List.map_append]; rfl
    cases hp : pIok W[k] with
    | true =>
      have ew : wP W[k] = pIv W[k] := by unfold wP; rw [if_pos hp]
      rw [ew] at eT
      repeat' (first
      | (refine j_go ?_; first
        | refine j_op0 rfl rfl rfl rfl ?_ | (refine j_kIdx rfl ?_; first | refine j_idx rfl rfl rfl rfl rfl (by omega) rfl rfl rfl ?_) | (refine j_kBin rfl ?_; first | refine j_isnil rfl rfl rfl rfl (by first | exact .inl ⟨rfl, rfl⟩ | exact .inr ⟨rfl, rfl⟩) (by first | exact .inl ⟨rfl, rfl⟩ | exact .inr ⟨rfl, rfl⟩) rfl rfl ?_) | (refine j_kCall rfl rfl rfl rfl ?_; first | refine jc (c_PIok W[k] (by omega) hp) (LeL.refl _) rfl rfl ?_) | (refine j_kLoad rfl ?_; first | refine j_mload 1 rfl rfl rfl rfl rfl rfl rfl ?_) | (refine j_kBsl rfl ?_; first | refine j_bsl rfl rfl rfl rfl rfl rfl rfl rfl rfl rfl rfl ?_))
      | refine j_nil ?_
      | (refine r_go ?_; first | refine run_seq ?_ | refine run_region ?_ | refine run_cond_f rfl ?_ | (refine (run_if rfl (fun hb => ?_) (fun hb => ?_)) <;> first | (exfalso; omega) | skip) | refine run_block ?_ | refine run_skip ?_)
      | refine seqQ_normal ?_)
      refine j_append 0 (g := Go.AI.encI) [pIv W[k]] rfl rfl rfl rfl rfl rfl rfl rfl rfl rfl rfl rfl (fun _ => rfl) (fun _ _ => rfl) ⟨by simp only [List.length_cons, List.length_nil]; omega, by simp only [List.length_cons, List.length_nil]; omega⟩ rfl rfl (fun b' cap' => ?_)
      rw [← eT]
      repeat' (first
      | (refine j_go ?_; first
        | refine j_op0 rfl rfl rfl rfl ?_ | (refine j_kBin rfl ?_; first | refine j_in rfl rfl ⟨by omega, by omega⟩ rfl rfl ?_) | (refine j_kStore rfl ?_; first | refine j_store 1 rfl rfl rfl rfl rfl rfl rfl rfl rfl rfl rfl ?_))
      | refine j_nil ?_
      | (refine r_go ?_; first | refine run_region ?_)
      | refine seqQ_normal ?_ | refine blockQ_normal ?_)
      exact loopQ_next (k + 1, b', cap') (by dsimp only; omega) (by dsimp only; omega) rfl ⟨rfl, rfl, rfl, rfl, rfl, rfl, rfl, nx _, trivial⟩
    | false =>
      have ew : wP W[k] = -1 := by unfold wP; rw [if_neg (by rw [hp]; simp)]
      rw [ew] at eT
      repeat' (first
      | (refine j_go ?_; first
        | refine j_op0 rfl rfl rfl rfl ?_ | (refine j_kIdx rfl ?_; first | refine j_idx rfl rfl rfl rfl rfl (by omega) rfl rfl rfl ?_) | (refine j_kBin rfl ?_; first | refine j_isnil rfl rfl rfl rfl (by first | exact .inl ⟨rfl, rfl⟩ | exact .inr ⟨rfl, rfl⟩) (by first | exact .inl ⟨rfl, rfl⟩ | exact .inr ⟨rfl, rfl⟩) rfl rfl ?_) | (refine j_kCall rfl rfl rfl rfl ?_; first | refine jc (c_PIbad W[k] (by omega) hp) (LeL.refl _) rfl rfl ?_) | (refine j_kLoad rfl ?_; first | refine j_mload 1 rfl rfl rfl rfl rfl rfl rfl ?_) | (refine j_kBsl rfl ?_; first | refine j_bsl rfl rfl rfl rfl rfl rfl rfl rfl rfl rfl rfl ?_))
      | refine j_nil ?_
      | (refine r_go ?_; first | refine run_seq ?_ | refine run_region ?_ | refine run_cond_t rfl ?_ | (refine (run_if rfl (fun hb => ?_) (fun hb => ?_)) <;> first | (exfalso; omega) | skip) | refine run_block ?_ | refine run_skip ?_)
      | refine seqQ_normal ?_)
      refine j_append 0 (g := Go.AI.encI) [-1] rfl rfl rfl rfl rfl rfl rfl rfl rfl rfl rfl rfl (fun _ => rfl) (fun _ _ => rfl) ⟨by simp only [List.length_cons, List.length_nil]; omega, by simp only [List.length_cons, List.length_nil]; omega⟩ rfl rfl (fun b' cap' => ?_)
      rw [← eT]
      repeat' (first
      | (refine j_go ?_; first
        | refine j_op0 rfl rfl rfl rfl ?_ | (refine j_kBin rfl ?_; first | refine j_in rfl rfl ⟨by omega, by omega⟩ rfl rfl ?_) | (refine j_kStore rfl ?_; first | refine j_store 1 rfl rfl rfl rfl rfl rfl rfl rfl rfl rfl rfl ?_))
      | refine j_nil ?_
      | (refine r_go ?_; first | refine run_region ?_)
      | refine seqQ_normal ?_ | refine blockQ_normal ?_)
      exact loopQ_next (k + 1, b', cap') (by dsimp only; omega) (by dsimp only; omega) rfl ⟨rfl, rfl, rfl, rfl, rfl, rfl, rfl, nx _, trivial⟩
  have hke : k = W.length := by omega
  subst hke
  rw [List.take_length]
  have eP : W.map wP = parI l1 := by unfold parI; rw [hW]
  rw [eP]
  repeat' (first
      | (refine j_go ?_; first
        | refine j_op0 rfl rfl rfl rfl ?_ | (refine j_kLen rfl ?_; first | refine j_op rfl rfl rfl rfl ?_) | (refine j_kLoad rfl ?_; first | refine j_mload 1 rfl rfl rfl rfl rfl rfl rfl ?_))
      | refine j_nil ?_
      | (refine r_go ?_; first | refine run_seq ?_ | refine run_region ?_ | (refine (run_if rfl (fun hb => ?_) (fun hb => ?_)) <;> first | (exfalso; omega) | skip) | refine run_block ?_ | refine run_exit ?_)
      | refine seqQ_normal ?_ | refine seqQ_exit ?_ | refine blockQ_eq ?_ | refine loopQ_exit ?_)
  refine run_loop (fun j : Nat => [(0, .str t), (2, .op (some b2) 0), (4, .sl ((l0 :: l1 :: l2 :: ls).map encW)), (8, .int (n : Int)), (10, .op (some b10) 0), (83, .int (n : Int)), (84, .int (j : Int))])
    (fun j => inB6 ob cp (parI l1) :: paB b10 [.int (n : Int), .os ob (parI l1).length cp, .os (some bf) n n, .os none 0 0] :: ⟨some bf, 4, n * 1, ((frP n l2 j).map encB).flatten⟩ :: paB b2 [.int 0, .os none 0 0, .os none 0 0, .os none 0 0] :: F)
    (fun j => j ≤ n) (fun j => n - j) 0 ⟨rfl, rfl, rfl, rfl, rfl, rfl, rfl, trivial⟩ (by rw [frP_zero]) (Nat.zero_le _) (fun j jl => ?_)
  have fpl := frP_len n l2 j
  by_cases hj : j < n
  case pos =>
    repeat' (first
      | (refine j_go ?_; first
        | refine j_op0 rfl rfl rfl rfl ?_)
      | refine j_nil ?_
      | (refine j_goO ?_; first
        | refine j_op0O rfl rfl rfl rfl ?_ | (refine j_kIdxO rfl ?_; first | refine j_midxO rfl rfl rfl rfl rfl (by first | omega | (simp only [List.length_append, List.length_cons, List.length_nil]; omega)) rfl rfl ?_ | refine j_idxzO rfl rfl rfl rfl rfl ⟨by omega, by omega⟩ rfl rfl rfl ?_) | (refine j_kBinO rfl ?_; first | refine j_inO rfl rfl ⟨by omega, by omega⟩ rfl rfl ?_) | (refine j_kLenO rfl ?_; first | refine j_opO rfl rfl rfl rfl ?_) | (refine j_kCallO rfl rfl rfl rfl ?_; first | refine jcO (c_Contains _ _) (LeL.refl _) rfl rfl ?_) | (refine j_kLoadO rfl ?_; first | refine j_mloadO 1 rfl rfl rfl rfl rfl rfl rfl rfl ?_) | (refine j_kBslO rfl ?_; first | refine j_bslO rfl rfl rfl rfl rfl rfl rfl rfl rfl rfl rfl ?_) | (refine j_kSliceO rfl ?_; first | refine j_ssO rfl rfl rfl rfl rfl rfl (by omega) rfl rfl ?_) | refine j_convBO rfl rfl rfl rfl rfl (by omega) rfl rfl ?_ | refine j_b2s1O rfl rfl rfl rfl rfl rfl rfl rfl ?_)
      | (refine r_go ?_; first | refine run_seq ?_ | refine run_region ?_ | (refine (run_if rfl (fun hb => ?_) (fun hb => ?_)) <;> first | (exfalso; omega) | skip) | refine run_block ?_ | refine run_skip ?_ | refine run_opn 22 [⟨0, true, false, 0⟩, ⟨1, true, false, 0⟩, ⟨2, true, false, 0⟩, ⟨3, true, false, 0⟩, ⟨4, true, false, 0⟩, ⟨5, true, false, 0⟩, ⟨6, true, false, 0⟩, ⟨7, true, false, 0⟩, ⟨8, true, false, 0⟩, ⟨9, true, false, 0⟩, ⟨10, true, false, 0⟩, ⟨11, true, false, 0⟩, ⟨12, true, false, 0⟩, ⟨13, true, false, 0⟩, ⟨14, true, false, 0⟩, ⟨15, true, false, 0⟩, ⟨16, true, false, 0⟩, ⟨17, true, false, 0⟩, ⟨18, true, false, 0⟩, ⟨19, false, true, 0⟩] rfl rfl (by kernel_rfl) ?_)
      | refine seqQ_normal ?_)
    have em : (UInt8.ofNat (97 + (j : Int)).toNat ∈ (l2.take (l2.length : Int).toNat).drop (min 5 (l2.length : Int)).toNat) ↔ (UInt8.ofNat (97 + j) ∈ l2.drop 5) := by
      rw [min_drop, show (97 + (j : Int)).toNat = 97 + j from by omega]
    refine j_storeEO 2 j (g := encB) (decide (UInt8.ofNat (97 + (j : Int)).toNat ∈ (l2.take (l2.length : Int).toNat).drop (min 5 (l2.length : Int)).toNat)) rfl rfl rfl rfl rfl rfl rfl rfl rfl rfl (fun _ => rfl) (by omega) (by omega) (fun _ hk => nomatch hk) ?_
    rw [decide_eq_decide.2 em, frP_set hj]
    repeat' (first
      | (refine j_go ?_; first
        | refine j_op0 rfl rfl rfl rfl ?_ | (refine j_kBin rfl ?_; first | refine j_in rfl rfl ⟨by omega, by omega⟩ rfl rfl ?_))
      | refine j_nil ?_
      | refine j_nilO ?_
      | (refine r_go ?_; first | refine run_region ?_)
      | refine seqQ_normal ?_ | refine blockQ_normal ?_)
    exact loopQ_next (j + 1) (by omega) (by omega) rfl ⟨rfl, rfl, rfl, rfl, rfl, rfl, nx _, trivial⟩
  have hje : n = j := by omega
  subst hje
  rw [frP_all]
  repeat' (first
      | (refine j_go ?_; first
        | refine j_op0 rfl rfl rfl rfl ?_)
      | refine j_nil ?_
      | (refine r_go ?_; first | refine run_seq ?_ | refine run_region ?_ | (refine (run_if rfl (fun hb => ?_) (fun hb => ?_)) <;> first | (exfalso; omega) | skip) | refine run_exit ?_)
      | refine seqQ_normal ?_ | refine seqQ_exit ?_ | refine blockQ_eq ?_ | refine loopQ_exit ?_)
  refine j_tail 3 rfl rfl rfl rfl rfl (by omega) (fun _ => rfl) rfl rfl ?_
  repeat' (first
      | (refine j_go ?_; first
        | refine j_op0 rfl rfl rfl rfl ?_ | (refine j_kLen rfl ?_; first | refine j_len rfl rfl rfl rfl rfl rfl ?_))
      | refine j_nil ?_
      | (refine r_go ?_; first | refine run_block ?_)
      | refine seqQ_normal ?_)
  refine run_view (view_none 75 (0 * 3) rfl) ?_
  refine run_view (view_perm (List.Perm.cons _ (List.Perm.swap _ _ _))) ?_
  have lsl : ls.length ≤ 4000 := by simp only [List.length_cons] at ln; omega
  refine run_loop (fun x : (Nat × List (Cells 3) × List Heap) × Option Nat × Nat => [(0, .str t), (2, .op (some b2) 0), (8, .int (n : Int)), (10, .op (some b10) 0), (108, .sl (ls.map encW)), (109, .int ls.length), (110, .int (x.1.1 : Int))])
    (fun x => ⟨x.2.1, 75, x.2.2 * 3, (x.1.2.1.map Subtype.val).flatten⟩ :: paB b10 [.int (n : Int), .os ob (parI l1).length cp, .os (some bf) n n, .os x.2.1 x.1.2.1.length x.2.2] :: inB6 ob cp (parI l1) :: ⟨some bf, 4, n * 1, ((frI n l2).map encB).flatten⟩ :: paB b2 [.int 0, .os none 0 0, .os none 0 0, .os none 0 0] :: (x.1.2.2.flatten ++ F))
    (fun x => x.1.1 ≤ ls.length ∧ RBP ((ls.take x.1.1).map (rulI n)) x.1.2.1 x.1.2.2) (fun x => ls.length - x.1.1) ((0, [], []), none, 0) ⟨rfl, rfl, rfl, rfl, rfl, rfl, rfl, trivial⟩ rfl ⟨Nat.zero_le _, RBP.nil⟩ (fun ⟨⟨k, css, hs⟩, or_, cr⟩ ⟨kl, R⟩ => ?_)
  dsimp only at kl R ⊢
  have Ll : ((ls.take k).map (rulI n)).length = k := by rw [List.length_map, List.length_take]; omega
  have r1 := R.l1
  by_cases hk : k < ls.length
  case pos =>
    have wl := (lw ls[k] (by simp)).1
    have n8 : 1 ≤ n ∧ n ≤ 8 := by omega
    have k0 := cut_len ls[k] pass5
    have k1 := cut_len (cu0 ls[k]).2.1 [32]
    have k2 := cut_len (cu1 ls[k]).2.1 sl3
    repeat' (first
      | (refine j_go ?_; first
        | refine j_op0 rfl rfl rfl rfl ?_ | (refine j_kIdx rfl ?_; first | refine j_idx rfl rfl rfl rfl rfl (by omega) rfl rfl rfl ?_) | refine j_build rfl rfl rfl rfl rfl rfl rfl ?_)
      | refine j_nil ?_
      | (refine r_go ?_; first | refine run_seq ?_ | refine run_region ?_ | (refine (run_if rfl (fun hb => ?_) (fun hb => ?_)) <;> first | (exfalso; omega) | skip) | refine run_block ?_ | refine run_skip ?_)
      | refine seqQ_normal ?_)
    refine j_boxM rfl rfl rfl rfl rfl rfl (fun br => ?_)
    repeat' (first
      | (refine j_go ?_; first
        | refine j_op0 rfl rfl rfl rfl ?_)
      | refine j_nil ?_
      | (refine r_go ?_; first | refine run_seq ?_ | refine run_region ?_)
      | refine seqQ_normal ?_)
    refine j_kCall rfl rfl rfl rfl ?_
    refine jcp _ (o_upTo br ls[k] pass5 false (by omega)) (List.Perm.refl _) (LeL.refl _) rfl rfl (fun v hx hR => ?_)
    obtain ⟨rfl, rfl⟩ := hR
    repeat' (first
      | (refine j_go ?_; first
        | refine j_op0 rfl rfl rfl rfl ?_)
      | refine j_nil ?_
      | (refine r_go ?_; first | refine run_seq ?_ | refine run_region ?_)
      | refine seqQ_normal ?_)
    refine j_kCall rfl rfl rfl rfl ?_
    refine jcp _ (o_number br (cu0 ls[k]).2.1 [32] (false || !(cu0 ls[k]).2.2) (by unfold cu0; omega)) (List.Perm.refl _) (LeL.refl _) rfl rfl (fun v hx hR => ?_)
    obtain ⟨rfl, rfl⟩ := hR
    repeat' (first
      | (refine j_go ?_; first
        | refine j_op0 rfl rfl rfl rfl ?_ | (refine j_kStore rfl ?_; first | refine j_storeN 0 rfl rfl rfl rfl rfl rfl rfl rfl rfl rfl rfl ?_) | refine j_build rfl rfl rfl rfl rfl rfl rfl ?_ | refine j_alloc rfl rfl rfl rfl rfl (fun _ => ?_))
      | refine j_nil ?_
      | (refine r_go ?_; first | refine run_seq ?_ | refine run_region ?_)
      | refine seqQ_normal ?_)
    rename_i b19
    refine j_kCall rfl rfl rfl rfl ?_
    refine jcp _ (o_upTo br (cu1 ls[k]).2.1 sl3 (((false || !(cu0 ls[k]).2.2) || !(cu1 ls[k]).2.2) || !pIok (cu1 ls[k]).1) (by unfold cu1 cu0; unfold cu0 at k1; omega)) (List.Perm.swap _ _ _) (LeL.refl _) rfl rfl (fun v hx hR => ?_)
    obtain ⟨rfl, rfl⟩ := hR
    refine j_kCall rfl rfl rfl rfl ?_
    refine jcp _ (o_bag br n (cu2 ls[k]).2.1 (cu2 ls[k]).1 ((((false || !(cu0 ls[k]).2.2) || !(cu1 ls[k]).2.2) || !pIok (cu1 ls[k]).1) || !(cu2 ls[k]).2.2) n8 (by unfold cu2 cu1 cu0; unfold cu1 cu0 at k2; unfold cu0 at k1; omega)) (List.Perm.refl _) (LeL.refl _) rfl rfl (fun v hx hR => ?_)
    obtain ⟨h1, ob1, m1, cp1, rfl, rfl, hro1⟩ := hR
    refine j_view (view_perm (pm7 _ _ _ _ _ _ _ _ _)) ?_
    repeat' (first
      | (refine j_go ?_; first
        | refine j_op0 rfl rfl rfl rfl ?_ | (refine j_kLoad rfl ?_; first | refine j_mload 1 rfl rfl rfl rfl rfl rfl rfl ?_) | (refine j_kStore rfl ?_; first | refine j_store 0 rfl rfl rfl rfl rfl rfl rfl rfl rfl rfl rfl ?_))
      | refine j_nil ?_
      | (refine r_go ?_; first | refine run_seq ?_ | refine run_region ?_)
      | refine seqQ_normal ?_)
    refine j_kCall rfl rfl rfl rfl ?_
    refine jcp _ (o_bag br n (cu2 ls[k]).2.1 (cu2 ls[k]).2.1 (((((false || !(cu0 ls[k]).2.2) || !(cu1 ls[k]).2.2) || !pIok (cu1 ls[k]).1) || !(cu2 ls[k]).2.2) || !dec (IsBagT n (cu2 ls[k]).1)) n8 (by unfold cu2 cu1 cu0; unfold cu1 cu0 at k2; unfold cu0 at k1; omega)) (List.Perm.swap _ _ _) (LeL.refl _) rfl rfl (fun v hx hR => ?_)
    obtain ⟨h2, ob2, m2, cp2, rfl, rfl, hro2⟩ := hR
    refine j_view (view_perm (pm7 _ _ _ _ _ _ _ _ _)) ?_
    by_cases hok : okI n ls[k]
    case neg =>
      have hb5 := b5_bad hok
      unfold b5 at hb5
      rw [hb5]
      repeat' (first
      | (refine j_go ?_; first
        | refine j_op0 rfl rfl rfl rfl ?_ | (refine j_kLoad rfl ?_; first | refine j_mload 1 rfl rfl rfl rfl rfl rfl rfl ?_) | (refine j_kStore rfl ?_; first | refine j_store 0 rfl rfl rfl rfl rfl rfl rfl rfl rfl rfl rfl ?_) | refine j_build rfl rfl rfl rfl rfl rfl rfl ?_)
      | refine j_nil ?_
      | (refine r_go ?_; first | refine run_seq ?_ | refine run_region ?_ | refine run_cond_t rfl ?_)
      | refine seqQ_normal ?_)
      refine j_view (view_sub (h0 := paB b2 [.int 0, .os none 0 0, .os none 0 0, .os none 0 0] :: F) ?_) ?_
      · refine List.Sublist.cons _ (List.Sublist.cons _ (List.Sublist.cons _ (List.Sublist.cons _ (List.Sublist.cons _ (List.Sublist.cons _ (List.Sublist.cons_cons _ ?_))))))
        exact ((List.sublist_append_right hs.flatten F).trans (List.sublist_append_right h1 _)).trans (List.sublist_append_right h2 _)
      repeat' (first
      | (refine j_go ?_; first
        | refine j_op0 rfl rfl rfl rfl ?_ | (refine j_kStore rfl ?_; first | refine j_storeN 0 rfl rfl rfl rfl rfl rfl rfl rfl rfl rfl rfl ?_))
      | refine j_nil ?_
      | (refine r_go ?_; first | refine run_ret ?_)
      | refine seqQ_normal ?_ | refine seqQ_ret ?_ | refine blockQ_ret ?_ | refine loopQ_ret ?_)
      refine no (fun q => hok ?_) _ _ ?_
      · have := (isPaT_ln q).2.2.2.1 ls[k] (by rw [el]; simp)
        rw [ec] at this
        simpa using this
      · exact fin 5 _ _ _ _ _ rfl rfl rfl
    have hb5 := b5_ok hok
    unfold b5 at hb5
    rw [hb5]
    have q1 := hro1 hok.2.2.2.2.1
    have q2 := hro2 hok.2.2.2.2.2
    repeat' (first
      | (refine j_go ?_; first
        | refine j_op0 rfl rfl rfl rfl ?_ | (refine j_kLoad rfl ?_; first | refine j_mload 0 rfl rfl rfl rfl rfl rfl rfl ?_ | refine j_mload 1 rfl rfl rfl rfl rfl rfl rfl ?_ | refine j_mload 3 rfl rfl rfl rfl rfl rfl rfl ?_) | (refine j_kStore rfl ?_; first | refine j_store 0 rfl rfl rfl rfl rfl rfl rfl rfl rfl rfl rfl ?_) | (refine j_kBsl rfl ?_; first | refine j_bsl rfl rfl rfl rfl rfl rfl rfl rfl rfl rfl rfl ?_))
      | refine j_nil ?_
      | (refine r_go ?_; first | refine run_seq ?_ | refine run_region ?_ | refine run_cond_f rfl ?_ | refine run_skip ?_)
      | refine seqQ_normal ?_)
    refine j_append 2 (g := Subtype.val) (ys := css) [(⟨[.int (pIv (cu1 ls[k]).1), .os ob1 m1 cp1, .os ob2 m2 cp2], rfl⟩ : Cells 3)] rfl rfl rfl rfl rfl rfl rfl rfl rfl rfl rfl rfl (fun y => y.2) (fun _ hy => by simp only [List.mem_singleton] at hy; subst hy; rfl) ⟨by simp only [List.length_cons, List.length_nil]; omega, by simp only [List.length_cons, List.length_nil]; omega⟩ rfl rfl (fun ob' cp' => ?_)
    repeat' (first
      | (refine j_go ?_; first
        | refine j_op0 rfl rfl rfl rfl ?_ | (refine j_kBin rfl ?_; first | refine j_in rfl rfl ⟨by omega, by omega⟩ rfl rfl ?_) | (refine j_kStore rfl ?_; first | refine j_store 3 rfl rfl rfl rfl rfl rfl rfl rfl rfl rfl rfl ?_))
      | refine j_nil ?_
      | (refine r_go ?_; first | refine run_region ?_)
      | refine seqQ_normal ?_ | refine blockQ_normal ?_)
    refine loopQ_view (view_erase 0) ?_
    refine loopQ_view (view_erase 0) ?_
    refine loopQ_view (view_perm (pm5 _ _ _ _ _ h2 h1 hs F)) ?_
    refine loopQ_next ((k + 1, css ++ [(⟨[.int (pIv (cu1 ls[k]).1), .os ob1 m1 cp1, .os ob2 m2 cp2], rfl⟩ : Cells 3)], hs ++ [h1 ++ h2]), ob', cp') ⟨by dsimp only; omega, ?_⟩ (by dsimp only; omega) rfl ⟨rfl, rfl, rfl, rfl, rfl, rfl, nx _, trivial⟩
    dsimp only
    rw [List.take_succ_eq_append_getElem hk, List.map_append]
    exact R.snoc ⟨_, h1, q1, _, h2, q2, rfl, rfl⟩
  have hke : k = ls.length := by omega
  subst hke
  rw [List.take_length] at R
  have fl : (frI n l2).length = n := by rw [← frP_all, frP_len]
  have ro : ROPassing (cPI t) (.agg [.int (n : Int), .os ob (parI l1).length cp, .os (some bf) n n, .os or_ css.length cr]) ([inB6 ob cp (parI l1)] ++ ([⟨some bf, 4, n * 1, ((frI n l2).map encB).flatten⟩] ++ (⟨or_, 75, cr * 3, (css.map Subtype.val).flatten⟩ :: hs.flatten))) := by
    rw [ec]
    refine ⟨_, _, .inl ⟨ob, cp, rfl, rfl⟩, .os (some bf) n n, _, .inl ⟨some bf, n, by rw [fl], rfl⟩, _, _, .inl ⟨or_, cr, css, hs, R.l1, R.l2, R.all, rfl, rfl⟩, ?_, rfl⟩
    rw [R.l1]
  have t0 : t ≠ [] := fun q => by rw [q] at el; cases el
  have cT := gT (c_iPassingText (cPI t))
  repeat' (first
      | (refine j_go ?_; first
        | refine j_op0 rfl rfl rfl rfl ?_ | (refine j_kLoad rfl ?_; first | refine j_mload 1 rfl rfl rfl rfl rfl rfl rfl ?_))
      | refine j_nil ?_
      | (refine r_go ?_; first | refine run_seq ?_ | refine run_region ?_ | (refine (run_if rfl (fun hb => ?_) (fun hb => ?_)) <;> first | (exfalso; omega) | skip) | refine run_exit ?_)
      | refine seqQ_normal ?_ | refine seqQ_exit ?_ | refine blockQ_eq ?_ | refine loopQ_exit ?_)
  refine j_kCall rfl rfl rfl rfl ?_
  refine jctq ([inB6 ob cp (parI l1)] ++ ([⟨some bf, 4, n * 1, ((frI n l2).map encB).flatten⟩] ++ (⟨or_, 75, cr * 3, (css.map Subtype.val).flatten⟩ :: hs.flatten))) cT (clo_str _) (fun k hk => by
    simp only [List.mem_append, List.mem_cons, List.not_mem_nil, or_false, List.cons_append, List.nil_append] at hk ⊢
    rcases hk with hk | hk | hk | hk <;> simp [hk]) (FrzL.cons ro.frz (FrzL.nil _)) rfl rfl ?_
  repeat' (first
      | (refine j_go ?_; first
        | refine j_op0 rfl rfl rfl rfl ?_ | (refine j_kLoad rfl ?_; first | refine j_mload 1 rfl rfl rfl rfl rfl rfl rfl ?_) | refine j_build rfl rfl rfl rfl rfl rfl rfl ?_)
      | refine j_nil ?_
      | (refine r_go ?_; first | refine run_seq ?_ | refine run_region ?_ | (refine (run_ifn rfl (fun hb => ?_) (fun hb => ?_)) <;> first | (exfalso; omega) | skip) | refine run_skip ?_)
      | refine seqQ_normal ?_)
  · refine j_view (view_sub (h0 := paB b2 [.int 0, .os none 0 0, .os none 0 0, .os none 0 0] :: F) ?_) ?_
    · exact List.Sublist.cons _ (List.Sublist.cons _ (List.Sublist.cons _ (List.Sublist.cons _ (List.Sublist.cons_cons _ (List.sublist_append_right hs.flatten F)))))
    repeat' (first
      | (refine j_go ?_; first
        | refine j_op0 rfl rfl rfl rfl ?_ | (refine j_kStore rfl ?_; first | refine j_storeN 0 rfl rfl rfl rfl rfl rfl rfl rfl rfl rfl rfl ?_))
      | refine j_nil ?_
      | (refine r_go ?_; first | refine run_ret ?_)
      | refine seqQ_normal ?_ | refine seqQ_ret ?_)
    refine no (cPI_not (by assumption)) _ _ ?_
    exact fin 5 _ _ _ _ _ rfl rfl rfl
  · have q := cPI_is t0 (by assumption)
    rw [(rp_yes q).1, (rp_yes q).2]
    refine j_storeN 4 rfl rfl rfl rfl rfl rfl rfl rfl (show [A.int (n : Int), A.os ob (parI l1).length cp, A.os (some bf) n n, A.os or_ css.length cr].all okCell = true from rfl) rfl rfl ?_
    repeat' (first
      | (refine j_go ?_; first
        | refine j_op0 rfl rfl rfl rfl ?_)
      | refine j_nil ?_
      | (refine r_go ?_; first | refine run_ret ?_)
      | refine seqQ_normal ?_)
    refine endD_view (view_freezeP 4 2 rfl rfl) ?_
    refine endD_view (view_erase 1) ?_
    refine endD_view (view_perm (h' := ([inB6 ob cp (parI l1)] ++ ([⟨some bf, 4, n * 1, ((frI n l2).map encB).flatten⟩] ++ (⟨or_, 75, cr * 3, (css.map Subtype.val).flatten⟩ :: hs.flatten))) ++ F) (by change List.Perm (_ :: _ :: _ :: (hs.flatten ++ F)) (_ :: _ :: _ :: (hs.flatten ++ F)); exact pm3 _ _ _ _)) ?_
    exact endD_ret rfl (.cons (.cellI rfl rfl) (.cons (.tmp rfl) .nil)) (Le.refl _) ⟨_, rfl, ro⟩ (.inl rfl)
end Go.Proofs.YtmcljepicadjfaaGreatDoor
