/-
  Formulas read from texts: ReadCnf of the program. No condition but that the text is not longer than a machine holds.
-/
import Derived.Test.YtmcljepicadjfaaDoorZRh
import Derived.Test.YtmcljepicadjfaaDoorZT
import Derived.Handed
import Derived.LaidLaws
import Derived.Lib.LaidU8
import Derived.Shelf.Vars
namespace Go.Proofs.YtmcljepicadjfaaDoor
open Go.AI Go.RowKit
set_option maxRecDepth 8000
set_option maxHeartbeats 1600000
theorem clo_str (s : List UInt8) : Clo (.str s) := fun S w S' w' v r => by
  obtain ⟨rfl, hl⟩ := r.str_inv
  exact .str s hl
/-- Rows of the call's own. -/
def RowsC (L : List (List Int)) (vs : List A) (hs : List Heap) : Prop := vs.length = L.length ∧ hs.length = L.length ∧ ∀ i (h0 : i < L.length) (h1 : i < vs.length) (h2 : i < hs.length), ROI L[i] vs[i] hs[i]
theorem RowsC.nil : RowsC [] [] [] := ⟨rfl, rfl, fun i h => absurd h (Nat.not_lt_zero _)⟩
theorem RowsC.snoc {L : List (List Int)} {vs : List A} {hs : List Heap} (o : RowsC L vs hs) {l : List Int} {v : A} {h : Heap} (q : ROI l v h) : RowsC (L ++ [l]) (vs ++ [v]) (hs ++ [h]) := by
  obtain ⟨r1, r2, r3⟩ := o
  refine ⟨by rw [List.length_append, List.length_append, r1]; rfl, by rw [List.length_append, List.length_append, r2]; rfl, fun i q1 q2 q3 => ?_⟩
  by_cases z : i < L.length
  · simp only [List.getElem_append_left z, List.getElem_append_left (show i < vs.length by omega), List.getElem_append_left (show i < hs.length by omega)]
    exact r3 i z _ _
  · have e : i = L.length := by rw [List.length_append, List.length_singleton] at q1; omega
    subst e
    simp only [List.getElem_append_right (Nat.le_refl _), List.getElem_append_right (show vs.length ≤ L.length by omega), List.getElem_append_right (show hs.length ≤ L.length by omega), List.getElem_singleton]
    simpa [r1, r2] using q
theorem RowsC.ii {L : List (List Int)} {vs : List A} {hs : List Heap} (o : RowsC L vs hs) (ob : Option Nat) (cap : Nat) : ROII L (.os ob L.length cap) (⟨ob, 36, cap * 1, (vs.map fun a => [a]).flatten⟩ :: hs.flatten) := .inl ⟨ob, cap, vs, hs, o.1, o.2.1, o.2.2, rfl, rfl⟩
theorem pre_take {p s : List UInt8} : (s.take p.length).drop 0 = p ↔ p.isPrefixOf s = true := by
  rw [List.drop_zero, List.isPrefixOf_iff_prefix]
  exact ⟨fun q => by rw [← q]; exact List.take_prefix _ _, fun ⟨t, q⟩ => by rw [← q]; simp⟩
theorem c_HasPrefix (s p : List UInt8) : Gives Tryd.prog 37 [.str s, .str p] (.raw (.bool (dec (p.isPrefixOf s = true)))) := by
  refine fn_of_run tyOk ztOk mix Tryd.func37 rfl (by decide) Tryd.ntmps37 (fun w0 h => ?_)
  repeat' (first
      | (refine j_go ?_; first
        | refine j_op0 rfl rfl rfl rfl ?_ | refine j_off rfl rfl rfl ?_ | (refine j_kLen rfl ?_; first | refine j_op rfl rfl rfl rfl ?_) | (refine j_kSlice rfl ?_; first | refine j_ss rfl rfl rfl rfl rfl rfl (by omega) rfl rfl ?_) | (refine j_kGuard rfl ?_; first | (refine (j_if rfl rfl rfl (fun hb => ?_) (fun hb => ?_)) <;> first | (exfalso; omega) | skip)))
      | refine j_nil ?_
      | (refine r_go ?_; first | refine run_seq ?_ | refine run_region ?_ | refine run_ret ?_)
      | refine seqQ_normal ?_)
  · exact end1 rfl (List.Sublist.refl _) (by rw [Int.toNat_natCast, dec_congr (show (s.take p.length).drop (Int.toNat 0) = p ↔ _ from pre_take)]) (.inl rfl)
  · exact end1 rfl (List.Sublist.refl _) (rbF fun q => by have := (List.isPrefixOf_iff_prefix.1 q).length_le; omega) (.inl rfl)
theorem c_CutPrefix0 (s p : List UInt8) : Gives Tryd.prog 28 [.str s, .str p] (.tup [.str (trimP p s), .raw (.bool (dec (p.isPrefixOf s = true)))]) := by
  refine fn_of_run tyOk ztOk mix Tryd.func28 rfl (by decide) Tryd.ntmps28 (fun w0 h => ?_)
  repeat' (first
      | (refine j_go ?_; first
        | refine j_op0 rfl rfl rfl rfl ?_ | (refine j_kLen rfl ?_; first | refine j_op rfl rfl rfl rfl ?_) | (refine j_kCall rfl rfl rfl rfl ?_; first | refine jc (c_HasPrefix s p) (LeL.refl _) rfl rfl ?_))
      | refine j_nil ?_
      | (refine r_go ?_; first | refine run_seq ?_ | refine run_region ?_ | (refine (run_ifn rfl (fun hb => ?_) (fun hb => ?_)) <;> first | (exfalso; omega) | skip) | refine run_ret ?_ | refine run_skip ?_)
      | refine seqQ_normal ?_ | refine seqQ_ret ?_)
  · have q : ¬ p.isPrefixOf s = true := by assumption
    exact end2 rfl rfl (List.Sublist.refl _) (by rw [dec_f q]; unfold trimP; rw [if_neg q]; rfl) (.inl rfl)
  · have q : p.isPrefixOf s = true := by assumption
    have ql := (List.isPrefixOf_iff_prefix.1 q).length_le
    repeat' (first
      | (refine j_go ?_; first
        | refine j_op0 rfl rfl rfl rfl ?_ | (refine j_kSlice rfl ?_; first | refine j_ss rfl rfl rfl rfl rfl rfl (by omega) rfl rfl ?_))
      | refine j_nil ?_
      | (refine r_go ?_; first | refine run_ret ?_)
      | refine seqQ_normal ?_)
    exact end2 rfl rfl (List.Sublist.refl _) (by rw [dec_t q]; unfold trimP; rw [if_pos q, Int.toNat_natCast, Int.toNat_natCast, List.take_length]; rfl) (.inl rfl)
theorem c_CutPrefix (s p : List UInt8) : Gives Tryd.prog 16 [.str s, .str p] (.tup [.str (trimP p s), .raw (.bool (dec (p.isPrefixOf s = true)))]) := by
  refine fn_of_run tyOk ztOk mix Tryd.func16 rfl (by decide) Tryd.ntmps16 (fun w0 h => ?_)
  repeat' (first
      | (refine j_go ?_; first
        | refine j_op0 rfl rfl rfl rfl ?_ | (refine j_kCall rfl rfl rfl rfl ?_; first | refine jc (c_CutPrefix0 s p) (LeL.refl _) rfl rfl ?_))
      | refine j_nil ?_
      | (refine r_go ?_; first | refine run_seq ?_ | refine run_region ?_ | refine run_ret ?_)
      | refine seqQ_normal ?_)
  exact end2 rfl rfl (List.Sublist.refl _) rfl (.inl rfl)
theorem c_linesOf (s : List UInt8) (hs : s.length ≤ 1048576) : Gives Tryd.prog 15 [.str s] (.tup [.sl ((lnW s).map encW), .raw (.bool (dec (lnE s = [])))]) := by
  refine fn_of_run tyOk ztOk mix Tryd.func15 rfl (by decide) Tryd.ntmps15 (fun w0 h => ?_)
  have cS := c_Split s 10 (by omega)
  rw [ln_eq] at cS
  have ll := lnW_len s
  have hl : (lnW s ++ [lnE s]).length = (lnW s).length + 1 := by simp
  repeat' (first
      | (refine j_go ?_; first
        | refine j_op0 rfl rfl rfl rfl ?_ | (refine j_kIdx rfl ?_; first | refine j_idxz rfl rfl rfl rfl rfl ⟨by omega, by omega⟩ rfl rfl rfl ?_) | (refine j_kBin rfl ?_; first | refine j_in rfl rfl ⟨by omega, by omega⟩ rfl rfl ?_) | (refine j_kLen rfl ?_; first | refine j_len rfl rfl rfl rfl rfl rfl ?_) | (refine j_kCall rfl rfl rfl rfl ?_; first | refine jc (cS) (LeL.refl _) rfl rfl ?_) | (refine j_kSlice rfl ?_; first | refine j_slice rfl rfl rfl rfl rfl rfl (by omega) (fun _ => rfl) rfl rfl ?_))
      | refine j_nil ?_
      | (refine r_go ?_; first | refine run_seq ?_ | refine run_region ?_ | refine run_ret ?_ | refine run_regionD (by kernel_rfl) ?_)
      | refine seqQ_normal ?_)
  have e1 : ((lnW s ++ [lnE s]).take (((lnW s ++ [lnE s]).length : Int) - 1).toNat).drop (Int.toNat 0) = lnW s := by
    rw [hl, show (((lnW s).length + 1 : Nat) : Int) - 1 = ((lnW s).length : Int) from by omega, Int.toNat_natCast]; simp
  have e2 : ∀ (q : (((lnW s ++ [lnE s]).length : Int) - 1).toNat < (lnW s ++ [lnE s]).length), (lnW s ++ [lnE s])[(((lnW s ++ [lnE s]).length : Int) - 1).toNat] = lnE s := fun q => by
    have e : (((lnW s ++ [lnE s]).length : Int) - 1).toNat = (lnW s).length := by rw [hl]; omega
    simp only [e]; simp
  exact end2 rfl rfl (List.Sublist.refl _) (by rw [e1, e2]) (.inl rfl)
/-- What ReadCnf hands back. -/
def CnfR (c : Cnf) (cd : Int) (v : A) (h : Heap) : Prop := ∃ a, v = .tup [a, .int cd] ∧ ROCnf c a h
theorem CnfR.nil {cd : Int} : CnfR ⟨0, []⟩ cd (.tup [.agg [.int 0, .sl []], .int cd]) [] := ⟨_, rfl, .sl [], .inr ⟨rfl, rfl, rfl⟩, rfl⟩
def clIk (line : List UInt8) (j : Nat) : List Int := (((spl 32 line).drop 1).take j).filterMap wI
theorem clIk_all (line : List UInt8) : clIk line ((spl 32 line).drop 1).length = clI line := by unfold clIk clI; rw [List.take_length]
theorem fm_yes {w : List UInt8} (hp : pIok w = true) : [w].filterMap wI = [pIv w] := by simp [List.filterMap_cons, wI, hp]
theorem fm_no {w : List UInt8} (hp : pIok w = false) : [w].filterMap wI = [] := by simp [List.filterMap_cons, wI, hp]
theorem clIk_yes {line : List UInt8} {j : Nat} (hj : j < ((spl 32 line).drop 1).length) (hp : pIok ((spl 32 line).drop 1)[j] = true) : clIk line (j + 1) = clIk line j ++ [pIv ((spl 32 line).drop 1)[j]] := by
  unfold clIk
  rw [List.take_succ_eq_append_getElem hj, List.filterMap_append, fm_yes hp]
theorem clIk_no {line : List UInt8} {j : Nat} (hj : j < ((spl 32 line).drop 1).length) (hp : pIok ((spl 32 line).drop 1)[j] = false) : clIk line (j + 1) = clIk line j := by
  unfold clIk
  rw [List.take_succ_eq_append_getElem hj, List.filterMap_append, fm_no hp, List.append_nil]
theorem clIk_len (line : List UInt8) (j : Nat) : (clIk line j).length ≤ j := by
  unfold clIk
  refine Nat.le_trans (List.length_filterMap_le _ _) ?_
  rw [List.length_take]; omega
theorem c_iReadCnf (s : List UInt8) (hs : s.length ≤ 1048576) : Does Tryd.prog 5 [.str s] [] (CnfR (resReadCnf s) (codeReadCnf s)) := by
  refine fn_of_runD tyOk ztOk mix Tryd.func5 rfl (by decide) Tryd.ntmps5 (fun w0 F => ?_)
  change Run _ _ _ _ _ F
  have cL := c_linesOf s hs
  have no : ¬ IsCnfT s → ∀ e h1, endD ty Tryd.f5.results (CnfR ⟨0, []⟩ 5) F .ret e h1 → endD ty Tryd.f5.results (CnfR (resReadCnf s) (codeReadCnf s)) F .ret e h1 := fun hn e h1 q => by
    rw [(read_not hn).1, (read_not hn).2]; exact q
  have fin : ∀ (b : Nat) (e : Env) (h1 : Heap) (T r : Nat), lk e 2 = some (.op (some b) 0) → lk e 3 = some (.int 5) → h1 = ⟨some b, T, r, [.int 0, .os none 0 0]⟩ :: F → endD ty Tryd.f5.results (CnfR ⟨0, []⟩ 5) F .ret e h1 := fun b e h1 T r q1 q2 q3 => by
    subst q3
    exact endD_view (view_freezeP 0 2 q1 rfl) (endD_ret (h1 := []) rfl (vs := [_, _]) (.cons (.cellI rfl rfl) (.cons (.tmp (by rw [lk_cons_ne _ _ (by decide)]; exact q2)) .nil)) (Le.tup (LeL.cons (Le.agg (LeL.cons (Le.refl _) (LeL.cons (Le.nil 0) LeL.nil))) (LeL.cons (Le.refl _) LeL.nil))) CnfR.nil (.inl rfl))
  have lw := lnW_mem s
  have ln := lnW_len s
  cases el : lnW s with
  | nil =>
    rw [el] at cL
    repeat' (first
      | (refine j_go ?_; first
        | refine j_op0 rfl rfl rfl rfl ?_ | refine j_off rfl rfl rfl ?_ | (refine j_kIdx rfl ?_; first | refine j_idxz rfl rfl rfl rfl rfl ⟨by omega, by omega⟩ rfl rfl rfl ?_) | (refine j_kLen rfl ?_; first | refine j_len rfl rfl rfl rfl rfl rfl ?_) | (refine j_kCall rfl rfl rfl rfl ?_; first | refine jc (cL) (LeL.refl _) rfl rfl ?_) | (refine j_kStore rfl ?_; first | refine j_storeN 0 rfl rfl rfl rfl rfl rfl rfl rfl rfl rfl rfl ?_) | (refine j_kGuard rfl ?_; first | (refine (j_ifn rfl rfl rfl (fun hb => ?_) (fun hb => ?_)) <;> first | (exfalso; omega) | skip)) | refine j_build rfl rfl rfl rfl rfl rfl rfl ?_ | refine j_alloc rfl rfl rfl rfl rfl (fun _ => ?_))
      | refine j_nil ?_
      | (refine r_go ?_; first | refine run_seq ?_ | refine run_region ?_ | refine run_cond_t rfl ?_ | (refine (run_if rfl (fun hb => ?_) (fun hb => ?_)) <;> first | (exfalso; omega) | skip) | refine run_ret ?_ | refine run_skip ?_)
      | refine seqQ_normal ?_ | refine seqQ_ret ?_)
    · refine no (fun q => by have := (isCnfT_ln q).2.1; rw [el] at this; simp at this) _ _ ?_; exact fin _ _ _ _ _ rfl rfl rfl
    · refine no (fun q => by have := (isCnfT_ln q).2.1; rw [el] at this; simp at this) _ _ ?_; exact fin _ _ _ _ _ rfl rfl rfl
    all_goals exact absurd (show ((([] : List (List UInt8)).length : Nat) : Int) = 0 by decide) (by assumption)
  | cons l0 ls =>
    rw [el] at cL ln
    have l0l := (lw l0 (by rw [el]; simp)).1
    have l0t : (trimP cnf4 l0).length ≤ l0.length := by unfold trimP; split <;> simp
    have vI := pIv_in (trimP cnf4 l0)
    repeat' (first
      | (refine j_go ?_; first
        | refine j_op0 rfl rfl rfl rfl ?_ | refine j_off rfl rfl rfl ?_ | (refine j_kIdx rfl ?_; first | refine j_idxz rfl rfl rfl rfl rfl ⟨by omega, by omega⟩ rfl rfl rfl ?_) | (refine j_kLen rfl ?_; first | refine j_len rfl rfl rfl rfl rfl rfl ?_) | (refine j_kCall rfl rfl rfl rfl ?_; first | refine jc (cL) (LeL.refl _) rfl rfl ?_ | refine jc (c_CutPrefix l0 cnf4) (LeL.refl _) rfl rfl ?_ | refine jc (c_PI (trimP cnf4 l0) (by omega)) (LeL.refl _) rfl rfl ?_) | (refine j_kStore rfl ?_; first | refine j_storeN 0 rfl rfl rfl rfl rfl rfl rfl rfl rfl rfl rfl ?_) | (refine j_kSlice rfl ?_; first | refine j_tail 1 rfl rfl rfl rfl rfl (by omega) (fun _ => rfl) rfl rfl ?_) | (refine j_kGuard rfl ?_; first | (refine (j_ifn rfl rfl rfl (fun hb => ?_) (fun hb => ?_)) <;> first | (exfalso; omega) | skip)) | refine j_build rfl rfl rfl rfl rfl rfl rfl ?_ | refine j_alloc rfl rfl rfl rfl rfl (fun _ => ?_))
      | refine j_nil ?_
      | (refine r_go ?_; first | refine run_seq ?_ | refine run_region ?_ | refine run_cond_t rfl ?_ | (refine (run_if rfl (fun hb => ?_) (fun hb => ?_)) <;> first | (exfalso; omega) | skip) | refine run_block ?_ | refine run_ret ?_ | refine run_skip ?_)
      | refine seqQ_normal ?_ | refine seqQ_ret ?_)
    · refine no (fun q => absurd (isCnfT_ln q).1 (by assumption)) _ _ ?_; exact fin _ _ _ _ _ rfl rfl rfl
    · exact absurd hb (by simp only [List.length_cons]; omega)
    rename_i b2 _ b10
    simp only [List.length_cons] at ln
    refine run_view (view_none 36 0 rfl) ?_
    refine run_loop (fun x : (Nat × List A × List Heap) × Option Nat × Nat => [(0, .str s), (2, .op (some b2) 0), (10, .op (some b10) 0), (46, .sl (ls.map encW)), (47, .int ls.length), (48, .int (x.1.1 : Int))])
      (fun x => ⟨x.2.1, 36, x.2.2 * 1, (x.1.2.1.map fun a => [a]).flatten⟩ :: cnB b10 [.int (pIv (trimP cnf4 l0)), .os x.2.1 ((ls.take x.1.1).map clI).length x.2.2] :: cnB b2 [.int 0, .os none 0 0] :: (x.1.2.2.flatten ++ F))
      (fun x => x.1.1 ≤ ls.length ∧ RowsC ((ls.take x.1.1).map clI) x.1.2.1 x.1.2.2) (fun x => ls.length - x.1.1) ((0, [], []), none, 0) ⟨rfl, rfl, rfl, rfl, rfl, rfl, trivial⟩ rfl ⟨Nat.zero_le _, RowsC.nil⟩ (fun ⟨⟨k, vs, hs'⟩, ob, cp⟩ ⟨kl, R⟩ => ?_)
    dsimp only at kl R ⊢
    have Ll : ((ls.take k).map clI).length = k := by rw [List.length_map, List.length_take]; omega
    have r1 := R.1
    by_cases hk : k < ls.length
    · have wl := (lw ls[k] (by rw [el]; simp)).1
      have sl := spl_len 32 ls[k]
      have s0 : 0 < (spl 32 ls[k]).length := List.length_pos_iff.2 (spl_ne 32 ls[k])
      repeat' (first
      | (refine j_go ?_; first
        | refine j_op0 rfl rfl rfl rfl ?_ | (refine j_kIdx rfl ?_; first | refine j_idx rfl rfl rfl rfl rfl (by omega) rfl rfl rfl ?_) | (refine j_kLen rfl ?_; first | refine j_len rfl rfl rfl rfl rfl rfl ?_) | (refine j_kCall rfl rfl rfl rfl ?_; first | refine jc (c_Split ls[k] 32 (by omega)) (LeL.refl _) rfl rfl ?_) | (refine j_kBsl rfl ?_; first | refine j_bs0 rfl rfl rfl rfl rfl rfl ?_) | (refine j_kSlice rfl ?_; first | refine j_tail 1 rfl rfl rfl rfl rfl (by omega) (fun _ => rfl) rfl rfl ?_))
      | refine j_nil ?_
      | (refine r_go ?_; first | refine run_seq ?_ | refine run_region ?_ | (refine (run_if rfl (fun hb => ?_) (fun hb => ?_)) <;> first | (exfalso; omega) | skip) | refine run_block ?_ | refine run_skip ?_)
      | refine seqQ_normal ?_)
      generalize hW : (spl 32 ls[k]).drop 1 = W
      have Wl : W.length ≤ 1048576 := by rw [← hW, List.length_drop]; omega
      have Wm : ∀ x ∈ W, x.length ≤ 1048576 := fun x hx => by
        have := (spl_mem 32 ls[k] x (List.mem_of_mem_drop (by rw [hW]; exact hx))).1
        omega
      refine run_view (view_none 2 0 rfl) ?_
      refine run_loop (fun x : Nat × Option Nat × Nat => [(0, .str s), (2, .op (some b2) 0), (10, .op (some b10) 0), (46, .sl (ls.map encW)), (47, .int ls.length), (48, .int (k : Int)), (55, .sl (W.map encW)), (56, .int W.length), (13, .os x.2.1 (clIk ls[k] x.1).length x.2.2), (57, .int (x.1 : Int))])
        (fun x => ⟨x.2.1, 2, x.2.2 * 1, ((clIk ls[k] x.1).map Go.AI.encI).flatten⟩ :: ⟨ob, 36, cp * 1, (vs.map fun a => [a]).flatten⟩ :: cnB b10 [.int (pIv (trimP cnf4 l0)), .os ob ((ls.take k).map clI).length cp] :: cnB b2 [.int 0, .os none 0 0] :: (hs'.flatten ++ F))
        (fun x => x.1 ≤ W.length) (fun x => W.length - x.1) (0, none, 0) ⟨rfl, rfl, rfl, rfl, rfl, rfl, rfl, rfl, rfl, rfl, trivial⟩ rfl (Nat.zero_le _) (fun ⟨j, o2, c2⟩ jl => ?_)
      dsimp only at jl ⊢
      have cl := clIk_len ls[k] j
      by_cases hj : j < W.length
      · have wj := Wm _ (List.getElem_mem hj)
        have vj := pIv_in W[j]
        have hjd : j < ((spl 32 ls[k]).drop 1).length := by rw [hW]; exact hj
        have ed : ((spl 32 ls[k]).drop 1)[j] = W[j] := by simp only [hW]
        cases hp : pIok W[j] with
        | true =>
          have es : clIk ls[k] (j + 1) = clIk ls[k] j ++ [pIv W[j]] := by rw [clIk_yes hjd (by rw [ed]; exact hp), ed]
          repeat' (first
      | (refine j_go ?_; first
        | refine j_op0 rfl rfl rfl rfl ?_ | (refine j_kIdx rfl ?_; first | refine j_idx rfl rfl rfl rfl rfl (by omega) rfl rfl rfl ?_) | (refine j_kBin rfl ?_; first | refine j_isnil rfl rfl rfl rfl (by first | exact .inl ⟨rfl, rfl⟩ | exact .inr ⟨rfl, rfl⟩) (by first | exact .inl ⟨rfl, rfl⟩ | exact .inr ⟨rfl, rfl⟩) rfl rfl ?_) | (refine j_kCall rfl rfl rfl rfl ?_; first | refine jc (c_PIok W[j] (by omega) hp) (LeL.refl _) rfl rfl ?_) | (refine j_kBsl rfl ?_; first | refine j_bsl rfl rfl rfl rfl rfl rfl rfl rfl rfl rfl rfl ?_))
      | refine j_nil ?_
      | (refine r_go ?_; first | refine run_seq ?_ | refine run_region ?_ | refine run_cond_t rfl ?_ | (refine (run_if rfl (fun hb => ?_) (fun hb => ?_)) <;> first | (exfalso; omega) | skip) | refine run_block ?_ | refine run_skip ?_)
      | refine seqQ_normal ?_)
          refine j_append 0 (g := Go.AI.encI) [pIv W[j]] rfl rfl rfl rfl rfl rfl rfl rfl rfl rfl rfl rfl (fun _ => rfl) (fun _ _ => rfl) ⟨by simp only [List.length_cons, List.length_nil]; omega, by simp only [List.length_cons, List.length_nil]; omega⟩ rfl rfl (fun b' cap' => ?_)
          rw [← es]
          repeat' (first
      | (refine j_go ?_; first
        | refine j_op0 rfl rfl rfl rfl ?_ | (refine j_kBin rfl ?_; first | refine j_in rfl rfl ⟨by omega, by omega⟩ rfl rfl ?_))
      | refine j_nil ?_
      | (refine r_go ?_; first | refine run_region ?_)
      | refine seqQ_normal ?_ | refine blockQ_normal ?_)
          exact loopQ_next (j + 1, b', cap') (by dsimp only; omega) (by dsimp only; omega) rfl ⟨rfl, rfl, rfl, rfl, rfl, rfl, rfl, rfl, rfl, nx _, trivial⟩
        | false =>
          have es : clIk ls[k] (j + 1) = clIk ls[k] j := clIk_no hjd (by rw [ed]; exact hp)
          repeat' (first
      | (refine j_go ?_; first
        | refine j_op0 rfl rfl rfl rfl ?_ | (refine j_kIdx rfl ?_; first | refine j_idx rfl rfl rfl rfl rfl (by omega) rfl rfl rfl ?_) | (refine j_kBin rfl ?_; first | refine j_in rfl rfl ⟨by omega, by omega⟩ rfl rfl ?_ | refine j_isnil rfl rfl rfl rfl (by first | exact .inl ⟨rfl, rfl⟩ | exact .inr ⟨rfl, rfl⟩) (by first | exact .inl ⟨rfl, rfl⟩ | exact .inr ⟨rfl, rfl⟩) rfl rfl ?_) | (refine j_kCall rfl rfl rfl rfl ?_; first | refine jc (c_PIbad W[j] (by omega) hp) (LeL.refl _) rfl rfl ?_))
      | refine j_nil ?_
      | (refine r_go ?_; first | refine run_seq ?_ | refine run_region ?_ | refine run_cond_f rfl ?_ | (refine (run_if rfl (fun hb => ?_) (fun hb => ?_)) <;> first | (exfalso; omega) | skip) | refine run_block ?_ | refine run_skip ?_)
      | refine seqQ_normal ?_ | refine blockQ_normal ?_)
          exact loopQ_next (j + 1, o2, c2) (by dsimp only; omega) (by dsimp only; omega) (by dsimp only; rw [es]) ⟨rfl, rfl, rfl, rfl, rfl, rfl, rfl, rfl, by dsimp only; rw [es]; rfl, nx _, trivial⟩
      · have hje : j = W.length := by omega
        subst hje
        have ea : clIk ls[k] W.length = clI ls[k] := by rw [← hW]; exact clIk_all _
        rw [ea]
        repeat' (first
      | (refine j_go ?_; first
        | refine j_op0 rfl rfl rfl rfl ?_ | (refine j_kLoad rfl ?_; first | refine j_mload 2 rfl rfl rfl rfl rfl rfl rfl ?_) | (refine j_kBsl rfl ?_; first | refine j_bsl rfl rfl rfl rfl rfl rfl rfl rfl rfl rfl rfl ?_))
      | refine j_nil ?_
      | (refine r_go ?_; first | refine run_seq ?_ | refine run_region ?_ | (refine (run_if rfl (fun hb => ?_) (fun hb => ?_)) <;> first | (exfalso; omega) | skip) | refine run_exit ?_)
      | refine seqQ_normal ?_ | refine seqQ_exit ?_ | refine blockQ_eq ?_ | refine loopQ_exit ?_)
        refine j_append 1 (g := fun a => [a]) (ys := vs) [A.os o2 (clI ls[k]).length c2] rfl rfl rfl rfl rfl rfl rfl rfl rfl rfl (Ll.trans (r1.trans Ll).symm) rfl (fun _ => rfl) (fun _ hy => by simp only [List.mem_singleton] at hy; subst hy; rfl) ⟨by simp only [List.length_cons, List.length_nil]; omega, by simp only [List.length_cons, List.length_nil]; omega⟩ rfl rfl (fun b' cap' => ?_)
        repeat' (first
      | (refine j_go ?_; first
        | refine j_op0 rfl rfl rfl rfl ?_ | (refine j_kBin rfl ?_; first | refine j_in rfl rfl ⟨by omega, by omega⟩ rfl rfl ?_) | (refine j_kStore rfl ?_; first | refine j_store 2 rfl rfl rfl rfl rfl rfl rfl rfl rfl rfl rfl ?_))
      | refine j_nil ?_
      | (refine r_go ?_; first | refine run_region ?_)
      | refine seqQ_normal ?_ | refine blockQ_normal ?_)
        have eL : (ls.take (k + 1)).map clI = (ls.take k).map clI ++ [clI ls[k]] := by rw [List.take_succ_eq_append_getElem hk, List.map_append]; rfl
        have eN : (vs ++ [A.os o2 (clI ls[k]).length c2]).length = ((ls.take (k + 1)).map clI).length := by rw [eL, List.length_append, List.length_append, r1]; rfl
        refine loopQ_view (view_perm (h' := ⟨b', 36, cap' * 1, ((vs ++ [A.os o2 (clI ls[k]).length c2]).map fun a => [a]).flatten⟩ :: cnB b10 [.int (pIv (trimP cnf4 l0)), .os b' (vs ++ [A.os o2 (clI ls[k]).length c2]).length cap'] :: cnB b2 [.int 0, .os none 0 0] :: ((hs' ++ [[(⟨o2, 2, c2 * 1, ((clI ls[k]).map Go.AI.encI).flatten⟩ : Blk)]]).flatten ++ F)) (by
          change List.Perm (_ :: _ :: cnB b10 [.int (pIv (trimP cnf4 l0)), .os b' (vs ++ [A.os o2 (clI ls[k]).length c2]).length cap'] :: cnB b2 [.int 0, .os none 0 0] :: (hs'.flatten ++ F)) _
          classical exact List.perm_iff_count.2 fun _ => by simp only [List.count_cons, List.count_append, List.count_nil, List.flatten_append, List.flatten_cons, List.flatten_nil]; omega)) ?_
        rw [eN]
        exact loopQ_next ((k + 1, vs ++ [A.os o2 (clI ls[k]).length c2], hs' ++ [[(⟨o2, 2, c2 * 1, ((clI ls[k]).map Go.AI.encI).flatten⟩ : Blk)]]), b', cap') ⟨by dsimp only; omega, by dsimp only; rw [eL]; exact R.snoc (.inl ⟨o2, c2, rfl, rfl⟩)⟩ (by dsimp only; omega) rfl ⟨rfl, rfl, rfl, rfl, rfl, nx _, trivial⟩
    · have hke : k = ls.length := by omega
      subst hke
      rw [List.take_length] at R ⊢
      have ec := candI_cons el
      have ro : ROCnf (candI s) (.agg [.int (pIv (trimP cnf4 l0)), .os ob (ls.map clI).length cp]) (⟨ob, 36, cp * 1, (vs.map fun a => [a]).flatten⟩ :: hs'.flatten) := by
        rw [ec]; exact ⟨_, R.ii ob cp, rfl⟩
      have cT := gT (c_iCnfText (candI s))
      repeat' (first
      | (refine j_go ?_; first
        | refine j_op0 rfl rfl rfl rfl ?_ | (refine j_kLoad rfl ?_; first | refine j_mload 1 rfl rfl rfl rfl rfl rfl rfl ?_))
      | refine j_nil ?_
      | (refine r_go ?_; first | refine run_seq ?_ | refine run_region ?_ | (refine (run_if rfl (fun hb => ?_) (fun hb => ?_)) <;> first | (exfalso; omega) | skip) | refine run_exit ?_)
      | refine seqQ_normal ?_ | refine seqQ_exit ?_ | refine blockQ_eq ?_ | refine loopQ_exit ?_)
      refine j_kCall rfl rfl rfl rfl ?_
      refine jctq (⟨ob, 36, cp * 1, (vs.map fun a => [a]).flatten⟩ :: hs'.flatten) cT (clo_str _) (fun k hk => by
        rcases List.mem_cons.1 hk with rfl | hk
        · simp
        · simp [hk]) (FrzL.cons ro.frz (FrzL.nil _)) rfl rfl ?_
      repeat' (first
      | (refine j_go ?_; first
        | refine j_op0 rfl rfl rfl rfl ?_ | (refine j_kLoad rfl ?_; first | refine j_mload 1 rfl rfl rfl rfl rfl rfl rfl ?_) | (refine j_kStore rfl ?_; first | refine j_storeN 2 rfl rfl rfl rfl rfl rfl rfl rfl rfl rfl rfl ?_) | refine j_build rfl rfl rfl rfl rfl rfl rfl ?_)
      | refine j_nil ?_
      | (refine r_go ?_; first | refine run_seq ?_ | refine run_region ?_ | (refine (run_ifn rfl (fun hb => ?_) (fun hb => ?_)) <;> first | (exfalso; omega) | skip) | refine run_ret ?_ | refine run_skip ?_)
      | refine seqQ_normal ?_ | refine seqQ_ret ?_)
      · refine no (readI_no (by assumption)) _ _ ?_
        refine endD_view (view_sub (h0 := cnB b2 [.int 0, .os none 0 0] :: F) (by
          change List.Sublist _ (_ :: _ :: cnB b2 [.int 0, .os none 0 0] :: (hs'.flatten ++ F))
          exact List.Sublist.cons _ (List.Sublist.cons _ ((List.sublist_append_right _ _).cons_cons _)))) ?_
        exact fin _ _ _ _ _ rfl rfl rfl
      · obtain ⟨q1, q2⟩ := readI_ok (by assumption) (by rw [el]; simp)
        rw [read_yes q1, q2]
        refine endD_view (view_freezeP 2 2 rfl rfl) ?_
        refine endD_view (view_erase 1) ?_
        exact endD_ret (h1 := ⟨ob, 36, cp * 1, (vs.map fun a => [a]).flatten⟩ :: hs'.flatten) rfl (.cons (.cellI rfl rfl) (.cons (.tmp rfl) .nil)) (Le.refl _) ⟨_, rfl, ro⟩ (.inl rfl)
end Go.Proofs.YtmcljepicadjfaaDoor

/-
  The law FnExactReadCnf answers true whatever it reads. No condition.
-/
namespace Go.Proofs.YtmcljepicadjfaaDoor
open Go.AI
set_option maxRecDepth 8000
set_option maxHeartbeats 4000000
theorem rcCnf_small (t : List UInt8) : rcCnf (resReadCnf t) ≤ 54 := by
  obtain ⟨h1, h2⟩ := resReadCnf_small t
  have := mcnt_le2 (f := List.length) (l := (resReadCnf t).clauses) h1 h2
  unfold rcCnf
  omega
theorem c_FnExactReadCnf (a0 : List UInt8) : Gives Tryd.prog 3 [.str a0] (.raw (.bool true)) := by
  refine fn_of_run tyOk ztOk mix Tryd.func3 rfl (by decide) Tryd.ntmps3 (fun w0 h => ?_)
  repeat' (first
      | (refine j_go ?_; first
        | refine j_op0 rfl rfl rfl rfl ?_ | (refine j_kLen rfl ?_; first | refine j_op rfl rfl rfl rfl ?_))
      | refine j_nil ?_
      | (refine r_go ?_; first | refine run_seq ?_ | refine run_region ?_ | (refine (run_if rfl (fun hb => ?_) (fun hb => ?_)) <;> first | (exfalso; omega) | skip) | refine run_ret ?_ | refine run_skip ?_)
      | refine seqQ_normal ?_ | refine seqQ_ret ?_)
  · exact end1 rfl (List.Sublist.refl _) (rfl) (.inl rfl)
  have hs : a0.length ≤ 1048576 := by omega
  have cS := c_sReadCnf a0 hs
  have cI := c_iReadCnf a0 hs
  have hlen := rcCnf_small a0
  generalize resReadCnf a0 = r at cS cI hlen
  generalize codeReadCnf a0 = cd at cS cI
  repeat' (first
      | (refine j_go ?_; first
        | refine j_op0 rfl rfl rfl rfl ?_ | (refine j_kCall rfl rfl rfl rfl ?_; first | refine jc (cS) (LeL.refl _) rfl rfl ?_) | (refine j_kStore rfl ?_; first | refine j_storeN 0 rfl rfl rfl rfl rfl rfl rfl rfl rfl rfl rfl ?_) | refine j_alloc rfl rfl rfl rfl rfl (fun _ => ?_))
      | refine j_nil ?_
      | (refine r_go ?_; first | refine run_seq ?_ | refine run_region ?_)
      | refine seqQ_normal ?_)
  refine j_view (view_freezeP 0 3 rfl rfl) ?_
  skip
  refine j_kCall rfl rfl rfl rfl ?_
  refine jcp h cI (List.Perm.refl _) (LeL.refl _) rfl rfl (fun v hg hR => ?_)
  obtain ⟨ar, rfl, oR⟩ := hR
  obtain ⟨ra0, ra1, rfl, okr⟩ := oR.cells
  repeat' (first
      | (refine j_go ?_; first
        | refine j_op0 rfl rfl rfl rfl ?_ | refine j_alloc rfl rfl rfl rfl rfl (fun _ => ?_)))
  refine j_storeN 0 rfl rfl rfl rfl rfl rfl rfl rfl okr rfl rfl ?_
  refine j_view (view_freezeP 0 5 rfl rfl) ?_
  have cE := c_eqCnf r r
  rw [dec_t rfl] at cE
  have fg := oR.frz
  repeat' (first
      | (refine j_go ?_; first
        | refine j_op0 rfl rfl rfl rfl ?_)
      | refine j_nil ?_
      | (refine r_go ?_; first | refine run_seq ?_ | refine run_region ?_)
      | refine seqQ_normal ?_)
  refine j_kCall rfl rfl rfl rfl ?_
  refine jctq hg cE (Clo.raw _) (fun k hk => by simp [hk]) (FrzL.cons fg (FrzL.cons (Frz.same _ _) (FrzL.nil _))) rfl rfl ?_
  repeat' (first
      | (refine j_go ?_; first
        | refine j_op0 rfl rfl rfl rfl ?_)
      | refine j_nil ?_
      | (refine r_go ?_; first | refine run_seq ?_ | refine run_region ?_ | (refine (run_ifn rfl (fun hb => ?_) (fun hb => ?_)) <;> first | (exfalso; omega) | skip) | refine run_skip ?_)
      | refine seqQ_normal ?_)
  all_goals try exact absurd rfl hb
  refine j_kCall rfl rfl rfl rfl ?_
  refine jcp _ (r_markCnf _ _ _ 1 oR (by omega)) (List.Perm.refl _) (LeL.refl _) rfl rfl (fun v hx hR => ?_)
  obtain ⟨rfl, oM⟩ := hR
  have fM := oM.frz
  repeat' (first
      | (refine j_go ?_; first
        | refine j_op0 rfl rfl rfl rfl ?_)
      | refine j_nil ?_
      | (refine r_go ?_; first | refine run_seq ?_ | refine run_region ?_)
      | refine seqQ_normal ?_)
  all_goals try exact absurd rfl hb
  refine j_kCall rfl rfl rfl rfl ?_
  refine jctq hx (c_heldCnf r 1 (by omega)) (Clo.int _) (fun k hk => by simp [hk]) (FrzL.cons fM (FrzL.cons (Frz.same _ _) (FrzL.nil _))) rfl rfl ?_
  have cF : Gives _ _ _ (.tup [.agg (encCnf r), .int cd]) := cI.frozen fun v h1 ⟨a, q1, q2⟩ => by rw [q1]; exact FrzF.tup2 q2.frzF (Clo.int _)
  repeat' (first
      | (refine j_go ?_; first
        | refine j_op0 rfl rfl rfl rfl ?_ | (refine j_kCall rfl rfl rfl rfl ?_; first | refine jc (cF) (LeL.refl _) rfl rfl ?_ | refine jc (cE) (LeL.refl _) rfl rfl ?_) | (refine j_kLoad rfl ?_; first | refine j_mload 0 rfl rfl rfl rfl rfl rfl rfl ?_) | (refine j_kStore rfl ?_; first | refine j_storeN 0 rfl rfl rfl rfl rfl rfl rfl rfl rfl rfl rfl ?_) | refine j_alloc rfl rfl rfl rfl rfl (fun _ => ?_))
      | refine j_nil ?_
      | (refine r_go ?_; first | refine run_seq ?_ | refine run_region ?_ | (refine (run_if rfl (fun hb => ?_) (fun hb => ?_)) <;> first | (exfalso; omega) | skip) | (refine (run_ifn rfl (fun hb => ?_) (fun hb => ?_)) <;> first | (exfalso; omega) | skip) | refine run_skip ?_)
      | refine seqQ_normal ?_)
  all_goals try exact absurd rfl hb
  skip
  all_goals try exact absurd rfl hb
  refine j_kCall rfl rfl rfl rfl ?_
  refine jctq hx (c_heldCnf r 1 (by omega)) (Clo.int _) (fun k hk => by simp [hk]) (FrzL.cons fM (FrzL.cons (Frz.same _ _) (FrzL.nil _))) rfl rfl ?_
  repeat' (first
      | (refine j_go ?_; first
        | refine j_op0 rfl rfl rfl rfl ?_)
      | refine j_nil ?_
      | (refine r_go ?_; first | refine run_seq ?_ | refine run_region ?_ | (refine (run_if rfl (fun hb => ?_) (fun hb => ?_)) <;> first | (exfalso; omega) | skip) | (refine (run_ifn rfl (fun hb => ?_) (fun hb => ?_)) <;> first | (exfalso; omega) | skip) | refine run_ret ?_ | refine run_skip ?_)
      | refine seqQ_normal ?_)
  all_goals first | exact absurd rfl hb | exact end1 rfl (by repeat' first | exact List.Sublist.refl _ | refine List.Sublist.cons _ ?_ | refine List.Sublist.trans ?_ (List.sublist_append_right _ _)) rfl (.inl rfl)
end Go.Proofs.YtmcljepicadjfaaDoor

/-
  From a row's claim to the walk, where the library's variables stand: their shape and what is listed of them. No condition.
-/
namespace Go.AI
open Go.RowKit
theorem handed_laid {H : Type} {enc : TypeId × Value → H} {a : Assume} {C : Checked} {os : Os} {f : FuncId} {fn : Func} {s : ChangeSpec} {conds : List PathCond} {apart fresh handsOn again : Bool} {X : World → Array Value → Prop}
    (hX : ∀ (w w' : World) (args : Array Value), w.heap = w'.heap → X w args → X w' args)
    (own : ownKnob C.prog.godebug = none) (started : os.Started) (noInit : C.prog.inits.idxOf? f = none) (hfn : C.prog.funcs[f]? = some fn)
    (witness : ∃ (w : World) (tape : Tape) (i : Input), w.os = os ∧ (w.forCall tape i).Shaped C.prog ∧ i.vars = [] ∧ Input.okWide C.prog (w.forCall tape i) .any w.heap.size f i ∧
      ((s.pre enc C.prog fn conds apart (w.forCall tape i).memory i.args ∧ X (w.forCall tape i).memory i.args) ∧ sizedMet enc C.prog fn (OpenSpec.ofChange s) apart (w.forCall tape i).memory i.args) ∧ a.holds C.prog (lone (Frame.enter C.prog f i.args .normal) [] (w.forCall tape i)))
    (contract : ∀ (W : World) (base : Nat) (args : Array Value) (ds gs : List (DataW H)) (before : List MemPlace),
      (∀ (j : Nat) t v, fn.params[j]? = some t → args[j]? = some v → Value.okWide C.prog W .any base t v) →
      DataW.Whole enc C.prog fn.params.toList s.vars apart W args.toList ds gs before →
      W.ShapedOpen C.prog → X W args →
      Calls C.prog f args W fun e W' => ∃ v, e = .returned v ∧ s.post enc C.prog fn apart fresh handsOn again W args v W') :
    ReturnsInHanded a C os f .any (fun w args => (s.pre enc C.prog fn conds apart w args ∧ X w args) ∧ sizedMet enc C.prog fn (OpenSpec.ofChange s) apart w args) (s.post enc C.prog fn apart fresh handsOn again) := by
  refine returnsInHanded_of_calls own started noInit witness (fun w tape i _ hshape _ hok hpre _ => ?_)
  obtain ⟨_, _, _, fn2, hfn2, _, _, _, _, hval⟩ := hok
  cases Option.some.inj (hfn2.symm.trans hfn)
  obtain ⟨⟨⟨ds, gs, before, hw, _⟩, hx⟩, _⟩ := hpre
  have hw2 := DataW.Whole.of_heap (w' := w.forCall tape i) (by rfl) hw
  refine (contract (w.forCall tape i) w.heap.size i.args ds gs before hval hw2 hshape (hX _ _ _ (by rfl) hx)).mono fun e W' ⟨v, he, hp⟩ => ?_
  subst he
  exact ChangeSpec.post_blind hp
theorem if_of_laid {P : Program} {W : World} {l : List (String × DataW Unit)} {n nm : String} {d : DataW Unit} {g ti : Nat} {ms : Array (String × TypeId)} (h : laidMet P l W) (hm : (n, .iface nm d) ∈ l) (hg : P.globalNamed n = some g)
    (ht : (P.globals[g]?).map (·.type) = some ti) (hi : P.underlying ti = some (.interface ms)) : ∃ t u, W.cell? ⟨g, 0, none⟩ = some (.iface t u) := by
  obtain ⟨g0, t0, cs, fuel, p, h1, h2, h3, h4⟩ := Lib.laidMet.reads h hm
  cases Option.some.inj (h1.symm.trans hg)
  cases Option.some.inj (h2.symm.trans ht)
  obtain ⟨f1, u, v, e, _, _⟩ := iface_of_trod hi h4
  refine ⟨u, v, ?_⟩
  rw [World.var?_cell hg h3 0]
  have : cs = #[.iface u v] := by cases cs; simpa using e
  rw [this]; rfl
theorem lt_of_cell {W : World} {g : Nat} {v : Value} (h : W.cell? ⟨g, 0, none⟩ = some v) : g < W.heap.size := by
  unfold World.cell? at h
  cases hb : W.heap[g]? with
  | none => simp only [hb] at h; cases h
  | some o => exact (Array.getElem?_eq_some_iff.1 hb).1
end Go.AI
