/-
  Stocks read from texts: ReadStock of the program. No condition but that the text is not longer than a machine holds.
-/
import Derived.Test.YtmcljepicadjfaaGreatDoorZRw
import Derived.Test.YtmcljepicadjfaaGreatDoorZR6
import Derived.Test.YtmcljepicadjfaaGreatDoorZT
import Derived.Handed
import Derived.LaidLaws
import Derived.Lib.LaidU8
import Derived.Shelf.Vars
namespace Go.Proofs.YtmcljepicadjfaaGreatDoor
open Go.AI Go.RowKit
set_option maxRecDepth 8000
set_option maxHeartbeats 3200000
theorem rdS_is {p : Passing} {t : List UInt8} (hv : p.Ok) (h0 : t ≠ []) (h : txS (p.Ok ∧ p.StockOk (rdS p t)) (stockT (rdS p t)) = t) : IsStT p t := by
  by_cases q : p.Ok ∧ p.StockOk (rdS p t)
  · rw [txs_t q] at h; exact ⟨_, q.2, h⟩
  · rw [txs_f q] at h; exact absurd h.symm h0
theorem rdS_not {p : Passing} {t : List UInt8} (hv : p.Ok) (h : ¬ txS (p.Ok ∧ p.StockOk (rdS p t)) (stockT (rdS p t)) = t) : ¬ IsStT p t := fun ⟨s, hs, e⟩ => h (by
  rw [← e, rdS_text hs, txs_t ⟨hv, hs⟩])
/-- What ReadStock hands back. -/
def StR (x : Stock) (cd : Int) (v : A) (h : Heap) : Prop := ∃ a, v = .tup [a, .int cd] ∧ ROStock x a h
theorem StR.nil {cd : Int} : StR ⟨[], []⟩ cd (.tup [.agg [.sl [], .sl []], .int cd]) [] := ⟨_, rfl, .sl [], [], .inr ⟨rfl, rfl, rfl⟩, .sl [], [], .inr ⟨rfl, rfl, rfl⟩, rfl, rfl⟩
def CeI (p : Passing) (t : List UInt8) (k : Nat) (X : List (List Int)) : Prop := (k ≤ p.parents.length → X = ((lnW t).take k).map (rdB p.kinds.toNat)) ∧ (k = p.parents.length + 1 → X = (rdS p t).cells)
def ArI (p : Passing) (t : List UInt8) (k : Nat) (ar : A) (har : Heap) : Prop := (k ≤ p.parents.length → ar = .os none 0 0 ∧ har = []) ∧ (k = p.parents.length + 1 → ROI (rdS p t).around ar har)
theorem c_iReadStock (p : Passing) (t : List UInt8) (ht : t.length ≤ 1048576) : Does Tryz.prog 10 [.agg (encPassing p), .str t] [] (StR (resReadStock p t) (codeReadStock p t)) := by
  refine fn_of_runD tyOk ztOk mix Tryz.func10 rfl (by decide) Tryz.ntmps10 (fun w0 F => ?_)
  change Run _ _ _ _ _ F
  have fin : ∀ (c : Int) (b : Nat) (e : Env) (h1 : Heap) (T r : Nat), lk e 4 = some (.op (some b) 0) → lk e 5 = some (.int c) → h1 = ⟨some b, T, r, [.os none 0 0, .os none 0 0]⟩ :: F → endD ty Tryz.f10.results (StR ⟨[], []⟩ c) F .ret e h1 := fun c b e h1 T r q1 q2 q3 => by
    subst q3
    exact endD_view (view_freezeP 0 4 q1 rfl) (endD_ret (h1 := []) rfl (vs := [_, _]) (.cons (.cellI rfl rfl) (.cons (.tmp (by rw [lk_cons_ne _ _ (by decide)]; exact q2)) .nil)) (Le.tup (LeL.cons (Le.agg (LeL.cons (Le.nil 0) (LeL.cons (Le.nil 0) LeL.nil))) (LeL.cons (Le.refl _) LeL.nil))) StR.nil (.inl rfl))
  by_cases hv : p.Ok
  case neg =>
    rw [(rs_inv hv).1, (rs_inv hv).2]
    repeat' (first
      | (refine j_go ?_; first
        | refine j_op0 rfl rfl rfl rfl ?_ | (refine j_kCall rfl rfl rfl rfl ?_; first | refine jc (c_iValidPassing p) (LeL.refl _) rfl rfl ?_) | (refine j_kStore rfl ?_; first | refine j_storeN 0 rfl rfl rfl rfl rfl rfl rfl rfl rfl rfl rfl ?_) | refine j_box rfl rfl rfl rfl rfl rfl ?_ | refine j_build rfl rfl rfl rfl rfl rfl rfl ?_ | refine j_alloc rfl rfl rfl rfl rfl (fun _ => ?_))
      | refine j_nil ?_
      | (refine r_go ?_; first | refine run_seq ?_ | refine run_region ?_ | (refine (run_ifn rfl (fun hb => ?_) (fun hb => ?_)) <;> first | (exfalso; omega) | skip) | refine run_ret ?_ | refine run_skip ?_)
      | refine seqQ_normal ?_ | refine seqQ_ret ?_)
    all_goals first
      | exact absurd (by assumption) hv
      | exact fin 1 _ _ _ _ _ rfl rfl rfl
  have no : ¬ IsStT p t → ∀ e h1, endD ty Tryz.f10.results (StR ⟨[], []⟩ 5) F .ret e h1 → endD ty Tryz.f10.results (StR (resReadStock p t) (codeReadStock p t)) F .ret e h1 := fun hn e h1 q => by
    rw [(rs_no hv hn).1, (rs_no hv hn).2]; exact q
  have h4 := hv.1.2.1
  have hk1 := hv.1.1
  have hkn : ((p.kinds.toNat : Nat) : Int) = p.kinds := by omega
  have ln := lnW_len t
  repeat' (first
      | (refine j_go ?_; first
        | refine j_op0 rfl rfl rfl rfl ?_ | refine j_off rfl rfl rfl ?_ | (refine j_kBin rfl ?_; first | refine j_in rfl rfl ⟨by omega, by omega⟩ rfl rfl ?_) | (refine j_kLen rfl ?_; first | refine j_len rfl rfl rfl rfl rfl rfl ?_) | (refine j_kCall rfl rfl rfl rfl ?_; first | refine jc (c_iValidPassing p) (LeL.refl _) rfl rfl ?_ | refine jc (c_linesOf t ht) (LeL.refl _) rfl rfl ?_) | (refine j_kStore rfl ?_; first | refine j_storeN 0 rfl rfl rfl rfl rfl rfl rfl rfl rfl rfl rfl ?_) | (refine j_kGuard rfl ?_; first | (refine (j_ifn rfl rfl rfl (fun hb => ?_) (fun hb => ?_)) <;> first | (exfalso; omega) | skip)) | refine j_box rfl rfl rfl rfl rfl rfl ?_ | refine j_build rfl rfl rfl rfl rfl rfl rfl ?_ | refine j_alloc rfl rfl rfl rfl rfl (fun _ => ?_))
      | refine j_nil ?_
      | (refine r_go ?_; first | refine run_seq ?_ | refine run_region ?_ | refine run_cond_t rfl ?_ | (refine (run_ifn rfl (fun hb => ?_) (fun hb => ?_)) <;> first | (exfalso; omega) | skip) | refine run_block ?_ | refine run_ret ?_ | refine run_skip ?_)
      | refine seqQ_normal ?_ | refine seqQ_ret ?_)
  · exact absurd hv (by assumption)
  · refine no (fun q => absurd (isStT_ln q).1 (by assumption)) _ _ ?_; exact fin 5 _ _ _ _ _ rfl rfl rfl
  · refine no (fun q => by have := (isStT_ln q).2; omega) _ _ ?_; exact fin 5 _ _ _ _ _ rfl rfl rfl
  rename_i b4 _ _ b8
  have drp : ¬ IsStT p t → ∀ (e : Env) (h1 : Heap), lk e 4 = some (.op (some b4) 0) → lk e 5 = some (.int 5) → (stB b4 [.os none 0 0, .os none 0 0] :: F).Sublist h1 → endD ty Tryz.f10.results (StR (resReadStock p t) (codeReadStock p t)) F .ret e h1 := fun hn e h1 q1 q2 q3 =>
    no hn _ _ (endD_view (view_sub q3) (fin 5 b4 e _ _ _ q1 q2 rfl))
  have hL : (lnW t).length = p.parents.length + 1 := by omega
  have lw := lnW_mem t
  have t0 : t ≠ [] := fun q => by rw [q] at hL; have : (lnW ([] : List UInt8)).length = 0 := rfl; omega
  refine run_view (view_none 24 0 rfl) ?_
  refine run_loop (fun x : (Nat × List (List Int) × List A × List Heap × A × Heap) × Option Nat × Nat => [(1, .str t), (2, .ip (encPassing p)), (4, .op (some b4) 0), (8, .op (some b8) 0), (35, .sl ((lnW t).map encW)), (36, .int (lnW t).length), (37, .int (x.1.1 : Int))])
    (fun x => ⟨x.2.1, 24, x.2.2 * 1, (x.1.2.2.1.map fun a => [a]).flatten⟩ :: stB b8 [.os x.2.1 x.1.2.1.length x.2.2, x.1.2.2.2.2.1] :: stB b4 [.os none 0 0, .os none 0 0] :: (x.1.2.2.2.1.flatten ++ (x.1.2.2.2.2.2 ++ F)))
    (fun x => x.1.1 ≤ p.parents.length + 1 ∧ CeI p t x.1.1 x.1.2.1 ∧ RowsC x.1.2.1 x.1.2.2.1 x.1.2.2.2.1 ∧ ArI p t x.1.1 x.1.2.2.2.2.1 x.1.2.2.2.2.2)
    (fun x => p.parents.length + 1 - x.1.1) ((0, [], [], [], .os none 0 0, []), none, 0) ⟨rfl, rfl, rfl, rfl, rfl, rfl, rfl, trivial⟩ rfl ⟨Nat.zero_le _, ⟨fun _ => rfl, fun q => by dsimp only at q; omega⟩, RowsC.nil, fun _ => ⟨rfl, rfl⟩, fun q => by dsimp only at q; omega⟩ (fun ⟨⟨k, X, vs, hs, ar, har⟩, ob, cp⟩ ⟨kl, xc, R, ao⟩ => ?_)
  dsimp only at kl xc R ao ⊢
  have r1 := R.1
  by_cases hk : k < p.parents.length
  case pos =>
    have a2 := ao.1 (by omega)
    obtain ⟨rfl, rfl⟩ := a2
    have xe := xc.1 (by omega)
    have hkL : k < (lnW t).length := by omega
    have xk : X.length = k := by rw [xe, List.length_map, List.length_take]; omega
    have wl := (lw (lnW t)[k] (List.getElem_mem hkL)).1
    have cR := o_readBag p.kinds.toNat (lnW t)[k] (by omega) (by omega)
    rw [hkn] at cR
    repeat' (first
      | (refine j_go ?_; first
        | refine j_op0 rfl rfl rfl rfl ?_ | (refine j_kIdx rfl ?_; first | refine j_idx rfl rfl rfl rfl rfl (by omega) rfl rfl rfl ?_) | (refine j_kLen rfl ?_; first | refine j_len rfl rfl rfl rfl rfl rfl ?_))
      | refine j_nil ?_
      | (refine r_go ?_; first | refine run_seq ?_ | refine run_region ?_ | (refine (run_if rfl (fun hb => ?_) (fun hb => ?_)) <;> first | (exfalso; omega) | skip) | refine run_block ?_ | refine run_skip ?_)
      | refine seqQ_normal ?_)
    refine j_kCall rfl rfl rfl rfl ?_
    refine jcp _ cR (List.Perm.refl _) (LeL.refl _) rfl rfl (fun v h1 hR => ?_)
    obtain ⟨a, rfl, hro⟩ := hR
    by_cases hB : IsBagT p.kinds.toNat (lnW t)[k]
    case neg =>
      rw [dec_f hB]
      repeat' (first
      | (refine j_go ?_; first
        | refine j_op0 rfl rfl rfl rfl ?_ | refine j_build rfl rfl rfl rfl rfl rfl rfl ?_)
      | refine j_nil ?_
      | (refine r_go ?_; first | refine run_seq ?_ | refine run_region ?_ | refine run_cond_t rfl ?_)
      | refine seqQ_normal ?_)
      refine j_view (view_sub (h0 := stB b4 [.os none 0 0, .os none 0 0] :: F) ?_) ?_
      · refine List.Sublist.trans ?_ (List.sublist_append_right h1 _)
        exact List.Sublist.cons _ (List.Sublist.cons _ ((List.sublist_append_right hs.flatten F).cons_cons _))
      repeat' (first
      | (refine j_go ?_; first
        | refine j_op0 rfl rfl rfl rfl ?_ | (refine j_kStore rfl ?_; first | refine j_storeN 0 rfl rfl rfl rfl rfl rfl rfl rfl rfl rfl rfl ?_))
      | refine j_nil ?_
      | (refine r_go ?_; first | refine run_ret ?_)
      | refine seqQ_normal ?_ | refine seqQ_ret ?_ | refine blockQ_ret ?_ | refine loopQ_ret ?_)
      exact drp (fun q => hB (isStT_cell q hkL hk)) _ _ rfl rfl (List.Sublist.refl _)
    rw [dec_t hB]
    rcases hro hB with ⟨b2, cap2, rfl, rfl⟩ | ⟨hz, _, _⟩
    case inr => exact absurd (congrArg List.length hz) (by rw [rdB_len]; simp; omega)
    generalize hrd : rdB p.kinds.toNat (lnW t)[k] = b
    repeat' (first
      | (refine j_go ?_; first
        | refine j_op0 rfl rfl rfl rfl ?_ | (refine j_kLen rfl ?_; first | refine j_len rfl rfl rfl rfl rfl rfl ?_) | (refine j_kLoad rfl ?_; first | refine j_mload 2 rfl rfl rfl rfl rfl rfl rfl ?_) | (refine j_kBsl rfl ?_; first | refine j_bsl rfl rfl rfl rfl rfl rfl rfl rfl rfl rfl rfl ?_))
      | refine j_nil ?_
      | (refine r_go ?_; first | refine run_seq ?_ | refine run_region ?_ | refine run_cond_f rfl ?_ | (refine (run_if rfl (fun hb => ?_) (fun hb => ?_)) <;> first | (exfalso; omega) | skip) | refine run_skip ?_)
      | refine seqQ_normal ?_)
    refine j_append 1 (g := fun a => [a]) (ys := vs) [A.os b2 b.length cap2] rfl rfl rfl rfl rfl rfl rfl rfl rfl rfl r1.symm rfl (fun _ => rfl) (fun _ hy => by simp only [List.mem_singleton] at hy; subst hy; rfl) ⟨by simp only [List.length_cons, List.length_nil]; omega, by simp only [List.length_cons, List.length_nil]; omega⟩ rfl rfl (fun b' cap' => ?_)
    repeat' (first
      | (refine j_go ?_; first
        | refine j_op0 rfl rfl rfl rfl ?_ | (refine j_kBin rfl ?_; first | refine j_in rfl rfl ⟨by omega, by omega⟩ rfl rfl ?_) | (refine j_kStore rfl ?_; first | refine j_store 2 rfl rfl rfl rfl rfl rfl rfl rfl rfl rfl rfl ?_))
      | refine j_nil ?_
      | (refine r_go ?_; first | refine run_region ?_)
      | refine seqQ_normal ?_ | refine blockQ_normal ?_)
    have eN : (vs ++ [A.os b2 b.length cap2]).length = (X ++ [b]).length := by rw [List.length_append, List.length_append, r1]; rfl
    refine loopQ_view (view_perm (h' := ⟨b', 24, cap' * 1, ((vs ++ [A.os b2 b.length cap2]).map fun a => [a]).flatten⟩ :: stB b8 [.os b' (vs ++ [A.os b2 b.length cap2]).length cap', .os none 0 0] :: stB b4 [.os none 0 0, .os none 0 0] :: ((hs ++ [[(⟨b2, 2, cap2 * 1, (b.map Go.AI.encI).flatten⟩ : Blk)]]).flatten ++ ([] ++ F))) (by
      change List.Perm (_ :: _ :: stB b8 [.os b' (vs ++ [A.os b2 b.length cap2]).length cap', .os none 0 0] :: stB b4 [.os none 0 0, .os none 0 0] :: (hs.flatten ++ ([] ++ F))) _
      classical exact List.perm_iff_count.2 fun _ => by simp only [List.count_cons, List.count_append, List.count_nil, List.flatten_append, List.flatten_cons, List.flatten_nil]; omega)) ?_
    rw [eN]
    refine loopQ_next ((k + 1, X ++ [b], vs ++ [A.os b2 b.length cap2], hs ++ [[(⟨b2, 2, cap2 * 1, (b.map Go.AI.encI).flatten⟩ : Blk)]], .os none 0 0, []), b', cap') ⟨by dsimp only; omega, ⟨fun _ => ?_, fun q => by dsimp only at q; omega⟩, R.snoc (.inl ⟨b2, cap2, rfl, rfl⟩), fun _ => ⟨rfl, rfl⟩, fun q => by dsimp only at q; omega⟩ (by dsimp only; omega) rfl ⟨rfl, rfl, rfl, rfl, rfl, rfl, nx _, trivial⟩
    dsimp only
    rw [List.take_succ_eq_append_getElem hkL, List.map_append, ← xe, List.map_singleton, hrd]
  by_cases hn : k = p.parents.length
  case pos =>
    subst hn
    have a2 := ao.1 (Nat.le_refl _)
    obtain ⟨rfl, rfl⟩ := a2
    have xe := xc.1 (Nat.le_refl _)
    have hkL : p.parents.length < (lnW t).length := by omega
    have xk : X.length = p.parents.length := by rw [xe, List.length_map, List.length_take]; omega
    have wl := (lw (lnW t)[p.parents.length] (List.getElem_mem hkL)).1
    have tl : (trimP around7 (lnW t)[p.parents.length]).length ≤ (lnW t)[p.parents.length].length := by unfold trimP; split <;> simp
    have ry : (rdS p t).around = rdB p.kinds.toNat (trimP around7 (lnW t)[p.parents.length]) := by
      unfold rdS
      rw [getD_at hkL]
    have lst : IsStT p t → IsBagT p.kinds.toNat (trimP around7 (lnW t)[p.parents.length]) := fun q => by
      obtain ⟨b, e, hb⟩ := isStT_last q hkL
      rw [e, trimP_app]; exact hb
    have cR := o_readBag p.kinds.toNat (trimP around7 (lnW t)[p.parents.length]) (by omega) (by omega)
    rw [hkn] at cR
    repeat' (first
      | (refine j_go ?_; first
        | refine j_op0 rfl rfl rfl rfl ?_ | (refine j_kIdx rfl ?_; first | refine j_idx rfl rfl rfl rfl rfl (by omega) rfl rfl rfl ?_) | (refine j_kLen rfl ?_; first | refine j_len rfl rfl rfl rfl rfl rfl ?_) | (refine j_kCall rfl rfl rfl rfl ?_; first | refine jc (c_CutPrefix (lnW t)[p.parents.length] around7) (LeL.refl _) rfl rfl ?_))
      | refine j_nil ?_
      | (refine r_go ?_; first | refine run_seq ?_ | refine run_region ?_ | (refine (run_if rfl (fun hb => ?_) (fun hb => ?_)) <;> first | (exfalso; omega) | skip) | refine run_block ?_ | refine run_skip ?_)
      | refine seqQ_normal ?_)
    refine j_kCall rfl rfl rfl rfl ?_
    refine jcp _ cR (List.Perm.refl _) (LeL.refl _) rfl rfl (fun v h1 hR => ?_)
    obtain ⟨a, rfl, hro⟩ := hR
    by_cases hB : IsBagT p.kinds.toNat (trimP around7 (lnW t)[p.parents.length])
    case neg =>
      rw [dec_f hB]
      repeat' (first
      | (refine j_go ?_; first
        | refine j_op0 rfl rfl rfl rfl ?_ | refine j_build rfl rfl rfl rfl rfl rfl rfl ?_)
      | refine j_nil ?_
      | (refine r_go ?_; first | refine run_seq ?_ | refine run_region ?_ | refine run_cond_t rfl ?_)
      | refine seqQ_normal ?_)
      refine j_view (view_sub (h0 := stB b4 [.os none 0 0, .os none 0 0] :: F) ?_) ?_
      · refine List.Sublist.trans ?_ (List.sublist_append_right h1 _)
        exact List.Sublist.cons _ (List.Sublist.cons _ ((List.sublist_append_right hs.flatten F).cons_cons _))
      repeat' (first
      | (refine j_go ?_; first
        | refine j_op0 rfl rfl rfl rfl ?_ | (refine j_kStore rfl ?_; first | refine j_storeN 0 rfl rfl rfl rfl rfl rfl rfl rfl rfl rfl rfl ?_))
      | refine j_nil ?_
      | (refine r_go ?_; first | refine run_ret ?_)
      | refine seqQ_normal ?_ | refine seqQ_ret ?_ | refine blockQ_ret ?_ | refine loopQ_ret ?_)
      exact drp (fun q => hB (lst q)) _ _ rfl rfl (List.Sublist.refl _)
    rw [dec_t hB]
    rcases hro hB with ⟨b2, cap2, rfl, rfl⟩ | ⟨hz, _, _⟩
    case inr => exact absurd (congrArg List.length hz) (by rw [rdB_len]; simp; omega)
    generalize hrd : rdB p.kinds.toNat (trimP around7 (lnW t)[p.parents.length]) = b
    repeat' (first
      | (refine j_go ?_; first
        | refine j_op0 rfl rfl rfl rfl ?_ | (refine j_kBin rfl ?_; first | refine j_in rfl rfl ⟨by omega, by omega⟩ rfl rfl ?_) | (refine j_kLen rfl ?_; first | refine j_len rfl rfl rfl rfl rfl rfl ?_) | (refine j_kStore rfl ?_; first | refine j_store 2 rfl rfl rfl rfl rfl rfl rfl rfl rfl rfl rfl ?_))
      | refine j_nil ?_
      | (refine r_go ?_; first | refine run_seq ?_ | refine run_region ?_ | refine run_cond_f rfl ?_ | (refine (run_if rfl (fun hb => ?_) (fun hb => ?_)) <;> first | (exfalso; omega) | skip) | refine run_skip ?_)
      | refine seqQ_normal ?_ | refine blockQ_normal ?_)
    refine loopQ_view (view_perm (h' := ⟨ob, 24, cp * 1, (vs.map fun a => [a]).flatten⟩ :: stB b8 [.os ob X.length cp, .os b2 b.length cap2] :: stB b4 [.os none 0 0, .os none 0 0] :: (hs.flatten ++ ([(⟨b2, 2, cap2 * 1, (b.map Go.AI.encI).flatten⟩ : Blk)] ++ F))) (by
      change List.Perm (_ :: _ :: stB b8 [.os ob X.length cp, .os b2 b.length cap2] :: stB b4 [.os none 0 0, .os none 0 0] :: (hs.flatten ++ ([] ++ F))) _
      classical exact List.perm_iff_count.2 fun _ => by simp only [List.count_cons, List.count_append, List.count_nil]; omega)) ?_
    refine loopQ_next ((p.parents.length + 1, X, vs, hs, .os b2 b.length cap2, [(⟨b2, 2, cap2 * 1, (b.map Go.AI.encI).flatten⟩ : Blk)]), ob, cp) ⟨Nat.le_refl _, ⟨fun q => by dsimp only at q; omega, fun _ => xe⟩, R, fun q => by dsimp only at q; omega, fun _ => ?_⟩ (by dsimp only; omega) rfl ⟨rfl, rfl, rfl, rfl, rfl, rfl, nx _, trivial⟩
    dsimp only
    rw [ry, hrd]
    exact .inl ⟨b2, cap2, rfl, rfl⟩
  have hke : k = p.parents.length + 1 := by omega
  subst hke
  have xe := xc.2 rfl
  have hr := ao.2 rfl
  have oka := OwnF.okc hr
  have ro : ROStock (rdS p t) (.agg [.os ob X.length cp, ar]) ((⟨ob, 24, cp * 1, (vs.map fun a => [a]).flatten⟩ :: hs.flatten) ++ har) := by
    rw [xe] at R ⊢
    exact ⟨_, _, R.ii ob cp, ar, har, hr, rfl, rfl⟩
  have cT := gT (c_iStockText p (rdS p t))
  repeat' (first
      | (refine j_go ?_; first
        | refine j_op0 rfl rfl rfl rfl ?_ | (refine j_kLoad rfl ?_; first | refine j_mload 1 rfl rfl rfl rfl rfl rfl rfl ?_))
      | refine j_nil ?_
      | (refine r_go ?_; first | refine run_seq ?_ | refine run_region ?_ | (refine (run_if rfl (fun hb => ?_) (fun hb => ?_)) <;> first | (exfalso; omega) | skip) | refine run_exit ?_)
      | refine seqQ_normal ?_ | refine seqQ_exit ?_ | refine blockQ_eq ?_ | refine loopQ_exit ?_)
  refine j_kCall rfl rfl rfl rfl ?_
  refine jctq ((⟨ob, 24, cp * 1, (vs.map fun a => [a]).flatten⟩ :: hs.flatten) ++ har) cT (clo_str _) (fun k hk => by
    rcases List.mem_append.1 hk with hk | hk
    · rcases List.mem_cons.1 hk with rfl | hk
      · simp
      · simp [hk]
    · simp [hk]) (FrzL.cons (Frz.same _ _) (FrzL.cons ro.frz (FrzL.nil _))) rfl rfl ?_
  repeat' (first
      | (refine j_go ?_; first
        | refine j_op0 rfl rfl rfl rfl ?_ | (refine j_kLoad rfl ?_; first | refine j_mload 1 rfl rfl rfl rfl rfl rfl rfl ?_) | (refine j_kStore rfl ?_; first | refine j_storeN 2 rfl rfl rfl rfl rfl rfl rfl rfl rfl rfl rfl ?_) | refine j_build rfl rfl rfl rfl rfl rfl rfl ?_)
      | refine j_nil ?_
      | (refine r_go ?_; first | refine run_seq ?_ | refine run_region ?_ | (refine (run_ifn rfl (fun hb => ?_) (fun hb => ?_)) <;> first | (exfalso; omega) | skip) | refine run_ret ?_ | refine run_skip ?_)
      | refine seqQ_normal ?_ | refine seqQ_ret ?_)
  · refine drp (rdS_not hv (by assumption)) _ _ rfl rfl ?_
    change List.Sublist _ (_ :: _ :: stB b4 [.os none 0 0, .os none 0 0] :: (hs.flatten ++ (har ++ F)))
    exact List.Sublist.cons _ (List.Sublist.cons _ (((List.sublist_append_right har F).trans (List.sublist_append_right hs.flatten _)).cons_cons _))
  · have q := rdS_is hv t0 (by assumption)
    rw [(rs_yes hv q).1, (rs_yes hv q).2]
    refine j_storeN 2 rfl rfl rfl rfl rfl rfl rfl rfl (show [A.os ob X.length cp, ar].all okCell = true by simp only [List.all_cons, List.all_nil, oka]; rfl) rfl rfl ?_
    repeat' (first
      | (refine j_go ?_; first
        | refine j_op0 rfl rfl rfl rfl ?_)
      | refine j_nil ?_
      | (refine r_go ?_; first | refine run_ret ?_)
      | refine seqQ_normal ?_)
    refine endD_view (view_freezeP 2 4 rfl rfl) ?_
    refine endD_view (view_erase 1) ?_
    exact endD_ret (h1 := (⟨ob, 24, cp * 1, (vs.map fun a => [a]).flatten⟩ :: hs.flatten) ++ har) (by simp [List.append_assoc]) (.cons (.cellI rfl rfl) (.cons (.tmp rfl) .nil)) (Le.refl _) ⟨_, rfl, ro⟩ (.inl rfl)
theorem len_ReadStock (p : Passing) (t : List UInt8) (_ : t.length ≤ 1048576) : rcStock (resReadStock p t) ≤ 40 := by
  obtain ⟨h1, h2, h3⟩ := resReadStock_small p t
  have := mcnt_le2 (f := List.length) (l := (resReadStock p t).cells) h1 h2
  unfold rcStock
  omega
end Go.Proofs.YtmcljepicadjfaaGreatDoor

/-
  The law FnExactReadStock answers true whatever it reads. No condition.
-/
namespace Go.Proofs.YtmcljepicadjfaaGreatDoor
open Go.AI
set_option maxRecDepth 8000
set_option maxHeartbeats 1600000

theorem c_FnExactReadStock (a0 : Passing) (a1 : List UInt8) : Gives Tryz.prog 5 [.agg (encPassing a0), .str a1] (.raw (.bool true)) := by
  refine fn_of_run tyOk ztOk mix Tryz.func5 rfl (by decide) Tryz.ntmps5 (fun w0 h => ?_)
  repeat' (first
      | (refine j_go ?_; first
        | refine j_op0 rfl rfl rfl rfl ?_ | (refine j_kLen rfl ?_; first | refine j_op rfl rfl rfl rfl ?_) | refine j_box rfl rfl rfl rfl rfl rfl ?_)
      | refine j_nil ?_
      | (refine r_go ?_; first | refine run_seq ?_ | refine run_region ?_ | (refine (run_if rfl (fun hb => ?_) (fun hb => ?_)) <;> first | (exfalso; omega) | skip) | refine run_ret ?_ | refine run_skip ?_)
      | refine seqQ_normal ?_ | refine seqQ_ret ?_)
  · exact end1 rfl (List.Sublist.refl _) (rfl) (.inl rfl)
  have hs1 : a1.length ≤ 1048576 := by omega
  have cS := c_sReadStock a0 a1 hs1
  have cI := c_iReadStock a0 a1 hs1
  have hlen := len_ReadStock a0 a1 hs1
  generalize resReadStock a0 a1 = r at cS cI hlen
  generalize codeReadStock a0 a1 = cd at cS cI
  repeat' (first
      | (refine j_go ?_; first
        | refine j_op0 rfl rfl rfl rfl ?_ | (refine j_kCall rfl rfl rfl rfl ?_; first | refine jc (c_szPassing _ _ (by omega) (by omega)) (LeL.refl _) rfl rfl ?_))
      | refine j_nil ?_
      | (refine r_go ?_; first | refine run_seq ?_ | refine run_region ?_ | (refine (run_if rfl (fun hb => ?_) (fun hb => ?_)) <;> first | (exfalso; omega) | skip) | refine run_ret ?_ | refine run_skip ?_)
      | refine seqQ_normal ?_ | refine seqQ_ret ?_)
  · exact end1 rfl (List.Sublist.refl _) (rfl) (.inl rfl)
  have ok0 := szPassing_ok (by omega) (by omega) hb
  have le0 := szPassing_le (left := 1048576) (x := a0) (by omega) (by omega)
  skip
  first | (refine j_kCall rfl rfl rfl rfl ?_; refine jc (c_toPassing a0 ok0) (LeL.refl _) rfl rfl ?_) | (refine j_kCallO rfl rfl rfl rfl ?_; refine jcO (c_toPassing a0 ok0) (LeL.refl _) rfl rfl ?_)
  repeat' (first
      | (refine j_go ?_; first
        | refine j_op0 rfl rfl rfl rfl ?_ | (refine j_kCall rfl rfl rfl rfl ?_; first | refine jc (cS) (LeL.refl _) rfl rfl ?_) | (refine j_kStore rfl ?_; first | refine j_storeN 0 rfl rfl rfl rfl rfl rfl rfl rfl rfl rfl rfl ?_) | refine j_alloc rfl rfl rfl rfl rfl (fun _ => ?_))
      | refine j_nil ?_
      | (refine r_go ?_; first | refine run_seq ?_ | refine run_region ?_)
      | refine seqQ_normal ?_)
  refine j_view (view_freezeP 0 6 rfl rfl) ?_
  refine j_kCall rfl rfl rfl rfl ?_
  refine jcp _ (n_toPassing a0 ok0) (List.Perm.refl _) (LeL.refl _) rfl rfl (fun v0 m0 o0 => ?_)
  obtain ⟨cs0, rfl, E0⟩ := o0
  have fz0 := Frz.agg (EPassing_frz _ _ _ E0)
  obtain ⟨a0_0, m0_0, o0_0, a0_1, m0_1, o0_1, a0_2, m0_2, o0_2, ecs0, em0⟩ := id E0
  obtain ⟨b0_0, eb0_0⟩ := o0_0.isos
  obtain ⟨b0_1, eb0_1⟩ := o0_1.isos
  obtain ⟨b0_2, eb0_2⟩ := o0_2.isos
  subst ecs0 eb0_0 eb0_1 eb0_2
  clear em0 o0_0 o0_1 o0_2
  repeat' (first
      | (refine j_go ?_; first
        | refine j_op0 rfl rfl rfl rfl ?_ | (refine j_kLoad rfl ?_; first | refine j_mload 0 rfl rfl rfl rfl rfl rfl rfl ?_) | (refine j_kStore rfl ?_; first | refine j_storeN 0 rfl rfl rfl rfl rfl rfl rfl rfl rfl rfl rfl ?_) | refine j_alloc rfl rfl rfl rfl rfl (fun _ => ?_))
      | refine j_nil ?_
      | (refine r_go ?_; first | refine run_seq ?_ | refine run_region ?_)
      | refine seqQ_normal ?_)
  refine j_view (view_freezeP 0 8 rfl rfl) ?_
  refine j_kCall rfl rfl rfl rfl ?_
  refine jct (m0) cI (fun k hk => by simp [hk]) (FrzL.cons (Frz.mono (fun _ hk => by simp [hk]) fz0) (FrzL.cons (Frz.same _ _) (FrzL.nil _))) (fun v h1 ⟨a, q1, q2⟩ => ⟨by rw [q1]; exact Clo.tup (CloL.cons q2.clo.1 (CloL.cons (Clo.int _) CloL.nil)), q2.clo.2⟩) rfl rfl (fun v hg hR => ?_)
  obtain ⟨ar, rfl, oR⟩ := hR
  obtain ⟨ra0, ra1, rfl, okr⟩ := oR.cells
  repeat' (first
      | (refine j_go ?_; first
        | refine j_op0 rfl rfl rfl rfl ?_ | refine j_alloc rfl rfl rfl rfl rfl (fun _ => ?_)))
  refine j_storeN 0 rfl rfl rfl rfl rfl rfl rfl rfl okr rfl rfl ?_
  refine j_view (view_freezeP 0 9 rfl rfl) ?_
  have cE := c_eqStock r r
  rw [dec_t rfl] at cE
  have fg := oR.frz
  repeat' (first
      | (refine j_go ?_; first
        | refine j_op0 rfl rfl rfl rfl ?_)
      | refine j_nil ?_
      | (refine r_go ?_; first | refine run_seq ?_ | refine run_region ?_)
      | refine seqQ_normal ?_)
  refine j_kCall rfl rfl rfl rfl ?_
  refine jctq hg cE (Clo.raw _) (fun k hk => by simp [hk]) (FrzL.cons fg (FrzL.cons (Frz.same _ _) (FrzL.nil _))) rfl rfl ?_
  repeat' (first
      | (refine j_go ?_; first
        | refine j_op0 rfl rfl rfl rfl ?_ | (refine j_kCall rfl rfl rfl rfl ?_; first | refine jc (c_toPassing a0 ok0) (LeL.refl _) rfl rfl ?_))
      | refine j_nil ?_
      | (refine r_go ?_; first | refine run_seq ?_ | (refine (run_ifn rfl (fun hb => ?_) (fun hb => ?_)) <;> first | (exfalso; omega) | skip) | refine run_skip ?_ | refine run_regionD (by kernel_rfl) ?_)
      | refine seqQ_normal ?_)
  all_goals try exact absurd rfl hb
  refine j_kCall rfl rfl rfl rfl ?_
  have cQ := c_eqPassing a0 a0
  rw [dec_t rfl] at cQ
  refine jctq m0 cQ (Clo.raw _) (fun k hk => by simp [hk]) (FrzL.cons fz0 (FrzL.cons (Frz.same _ _) (FrzL.nil _))) rfl rfl ?_
  clear cQ
  have cb0 := cntPassing_le ok0
  have cu0 : cntPassing a0 = 1 + a0.parents.length + a0.free.length + mcnt cntPassRule a0.rules := rfl
  repeat' (first
      | (refine j_go ?_; first
        | refine j_op0 rfl rfl rfl rfl ?_)
      | refine j_nil ?_
      | (refine r_go ?_; first | refine run_seq ?_ | refine run_region ?_ | refine run_cond_f rfl ?_ | refine run_skip ?_)
      | refine seqQ_normal ?_)
  all_goals try exact absurd rfl hb
  refine j_kCall rfl rfl rfl rfl ?_
  refine jcp _ (m_markPassing a0 _ m0 (1) E0 (by omega)) (pmid2 (l1 := hg) (l2 := [])) (LeL.refl _) rfl rfl (fun v hx hR => ?_)
  obtain ⟨rfl, rfl⟩ := hR
  repeat' (first
      | (refine j_go ?_; first
        | refine j_op0 rfl rfl rfl rfl ?_ | (refine j_kGuard rfl ?_; first | (refine (j_if rfl rfl rfl (fun hb => ?_) (fun hb => ?_)) <;> first | (exfalso; omega) | skip)))
      | refine j_nil ?_
      | (refine r_go ?_; first | refine run_seq ?_ | refine run_region ?_)
      | refine seqQ_normal ?_)
  refine j_kCall rfl rfl rfl rfl ?_
  refine jctq hg cE (Clo.raw _) (fun k hk => by simp [hk]) (FrzL.cons fg (FrzL.cons (Frz.same _ _) (FrzL.nil _))) rfl rfl ?_
  repeat' (first
      | (refine j_go ?_; first
        | refine j_op0 rfl rfl rfl rfl ?_)
      | refine j_nil ?_
      | (refine r_go ?_; first | refine run_seq ?_ | refine run_region ?_ | (refine (run_ifn rfl (fun hb => ?_) (fun hb => ?_)) <;> first | (exfalso; omega) | skip) | refine run_skip ?_)
      | refine seqQ_normal ?_)
  all_goals try exact absurd rfl hb
  refine j_kCall rfl rfl rfl rfl ?_
  refine jcp _ (r_markStock r _ _ 1 oR (by omega)) (List.Perm.refl _) (LeL.refl _) rfl rfl (fun v hx hR => ?_)
  obtain ⟨rfl, oM⟩ := hR
  have fM := oM.frz
  repeat' (first
      | (refine j_go ?_; first
        | refine j_op0 rfl rfl rfl rfl ?_)
      | refine j_nil ?_
      | (refine r_go ?_; first | refine run_seq ?_ | refine run_region ?_)
      | refine seqQ_normal ?_)
  all_goals try exact absurd rfl hb
  refine j_kCall rfl rfl rfl rfl ?_
  refine jctq hx (c_heldStock r 1 (by omega)) (Clo.int _) (fun k hk => by simp [hk]) (FrzL.cons fM (FrzL.cons (Frz.same _ _) (FrzL.nil _))) rfl rfl ?_
  have cF : Gives _ _ _ (.tup [.agg (encStock r), .int cd]) := cI.frozen fun v h1 ⟨a, q1, q2⟩ => by rw [q1]; exact FrzF.tup2 q2.frzF (Clo.int _)
  repeat' (first
      | (refine j_go ?_; first
        | refine j_op0 rfl rfl rfl rfl ?_ | (refine j_kCall rfl rfl rfl rfl ?_; first | refine jc (c_toPassing a0 ok0) (LeL.refl _) rfl rfl ?_ | refine jc (cF) (LeL.refl _) rfl rfl ?_ | refine jc (cE) (LeL.refl _) rfl rfl ?_) | (refine j_kLoad rfl ?_; first | refine j_mload 0 rfl rfl rfl rfl rfl rfl rfl ?_) | (refine j_kStore rfl ?_; first | refine j_storeN 0 rfl rfl rfl rfl rfl rfl rfl rfl rfl rfl rfl ?_) | refine j_alloc rfl rfl rfl rfl rfl (fun _ => ?_))
      | refine j_nil ?_
      | (refine r_go ?_; first | refine run_seq ?_ | refine run_region ?_ | (refine (run_if rfl (fun hb => ?_) (fun hb => ?_)) <;> first | (exfalso; omega) | skip) | (refine (run_ifn rfl (fun hb => ?_) (fun hb => ?_)) <;> first | (exfalso; omega) | skip) | refine run_skip ?_)
      | refine seqQ_normal ?_)
  all_goals try exact absurd rfl hb
  skip
  all_goals try exact absurd rfl hb
  refine j_kCall rfl rfl rfl rfl ?_
  refine jctq hx (c_heldStock r 1 (by omega)) (Clo.int _) (fun k hk => by simp [hk]) (FrzL.cons fM (FrzL.cons (Frz.same _ _) (FrzL.nil _))) rfl rfl ?_
  repeat' (first
      | (refine j_go ?_; first
        | refine j_op0 rfl rfl rfl rfl ?_)
      | refine j_nil ?_
      | (refine r_go ?_; first | refine run_seq ?_ | refine run_region ?_ | (refine (run_if rfl (fun hb => ?_) (fun hb => ?_)) <;> first | (exfalso; omega) | skip) | (refine (run_ifn rfl (fun hb => ?_) (fun hb => ?_)) <;> first | (exfalso; omega) | skip) | refine run_ret ?_ | refine run_skip ?_)
      | refine seqQ_normal ?_)
  all_goals first | exact absurd rfl hb | exact end1 rfl (by repeat' first | exact List.Sublist.refl _ | refine List.Sublist.cons _ ?_ | refine List.Sublist.trans ?_ (List.sublist_append_right _ _)) rfl (.inl rfl)

end Go.Proofs.YtmcljepicadjfaaGreatDoor

/-
  From a row's claim to the walk, where the library's variables stand: their shape and what is listed of them. No condition.
-/
namespace Go.AI
open Go.RowKit
theorem handed_laid {H : Type} {enc : TypeId × Value → H} {a : Assume} {C : Checked} {os : Os} {f : FuncId} {fn : Func} {s : ChangeSpec} {conds : List PathCond} {apart fresh handsOn again : Bool} {X : World → Array Value → Prop}
    (hX : ∀ (w w' : World) (args : Array Value), w.heap = w'.heap → X w args → X w' args)
    (own : ownKnob C.prog.godebug = none) (started : os.Started) (noInit : C.prog.inits.idxOf? f = none) (hfn : C.prog.funcs[f]? = some fn)
    (witness : ∃ (w : World) (tape : Tape) (i : Input), w.os = os ∧ (w.forCall tape i).Shaped C.prog ∧ i.vars = [] ∧ Input.okWide C.prog (w.forCall tape i) .any w.heap.size f i ∧
      ((s.pre enc C.prog fn conds apart (w.forCall tape i).memory i.args ∧ X (w.forCall tape i).memory i.args) ∧ sizedMet enc C.prog fn (OpenSpec.ofChange s) apart (w.forCall tape i).memory i.args) ∧ a.holds C.prog (lone (Frame.enter C.prog f i.args .normal) [] (w.forCall tape i)))
    (contract : ∀ (W : World) (base : Nat) (args : Array Value) (ds gs : List (DataW H)) (before : List MemPlace),
      (∀ (j : Nat) t v, fn.params[j]? = some t → args[j]? = some v → Value.okWide C.prog W .any base t v) →
      DataW.Whole enc C.prog fn.params.toList s.vars apart W args.toList ds gs before →
      W.ShapedOpen C.prog → X W args →
      Calls C.prog f args W fun e W' => ∃ v, e = .returned v ∧ s.post enc C.prog fn apart fresh handsOn again W args v W') :
    ReturnsInHanded a C os f .any (fun w args => (s.pre enc C.prog fn conds apart w args ∧ X w args) ∧ sizedMet enc C.prog fn (OpenSpec.ofChange s) apart w args) (s.post enc C.prog fn apart fresh handsOn again) := by
  refine returnsInHanded_of_calls own started noInit witness (fun w tape i _ hshape _ hok hpre _ => ?_)
  obtain ⟨_, _, _, fn2, hfn2, _, _, _, _, hval⟩ := hok
  cases Option.some.inj (hfn2.symm.trans hfn)
  obtain ⟨⟨⟨ds, gs, before, hw, _⟩, hx⟩, _⟩ := hpre
  have hw2 := DataW.Whole.of_heap (w' := w.forCall tape i) (by rfl) hw
  refine (contract (w.forCall tape i) w.heap.size i.args ds gs before hval hw2 hshape (hX _ _ _ (by rfl) hx)).mono fun e W' ⟨v, he, hp⟩ => ?_
  subst he
  exact ChangeSpec.post_blind hp
theorem if_of_laid {P : Program} {W : World} {l : List (String × DataW Unit)} {n nm : String} {d : DataW Unit} {g ti : Nat} {ms : Array (String × TypeId)} (h : laidMet P l W) (hm : (n, .iface nm d) ∈ l) (hg : P.globalNamed n = some g)
    (ht : (P.globals[g]?).map (·.type) = some ti) (hi : P.underlying ti = some (.interface ms)) : ∃ t u, W.cell? ⟨g, 0, none⟩ = some (.iface t u) := by
  obtain ⟨g0, t0, cs, fuel, p, h1, h2, h3, h4⟩ := Lib.laidMet.reads h hm
  cases Option.some.inj (h1.symm.trans hg)
  cases Option.some.inj (h2.symm.trans ht)
  obtain ⟨f1, u, v, e, _, _⟩ := iface_of_trod hi h4
  refine ⟨u, v, ?_⟩
  rw [World.var?_cell hg h3 0]
  have : cs = #[.iface u v] := by cases cs; simpa using e
  rw [this]; rfl
theorem lt_of_cell {W : World} {g : Nat} {v : Value} (h : W.cell? ⟨g, 0, none⟩ = some v) : g < W.heap.size := by
  unfold World.cell? at h
  cases hb : W.heap[g]? with
  | none => simp only [hb] at h; cases h
  | some o => exact (Array.getElem?_eq_some_iff.1 hb).1
end Go.AI
