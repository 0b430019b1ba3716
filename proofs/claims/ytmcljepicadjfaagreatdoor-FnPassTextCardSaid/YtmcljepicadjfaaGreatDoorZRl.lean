/-
  The program's reader of parts of a text; ReadPassing of the program. No condition but that the text is not longer than a machine holds.
-/
import Derived.Test.YtmcljepicadjfaaGreatDoorZRw
import Derived.Test.YtmcljepicadjfaaGreatDoorZPS9
namespace Go.Proofs.YtmcljepicadjfaaGreatDoor
open Go.AI Go.RowKit
set_option maxRecDepth 8000
set_option maxHeartbeats 3200000
theorem cut_len (s p : List UInt8) : (Lib.cut s p).1.length ≤ s.length ∧ (Lib.cut s p).2.1.length ≤ s.length := by
  unfold Lib.cut
  split <;> simp only [List.length_take, List.length_drop, List.length_nil] <;> omega
theorem c_Cut (s p : List UInt8) (hs : s.length < 4294967281) : Gives Tryz.prog 89 [.str s, .str p] (.tup [.str (Lib.cut s p).1, .str (Lib.cut s p).2.1, .raw (.bool (Lib.cut s p).2.2)]) := by
  refine ⟨⟨Tryz.f89, Tryz.func89, by decide, by rfl⟩, fun h w vs hrel hh => ?_⟩
  obtain ⟨v1, us, rfl, h1, h2⟩ := hrel.uncons
  obtain ⟨v2, us2, rfl, h3, h4⟩ := h2.uncons
  have hnl : us2 = [] := List.eq_nil_of_length_eq_zero h4.1
  subst hnl
  obtain ⟨rfl, _⟩ := h1.str_inv
  obtain ⟨rfl, _⟩ := h3.str_inv
  obtain ⟨_, m, hm⟩ := hh.tab.max
  have big : (4294967281 : Nat) ≤ maxLn := by decide
  have cl := cut_len s p
  refine (Tryz.strings_Cut ⟨s.toArray⟩ ⟨p.toArray⟩ m w (by rw [str_size]; exact hs) hm).mono fun e w' ⟨e1, k, e2⟩ => ⟨_, e1, ?_, ?_⟩
  · subst e2
    exact Chg.ofExt hh ⟨rfl, rfl, rfl, Nat.le_refl _, fun _ _ _ => rfl⟩
  · exact .tup [.str (Lib.cut s p).1, .str (Lib.cut s p).2.1, .raw (.bool (Lib.cut s p).2.2)] [_, _, _] rfl fun j hj hj' => by
      match j, hj with
      | 0, _ => exact .str _ (by omega)
      | 1, _ => exact .str _ (by omega)
      | 2, _ => exact .raw _
theorem mem_indexByte (c : UInt8) : ∀ s : List UInt8, 0 ≤ Lib.indexByte s c ↔ c ∈ s
  | [] => by simp [Lib.indexByte]
  | b :: s => by
    have ih := mem_indexByte c s
    have hg := Lib.indexByte_ge s c
    rw [Lib.indexByte]
    by_cases hb : b = c
    · subst hb; simp
    · have hb2 : (b == c) = false := by simpa using hb
      have hc : ¬ c = b := fun q => hb q.symm
      rw [hb2]
      simp only [Bool.false_eq_true, if_false, List.mem_cons, hc, false_or]
      by_cases hi : Lib.indexByte s c = -1
      · have h2 : (Lib.indexByte s c == -1) = true := by simpa using hi
        rw [if_pos h2, ← ih]; omega
      · have h2 : ¬ (Lib.indexByte s c == -1) = true := by simpa using hi
        rw [if_neg h2, ← ih]; omega
theorem c_Contains (s : List UInt8) (c : UInt8) : Gives Tryz.prog 34 [.str s, .str [c]] (.raw (.bool (decide (c ∈ s)))) := by
  refine ⟨⟨Tryz.f34, Tryz.func34, by decide, by rfl⟩, fun h w vs hrel hh => ?_⟩
  obtain ⟨v1, us, rfl, h1, h2⟩ := hrel.uncons
  obtain ⟨v2, us2, rfl, h3, h4⟩ := h2.uncons
  have hnl : us2 = [] := List.eq_nil_of_length_eq_zero h4.1
  subst hnl
  obtain ⟨rfl, _⟩ := h1.str_inv
  obtain ⟨rfl, _⟩ := h3.str_inv
  refine (Tryz.strings_Contains_one ⟨s.toArray⟩ c w).mono fun e w' ⟨e1, e2⟩ => ⟨_, e1, ?_, ?_⟩
  · subst e2; exact Chg.refl hh
  · rw [show decide (c ∈ s) = decide (0 ≤ Lib.indexByte s c) from decide_eq_decide.2 (mem_indexByte c s).symm]
    exact .raw _
/-- A reader's block. -/
abbrev rdrB (b : Nat) (rest : List UInt8) (bad : Bool) : Blk := ⟨some b, 71, 2, [.str rest, .raw (.bool bad)]⟩
theorem o_upTo (b : Nat) (rest p : List UInt8) (bad : Bool) (hs : rest.length < 4294967281) : Does Tryz.prog 35 [.op (some b) 0, .str p] [rdrB b rest bad]
    (fun v h' => v = .str (Lib.cut rest p).1 ∧ h' = [rdrB b (Lib.cut rest p).2.1 (bad || !(Lib.cut rest p).2.2)]) := by
  refine fn_of_runD tyOk ztOk mix Tryz.func35 rfl (by decide) Tryz.ntmps35 (fun w0 F => ?_)
  change Run _ _ _ _ _ (rdrB b rest bad :: F)
  cases bad
  all_goals
    repeat' (first
      | (refine j_go ?_; first
        | refine j_op0 rfl rfl rfl rfl ?_ | refine j_off rfl rfl rfl ?_ | (refine j_kCall rfl rfl rfl rfl ?_; first | refine jc (c_Cut rest p hs) (LeL.refl _) rfl rfl ?_) | (refine j_kLoad rfl ?_; first | refine j_mload 0 rfl rfl rfl rfl rfl rfl rfl ?_) | (refine j_kStore rfl ?_; first | refine j_store 0 rfl rfl rfl rfl rfl rfl rfl rfl rfl rfl rfl ?_))
      | refine j_nil ?_
      | (refine r_go ?_; first | refine run_seq ?_ | refine run_region ?_ | refine run_ret ?_)
      | refine seqQ_normal ?_)
    all_goals exact endD_ret (h1 := [_]) rfl (.cons (.tmp rfl) .nil) (Le.refl _) ⟨rfl, rfl⟩ (.inl rfl)
theorem o_number (b : Nat) (rest p : List UInt8) (bad : Bool) (hs : rest.length ≤ 1048576) : Does Tryz.prog 36 [.op (some b) 0, .str p] [rdrB b rest bad]
    (fun v h' => v = .int (pIv (Lib.cut rest p).1) ∧ h' = [rdrB b (Lib.cut rest p).2.1 ((bad || !(Lib.cut rest p).2.2) || !pIok (Lib.cut rest p).1)]) := by
  refine fn_of_runD tyOk ztOk mix Tryz.func36 rfl (by decide) Tryz.ntmps36 (fun w0 F => ?_)
  change Run _ _ _ _ _ (rdrB b rest bad :: F)
  have cl := cut_len rest p
  repeat' (first
      | (refine j_go ?_; first
        | refine j_op0 rfl rfl rfl rfl ?_)
      | refine j_nil ?_
      | (refine r_go ?_; first | refine run_seq ?_ | refine run_region ?_)
      | refine seqQ_normal ?_)
  refine j_kCall rfl rfl rfl rfl ?_
  refine jcp F (o_upTo b rest p bad (by omega)) (List.Perm.refl _) (LeL.refl _) rfl rfl (fun v h1 hR => ?_)
  obtain ⟨rfl, rfl⟩ := hR
  generalize (bad || !(Lib.cut rest p).2.2) = bd
  cases hp : pIok (Lib.cut rest p).1
  case false =>
    cases bd
    all_goals
      repeat' (first
      | (refine j_go ?_; first
        | refine j_op0 rfl rfl rfl rfl ?_ | refine j_off rfl rfl rfl ?_ | (refine j_kBin rfl ?_; first | refine j_isnil rfl rfl rfl rfl (by first | exact .inl ⟨rfl, rfl⟩ | exact .inr ⟨rfl, rfl⟩) (by first | exact .inl ⟨rfl, rfl⟩ | exact .inr ⟨rfl, rfl⟩) rfl rfl ?_) | (refine j_kCall rfl rfl rfl rfl ?_; first | refine jc (c_PIbad (Lib.cut rest p).1 (by omega) hp) (LeL.refl _) rfl rfl ?_) | (refine j_kLoad rfl ?_; first | refine j_mload 0 rfl rfl rfl rfl rfl rfl rfl ?_) | (refine j_kStore rfl ?_; first | refine j_store 0 rfl rfl rfl rfl rfl rfl rfl rfl rfl rfl rfl ?_))
      | refine j_nil ?_
      | (refine r_go ?_; first | refine run_seq ?_ | refine run_region ?_ | refine run_ret ?_)
      | refine seqQ_normal ?_)
      all_goals exact endD_ret (h1 := [_]) rfl (.cons (.tmp rfl) .nil) (Le.refl _) ⟨rfl, rfl⟩ (.inl rfl)
  case true =>
    cases bd
    all_goals
      repeat' (first
      | (refine j_go ?_; first
        | refine j_op0 rfl rfl rfl rfl ?_ | refine j_off rfl rfl rfl ?_ | (refine j_kBin rfl ?_; first | refine j_isnil rfl rfl rfl rfl (by first | exact .inl ⟨rfl, rfl⟩ | exact .inr ⟨rfl, rfl⟩) (by first | exact .inl ⟨rfl, rfl⟩ | exact .inr ⟨rfl, rfl⟩) rfl rfl ?_) | (refine j_kCall rfl rfl rfl rfl ?_; first | refine jc (c_PIok (Lib.cut rest p).1 (by omega) hp) (LeL.refl _) rfl rfl ?_) | (refine j_kLoad rfl ?_; first | refine j_mload 0 rfl rfl rfl rfl rfl rfl rfl ?_) | (refine j_kStore rfl ?_; first | refine j_store 0 rfl rfl rfl rfl rfl rfl rfl rfl rfl rfl rfl ?_))
      | refine j_nil ?_
      | (refine r_go ?_; first | refine run_seq ?_ | refine run_region ?_ | refine run_ret ?_)
      | refine seqQ_normal ?_)
      all_goals exact endD_ret (h1 := [_]) rfl (.cons (.tmp rfl) .nil) (Le.refl _) ⟨rfl, rfl⟩ (.inl rfl)
theorem o_bag (b n : Nat) (rest t : List UInt8) (bad : Bool) (hn : 1 ≤ n ∧ n ≤ 8) (ht : t.length ≤ 1048576) : Does Tryz.prog 37 [.op (some b) 0, .int (n : Int), .str t] [rdrB b rest bad]
    (fun v h' => ∃ (h1 : Heap) (ob : Option Nat) (m cp : Nat), v = .os ob m cp ∧ h' = rdrB b rest (bad || !dec (IsBagT n t)) :: h1 ∧ (IsBagT n t → ROI (rdB n t) (.os ob m cp) h1)) := by
  refine fn_of_runD tyOk ztOk mix Tryz.func37 rfl (by decide) Tryz.ntmps37 (fun w0 F => ?_)
  change Run _ _ _ _ _ (rdrB b rest bad :: F)
  repeat' (first
      | (refine j_go ?_; first
        | refine j_op0 rfl rfl rfl rfl ?_)
      | refine j_nil ?_
      | (refine r_go ?_; first | refine run_seq ?_ | refine run_region ?_)
      | refine seqQ_normal ?_)
  refine j_kCall rfl rfl rfl rfl ?_
  refine jcp (rdrB b rest bad :: F) (o_readBag n t hn ht) (List.Perm.refl _) (LeL.refl _) rfl rfl (fun v h1 hR => ?_)
  obtain ⟨ob, m, cp, rfl, hro⟩ := hR
  refine j_view (view_perm (h' := rdrB b rest bad :: (h1 ++ F)) List.perm_middle) ?_
  cases bad
  all_goals
    repeat' (first
      | (refine j_go ?_; first
        | refine j_op0 rfl rfl rfl rfl ?_ | refine j_off rfl rfl rfl ?_ | (refine j_kLoad rfl ?_; first | refine j_mload 0 rfl rfl rfl rfl rfl rfl rfl ?_) | (refine j_kStore rfl ?_; first | refine j_store 0 rfl rfl rfl rfl rfl rfl rfl rfl rfl rfl rfl ?_))
      | refine j_nil ?_
      | (refine r_go ?_; first | refine run_seq ?_ | refine run_region ?_ | refine run_ret ?_)
      | refine seqQ_normal ?_)
    all_goals exact endD_ret (h1 := rdrB b rest _ :: h1) rfl (.cons (.tmp rfl) .nil) (Le.refl _) ⟨h1, ob, m, cp, rfl, rfl, hro⟩ (.inl rfl)
end Go.Proofs.YtmcljepicadjfaaGreatDoor

/-
  Stocks read from texts: ReadStock of the program. No condition but that the text is not longer than a machine holds.
-/
namespace Go.Proofs.YtmcljepicadjfaaGreatDoor
open Go.AI Go.RowKit
set_option maxRecDepth 8000
set_option maxHeartbeats 3200000
theorem rdS_is {p : Passing} {t : List UInt8} (hv : p.Ok) (h0 : t ≠ []) (h : txS (p.Ok ∧ p.StockOk (rdS p t)) (stockT (rdS p t)) = t) : IsStT p t := by
  by_cases q : p.Ok ∧ p.StockOk (rdS p t)
  · rw [txs_t q] at h; exact ⟨_, q.2, h⟩
  · rw [txs_f q] at h; exact absurd h.symm h0
theorem rdS_not {p : Passing} {t : List UInt8} (hv : p.Ok) (h : ¬ txS (p.Ok ∧ p.StockOk (rdS p t)) (stockT (rdS p t)) = t) : ¬ IsStT p t := fun ⟨s, hs, e⟩ => h (by
  rw [← e, rdS_text hs, txs_t ⟨hv, hs⟩])
/-- What ReadStock hands back. -/
def StR (x : Stock) (cd : Int) (v : A) (h : Heap) : Prop := ∃ a, v = .tup [a, .int cd] ∧ ROStock x a h
theorem StR.nil {cd : Int} : StR ⟨[], []⟩ cd (.tup [.agg [.sl [], .sl []], .int cd]) [] := ⟨_, rfl, .sl [], [], .inr ⟨rfl, rfl, rfl⟩, .sl [], [], .inr ⟨rfl, rfl, rfl⟩, rfl, rfl⟩
def CeI (p : Passing) (t : List UInt8) (k : Nat) (X : List (List Int)) : Prop := (k ≤ p.parents.length → X = ((lnW t).take k).map (rdB p.kinds.toNat)) ∧ (k = p.parents.length + 1 → X = (rdS p t).cells)
def ArI (p : Passing) (t : List UInt8) (k : Nat) (ar : A) (har : Heap) : Prop := (k ≤ p.parents.length → ar = .os none 0 0 ∧ har = []) ∧ (k = p.parents.length + 1 → ROI (rdS p t).around ar har)
theorem c_iReadStock (p : Passing) (t : List UInt8) (ht : t.length ≤ 1048576) : Does Tryz.prog 10 [.agg (encPassing p), .str t] [] (StR (resReadStock p t) (codeReadStock p t)) := by
  refine fn_of_runD tyOk ztOk mix Tryz.func10 rfl (by decide) Tryz.ntmps10 (fun w0 F => ?_)
  change Run _ _ _ _ _ F
  have fin : ∀ (c : Int) (b : Nat) (e : Env) (h1 : Heap) (T r : Nat), lk e 4 = some (.op (some b) 0) → lk e 5 = some (.int c) → h1 = ⟨some b, T, r, [.os none 0 0, .os none 0 0]⟩ :: F → endD ty Tryz.f10.results (StR ⟨[], []⟩ c) F .ret e h1 := fun c b e h1 T r q1 q2 q3 => by
    subst q3
    exact endD_view (view_freezeP 0 4 q1 rfl) (endD_ret (h1 := []) rfl (vs := [_, _]) (.cons (.cellI rfl rfl) (.cons (.tmp (by rw [lk_cons_ne _ _ (by decide)]; exact q2)) .nil)) (Le.tup (LeL.cons (Le.agg (LeL.cons (Le.nil 0) (LeL.cons (Le.nil 0) LeL.nil))) (LeL.cons (Le.refl _) LeL.nil))) StR.nil (.inl rfl))
  by_cases hv : p.Ok
  case neg =>
    rw [(rs_inv hv).1, (rs_inv hv).2]
    repeat' (first
      | (refine j_go ?_; first
        | refine j_op0 rfl rfl rfl rfl ?_ | (refine j_kCall rfl rfl rfl rfl ?_; first | refine jc (c_iValidPassing p) (LeL.refl _) rfl rfl ?_) | (refine j_kStore rfl ?_; first | refine j_storeN 0 rfl rfl rfl rfl rfl rfl rfl rfl rfl rfl rfl ?_) | refine j_box rfl rfl rfl rfl rfl rfl ?_ | refine j_build rfl rfl rfl rfl rfl rfl rfl ?_ | refine j_alloc rfl rfl rfl rfl rfl (fun _ => ?_))
      | refine j_nil ?_
      | (refine r_go ?_; first | refine run_seq ?_ | refine run_region ?_ | (refine (run_ifn rfl (fun hb => ?_) (fun hb => ?_)) <;> first | (exfalso; omega) | skip) | refine run_ret ?_ | refine run_skip ?_)
      | refine seqQ_normal ?_ | refine seqQ_ret ?_)
    all_goals first
      | exact absurd (by assumption) hv
      | exact fin 1 _ _ _ _ _ rfl rfl rfl
  have no : ¬ IsStT p t → ∀ e h1, endD ty Tryz.f10.results (StR ⟨[], []⟩ 5) F .ret e h1 → endD ty Tryz.f10.results (StR (resReadStock p t) (codeReadStock p t)) F .ret e h1 := fun hn e h1 q => by
    rw [(rs_no hv hn).1, (rs_no hv hn).2]; exact q
  have h4 := hv.1.2.1
  have hk1 := hv.1.1
  have hkn : ((p.kinds.toNat : Nat) : Int) = p.kinds := by omega
  have ln := lnW_len t
  repeat' (first
      | (refine j_go ?_; first
        | refine j_op0 rfl rfl rfl rfl ?_ | refine j_off rfl rfl rfl ?_ | (refine j_kBin rfl ?_; first | refine j_in rfl rfl ⟨by omega, by omega⟩ rfl rfl ?_) | (refine j_kLen rfl ?_; first | refine j_len rfl rfl rfl rfl rfl rfl ?_) | (refine j_kCall rfl rfl rfl rfl ?_; first | refine jc (c_iValidPassing p) (LeL.refl _) rfl rfl ?_ | refine jc (c_linesOf t ht) (LeL.refl _) rfl rfl ?_) | (refine j_kStore rfl ?_; first | refine j_storeN 0 rfl rfl rfl rfl rfl rfl rfl rfl rfl rfl rfl ?_) | (refine j_kGuard rfl ?_; first | (refine (j_ifn rfl rfl rfl (fun hb => ?_) (fun hb => ?_)) <;> first | (exfalso; omega) | skip)) | refine j_box rfl rfl rfl rfl rfl rfl ?_ | refine j_build rfl rfl rfl rfl rfl rfl rfl ?_ | refine j_alloc rfl rfl rfl rfl rfl (fun _ => ?_))
      | refine j_nil ?_
      | (refine r_go ?_; first | refine run_seq ?_ | refine run_region ?_ | refine run_cond_t rfl ?_ | (refine (run_ifn rfl (fun hb => ?_) (fun hb => ?_)) <;> first | (exfalso; omega) | skip) | refine run_block ?_ | refine run_ret ?_ | refine run_skip ?_)
      | refine seqQ_normal ?_ | refine seqQ_ret ?_)
  · exact absurd hv (by assumption)
  · refine no (fun q => absurd (isStT_ln q).1 (by assumption)) _ _ ?_; exact fin 5 _ _ _ _ _ rfl rfl rfl
  · refine no (fun q => by have := (isStT_ln q).2; omega) _ _ ?_; exact fin 5 _ _ _ _ _ rfl rfl rfl
  rename_i b4 _ _ b8
  have drp : ¬ IsStT p t → ∀ (e : Env) (h1 : Heap), lk e 4 = some (.op (some b4) 0) → lk e 5 = some (.int 5) → (stB b4 [.os none 0 0, .os none 0 0] :: F).Sublist h1 → endD ty Tryz.f10.results (StR (resReadStock p t) (codeReadStock p t)) F .ret e h1 := fun hn e h1 q1 q2 q3 =>
    no hn _ _ (endD_view (view_sub q3) (fin 5 b4 e _ _ _ q1 q2 rfl))
  have hL : (lnW t).length = p.parents.length + 1 := by omega
  have lw := lnW_mem t
  have t0 : t ≠ [] := fun q => by rw [q] at hL; have : (lnW ([] : List UInt8)).length = 0 := rfl; omega
  refine run_view (view_none 24 0 rfl) ?_
  refine run_loop (fun x : (Nat × List (List Int) × List A × List Heap × A × Heap) × Option Nat × Nat => [(1, .str t), (2, .ip (encPassing p)), (4, .op (some b4) 0), (8, .op (some b8) 0), (35, .sl ((lnW t).map encW)), (36, .int (lnW t).length), (37, .int (x.1.1 : Int))])
    (fun x => ⟨x.2.1, 24, x.2.2 * 1, (x.1.2.2.1.map fun a => [a]).flatten⟩ :: stB b8 [.os x.2.1 x.1.2.1.length x.2.2, x.1.2.2.2.2.1] :: stB b4 [.os none 0 0, .os none 0 0] :: (x.1.2.2.2.1.flatten ++ (x.1.2.2.2.2.2 ++ F)))
    (fun x => x.1.1 ≤ p.parents.length + 1 ∧ CeI p t x.1.1 x.1.2.1 ∧ RowsC x.1.2.1 x.1.2.2.1 x.1.2.2.2.1 ∧ ArI p t x.1.1 x.1.2.2.2.2.1 x.1.2.2.2.2.2)
    (fun x => p.parents.length + 1 - x.1.1) ((0, [], [], [], .os none 0 0, []), none, 0) ⟨rfl, rfl, rfl, rfl, rfl, rfl, rfl, trivial⟩ rfl ⟨Nat.zero_le _, ⟨fun _ => rfl, fun q => by dsimp only at q; omega⟩, RowsC.nil, fun _ => ⟨rfl, rfl⟩, fun q => by dsimp only at q; omega⟩ (fun ⟨⟨k, X, vs, hs, ar, har⟩, ob, cp⟩ ⟨kl, xc, R, ao⟩ => ?_)
  dsimp only at kl xc R ao ⊢
  have r1 := R.1
  by_cases hk : k < p.parents.length
  case pos =>
    have a2 := ao.1 (by omega)
    obtain ⟨rfl, rfl⟩ := a2
    have xe := xc.1 (by omega)
    have hkL : k < (lnW t).length := by omega
    have xk : X.length = k := by rw [xe, List.length_map, List.length_take]; omega
    have wl := (lw (lnW t)[k] (List.getElem_mem hkL)).1
    have cR := o_readBag p.kinds.toNat (lnW t)[k] (by omega) (by omega)
    rw [hkn] at cR
    repeat' (first
      | (refine j_go ?_; first
        | refine j_op0 rfl rfl rfl rfl ?_ | (refine j_kIdx rfl ?_; first | refine j_idx rfl rfl rfl rfl rfl (by omega) rfl rfl rfl ?_) | (refine j_kLen rfl ?_; first | refine j_len rfl rfl rfl rfl rfl rfl ?_))
      | refine j_nil ?_
      | (refine r_go ?_; first | refine run_seq ?_ | refine run_region ?_ | (refine (run_if rfl (fun hb => ?_) (fun hb => ?_)) <;> first | (exfalso; omega) | skip) | refine run_block ?_ | refine run_skip ?_)
      | refine seqQ_normal ?_)
    refine j_kCall rfl rfl rfl rfl ?_
    refine jcp _ cR (List.Perm.refl _) (LeL.refl _) rfl rfl (fun v h1 hR => ?_)
    obtain ⟨b2, m2, cap2, rfl, hro⟩ := hR
    by_cases hB : IsBagT p.kinds.toNat (lnW t)[k]
    case neg =>
      rw [dec_f hB]
      repeat' (first
      | (refine j_go ?_; first
        | refine j_op0 rfl rfl rfl rfl ?_ | refine j_build rfl rfl rfl rfl rfl rfl rfl ?_)
      | refine j_nil ?_
      | (refine r_go ?_; first | refine run_seq ?_ | refine run_region ?_ | refine run_cond_t rfl ?_)
      | refine seqQ_normal ?_)
      refine j_view (view_sub (h0 := stB b4 [.os none 0 0, .os none 0 0] :: F) ?_) ?_
      · refine List.Sublist.trans ?_ (List.sublist_append_right h1 _)
        exact List.Sublist.cons _ (List.Sublist.cons _ ((List.sublist_append_right hs.flatten F).cons_cons _))
      repeat' (first
      | (refine j_go ?_; first
        | refine j_op0 rfl rfl rfl rfl ?_ | (refine j_kStore rfl ?_; first | refine j_storeN 0 rfl rfl rfl rfl rfl rfl rfl rfl rfl rfl rfl ?_))
      | refine j_nil ?_
      | (refine r_go ?_; first | refine run_ret ?_)
      | refine seqQ_normal ?_ | refine seqQ_ret ?_ | refine blockQ_ret ?_ | refine loopQ_ret ?_)
      exact drp (fun q => hB (isStT_cell q hkL hk)) _ _ rfl rfl (List.Sublist.refl _)
    rw [dec_t hB]
    rcases hro hB with ⟨b3, cap3, ⟨⟩, rfl⟩ | ⟨hz, _, _⟩
    case inr => exact absurd (congrArg List.length hz) (by rw [rdB_len]; simp; omega)
    generalize hrd : rdB p.kinds.toNat (lnW t)[k] = b
    repeat' (first
      | (refine j_go ?_; first
        | refine j_op0 rfl rfl rfl rfl ?_ | (refine j_kLen rfl ?_; first | refine j_len rfl rfl rfl rfl rfl rfl ?_) | (refine j_kLoad rfl ?_; first | refine j_mload 2 rfl rfl rfl rfl rfl rfl rfl ?_) | (refine j_kBsl rfl ?_; first | refine j_bsl rfl rfl rfl rfl rfl rfl rfl rfl rfl rfl rfl ?_))
      | refine j_nil ?_
      | (refine r_go ?_; first | refine run_seq ?_ | refine run_region ?_ | refine run_cond_f rfl ?_ | (refine (run_if rfl (fun hb => ?_) (fun hb => ?_)) <;> first | (exfalso; omega) | skip) | refine run_skip ?_)
      | refine seqQ_normal ?_)
    refine j_append 1 (g := fun a => [a]) (ys := vs) [A.os b2 b.length cap2] rfl rfl rfl rfl rfl rfl rfl rfl rfl rfl r1.symm rfl (fun _ => rfl) (fun _ hy => by simp only [List.mem_singleton] at hy; subst hy; rfl) ⟨by simp only [List.length_cons, List.length_nil]; omega, by simp only [List.length_cons, List.length_nil]; omega⟩ rfl rfl (fun b' cap' => ?_)
    repeat' (first
      | (refine j_go ?_; first
        | refine j_op0 rfl rfl rfl rfl ?_ | (refine j_kBin rfl ?_; first | refine j_in rfl rfl ⟨by omega, by omega⟩ rfl rfl ?_) | (refine j_kStore rfl ?_; first | refine j_store 2 rfl rfl rfl rfl rfl rfl rfl rfl rfl rfl rfl ?_))
      | refine j_nil ?_
      | (refine r_go ?_; first | refine run_region ?_)
      | refine seqQ_normal ?_ | refine blockQ_normal ?_)
    have eN : (vs ++ [A.os b2 b.length cap2]).length = (X ++ [b]).length := by rw [List.length_append, List.length_append, r1]; rfl
    refine loopQ_view (view_perm (h' := ⟨b', 24, cap' * 1, ((vs ++ [A.os b2 b.length cap2]).map fun a => [a]).flatten⟩ :: stB b8 [.os b' (vs ++ [A.os b2 b.length cap2]).length cap', .os none 0 0] :: stB b4 [.os none 0 0, .os none 0 0] :: ((hs ++ [[(⟨b2, 2, cap2 * 1, (b.map Go.AI.encI).flatten⟩ : Blk)]]).flatten ++ ([] ++ F))) (by
      change List.Perm (_ :: _ :: stB b8 [.os b' (vs ++ [A.os b2 b.length cap2]).length cap', .os none 0 0] :: stB b4 [.os none 0 0, .os none 0 0] :: (hs.flatten ++ ([] ++ F))) _
      classical exact List.perm_iff_count.2 fun _ => by simp only [List.count_cons, List.count_append, List.count_nil, List.flatten_append, List.flatten_cons, List.flatten_nil]; omega)) ?_
    rw [eN]
    refine loopQ_next ((k + 1, X ++ [b], vs ++ [A.os b2 b.length cap2], hs ++ [[(⟨b2, 2, cap2 * 1, (b.map Go.AI.encI).flatten⟩ : Blk)]], .os none 0 0, []), b', cap') ⟨by dsimp only; omega, ⟨fun _ => ?_, fun q => by dsimp only at q; omega⟩, R.snoc (.inl ⟨b2, cap2, rfl, rfl⟩), fun _ => ⟨rfl, rfl⟩, fun q => by dsimp only at q; omega⟩ (by dsimp only; omega) rfl ⟨rfl, rfl, rfl, rfl, rfl, rfl, nx _, trivial⟩
    dsimp only
    rw [List.take_succ_eq_append_getElem hkL, List.map_append, ← xe, List.map_singleton, hrd]
  by_cases hn : k = p.parents.length
  case pos =>
    subst hn
    have a2 := ao.1 (Nat.le_refl _)
    obtain ⟨rfl, rfl⟩ := a2
    have xe := xc.1 (Nat.le_refl _)
    have hkL : p.parents.length < (lnW t).length := by omega
    have xk : X.length = p.parents.length := by rw [xe, List.length_map, List.length_take]; omega
    have wl := (lw (lnW t)[p.parents.length] (List.getElem_mem hkL)).1
    have tl : (trimP around7 (lnW t)[p.parents.length]).length ≤ (lnW t)[p.parents.length].length := by unfold trimP; split <;> simp
    have ry : (rdS p t).around = rdB p.kinds.toNat (trimP around7 (lnW t)[p.parents.length]) := by
      unfold rdS
      rw [getD_at hkL]
    have lst : IsStT p t → IsBagT p.kinds.toNat (trimP around7 (lnW t)[p.parents.length]) := fun q => by
      obtain ⟨b, e, hb⟩ := isStT_last q hkL
      rw [e, trimP_app]; exact hb
    have cR := o_readBag p.kinds.toNat (trimP around7 (lnW t)[p.parents.length]) (by omega) (by omega)
    rw [hkn] at cR
    repeat' (first
      | (refine j_go ?_; first
        | refine j_op0 rfl rfl rfl rfl ?_ | (refine j_kIdx rfl ?_; first | refine j_idx rfl rfl rfl rfl rfl (by omega) rfl rfl rfl ?_) | (refine j_kLen rfl ?_; first | refine j_len rfl rfl rfl rfl rfl rfl ?_) | (refine j_kCall rfl rfl rfl rfl ?_; first | refine jc (c_CutPrefix (lnW t)[p.parents.length] around7) (LeL.refl _) rfl rfl ?_))
      | refine j_nil ?_
      | (refine r_go ?_; first | refine run_seq ?_ | refine run_region ?_ | (refine (run_if rfl (fun hb => ?_) (fun hb => ?_)) <;> first | (exfalso; omega) | skip) | refine run_block ?_ | refine run_skip ?_)
      | refine seqQ_normal ?_)
    refine j_kCall rfl rfl rfl rfl ?_
    refine jcp _ cR (List.Perm.refl _) (LeL.refl _) rfl rfl (fun v h1 hR => ?_)
    obtain ⟨b2, m2, cap2, rfl, hro⟩ := hR
    by_cases hB : IsBagT p.kinds.toNat (trimP around7 (lnW t)[p.parents.length])
    case neg =>
      rw [dec_f hB]
      repeat' (first
      | (refine j_go ?_; first
        | refine j_op0 rfl rfl rfl rfl ?_ | refine j_build rfl rfl rfl rfl rfl rfl rfl ?_)
      | refine j_nil ?_
      | (refine r_go ?_; first | refine run_seq ?_ | refine run_region ?_ | refine run_cond_t rfl ?_)
      | refine seqQ_normal ?_)
      refine j_view (view_sub (h0 := stB b4 [.os none 0 0, .os none 0 0] :: F) ?_) ?_
      · refine List.Sublist.trans ?_ (List.sublist_append_right h1 _)
        exact List.Sublist.cons _ (List.Sublist.cons _ ((List.sublist_append_right hs.flatten F).cons_cons _))
      repeat' (first
      | (refine j_go ?_; first
        | refine j_op0 rfl rfl rfl rfl ?_ | (refine j_kStore rfl ?_; first | refine j_storeN 0 rfl rfl rfl rfl rfl rfl rfl rfl rfl rfl rfl ?_))
      | refine j_nil ?_
      | (refine r_go ?_; first | refine run_ret ?_)
      | refine seqQ_normal ?_ | refine seqQ_ret ?_ | refine blockQ_ret ?_ | refine loopQ_ret ?_)
      exact drp (fun q => hB (lst q)) _ _ rfl rfl (List.Sublist.refl _)
    rw [dec_t hB]
    rcases hro hB with ⟨b3, cap3, ⟨⟩, rfl⟩ | ⟨hz, _, _⟩
    case inr => exact absurd (congrArg List.length hz) (by rw [rdB_len]; simp; omega)
    generalize hrd : rdB p.kinds.toNat (trimP around7 (lnW t)[p.parents.length]) = b
    repeat' (first
      | (refine j_go ?_; first
        | refine j_op0 rfl rfl rfl rfl ?_ | (refine j_kBin rfl ?_; first | refine j_in rfl rfl ⟨by omega, by omega⟩ rfl rfl ?_) | (refine j_kLen rfl ?_; first | refine j_len rfl rfl rfl rfl rfl rfl ?_) | (refine j_kStore rfl ?_; first | refine j_store 2 rfl rfl rfl rfl rfl rfl rfl rfl rfl rfl rfl ?_))
      | refine j_nil ?_
      | (refine r_go ?_; first | refine run_seq ?_ | refine run_region ?_ | refine run_cond_f rfl ?_ | (refine (run_if rfl (fun hb => ?_) (fun hb => ?_)) <;> first | (exfalso; omega) | skip) | refine run_skip ?_)
      | refine seqQ_normal ?_ | refine blockQ_normal ?_)
    refine loopQ_view (view_perm (h' := ⟨ob, 24, cp * 1, (vs.map fun a => [a]).flatten⟩ :: stB b8 [.os ob X.length cp, .os b2 b.length cap2] :: stB b4 [.os none 0 0, .os none 0 0] :: (hs.flatten ++ ([(⟨b2, 2, cap2 * 1, (b.map Go.AI.encI).flatten⟩ : Blk)] ++ F))) (by
      change List.Perm (_ :: _ :: stB b8 [.os ob X.length cp, .os b2 b.length cap2] :: stB b4 [.os none 0 0, .os none 0 0] :: (hs.flatten ++ ([] ++ F))) _
      classical exact List.perm_iff_count.2 fun _ => by simp only [List.count_cons, List.count_append, List.count_nil]; omega)) ?_
    refine loopQ_next ((p.parents.length + 1, X, vs, hs, .os b2 b.length cap2, [(⟨b2, 2, cap2 * 1, (b.map Go.AI.encI).flatten⟩ : Blk)]), ob, cp) ⟨Nat.le_refl _, ⟨fun q => by dsimp only at q; omega, fun _ => xe⟩, R, fun q => by dsimp only at q; omega, fun _ => ?_⟩ (by dsimp only; omega) rfl ⟨rfl, rfl, rfl, rfl, rfl, rfl, nx _, trivial⟩
    dsimp only
    rw [ry, hrd]
    exact .inl ⟨b2, cap2, rfl, rfl⟩
  have hke : k = p.parents.length + 1 := by omega
  subst hke
  have xe := xc.2 rfl
  have hr := ao.2 rfl
  have oka := OwnF.okc hr
  have ro : ROStock (rdS p t) (.agg [.os ob X.length cp, ar]) ((⟨ob, 24, cp * 1, (vs.map fun a => [a]).flatten⟩ :: hs.flatten) ++ har) := by
    rw [xe] at R ⊢
    exact ⟨_, _, R.ii ob cp, ar, har, hr, rfl, rfl⟩
  have cT := gT (c_iStockText p (rdS p t))
  repeat' (first
      | (refine j_go ?_; first
        | refine j_op0 rfl rfl rfl rfl ?_ | (refine j_kLoad rfl ?_; first | refine j_mload 1 rfl rfl rfl rfl rfl rfl rfl ?_))
      | refine j_nil ?_
      | (refine r_go ?_; first | refine run_seq ?_ | refine run_region ?_ | (refine (run_if rfl (fun hb => ?_) (fun hb => ?_)) <;> first | (exfalso; omega) | skip) | refine run_exit ?_)
      | refine seqQ_normal ?_ | refine seqQ_exit ?_ | refine blockQ_eq ?_ | refine loopQ_exit ?_)
  refine j_kCall rfl rfl rfl rfl ?_
  refine jctq ((⟨ob, 24, cp * 1, (vs.map fun a => [a]).flatten⟩ :: hs.flatten) ++ har) cT (clo_str _) (fun k hk => by
    rcases List.mem_append.1 hk with hk | hk
    · rcases List.mem_cons.1 hk with rfl | hk
      · simp
      · simp [hk]
    · simp [hk]) (FrzL.cons (Frz.same _ _) (FrzL.cons ro.frz (FrzL.nil _))) rfl rfl ?_
  repeat' (first
      | (refine j_go ?_; first
        | refine j_op0 rfl rfl rfl rfl ?_ | (refine j_kLoad rfl ?_; first | refine j_mload 1 rfl rfl rfl rfl rfl rfl rfl ?_) | (refine j_kStore rfl ?_; first | refine j_storeN 2 rfl rfl rfl rfl rfl rfl rfl rfl rfl rfl rfl ?_) | refine j_build rfl rfl rfl rfl rfl rfl rfl ?_)
      | refine j_nil ?_
      | (refine r_go ?_; first | refine run_seq ?_ | refine run_region ?_ | (refine (run_ifn rfl (fun hb => ?_) (fun hb => ?_)) <;> first | (exfalso; omega) | skip) | refine run_ret ?_ | refine run_skip ?_)
      | refine seqQ_normal ?_ | refine seqQ_ret ?_)
  · refine drp (rdS_not hv (by assumption)) _ _ rfl rfl ?_
    change List.Sublist _ (_ :: _ :: stB b4 [.os none 0 0, .os none 0 0] :: (hs.flatten ++ (har ++ F)))
    exact List.Sublist.cons _ (List.Sublist.cons _ (((List.sublist_append_right har F).trans (List.sublist_append_right hs.flatten _)).cons_cons _))
  · have q := rdS_is hv t0 (by assumption)
    rw [(rs_yes hv q).1, (rs_yes hv q).2]
    refine j_storeN 2 rfl rfl rfl rfl rfl rfl rfl rfl (show [A.os ob X.length cp, ar].all okCell = true by simp only [List.all_cons, List.all_nil, oka]; rfl) rfl rfl ?_
    repeat' (first
      | (refine j_go ?_; first
        | refine j_op0 rfl rfl rfl rfl ?_)
      | refine j_nil ?_
      | (refine r_go ?_; first | refine run_ret ?_)
      | refine seqQ_normal ?_)
    refine endD_view (view_freezeP 2 4 rfl rfl) ?_
    refine endD_view (view_erase 1) ?_
    exact endD_ret (h1 := (⟨ob, 24, cp * 1, (vs.map fun a => [a]).flatten⟩ :: hs.flatten) ++ har) (by simp [List.append_assoc]) (.cons (.cellI rfl rfl) (.cons (.tmp rfl) .nil)) (Le.refl _) ⟨_, rfl, ro⟩ (.inl rfl)
end Go.Proofs.YtmcljepicadjfaaGreatDoor
