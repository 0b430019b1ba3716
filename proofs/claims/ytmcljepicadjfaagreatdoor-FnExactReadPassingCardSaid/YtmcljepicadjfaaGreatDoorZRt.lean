/-
  Passing systems read from texts: ReadPassing of the reference. No condition but that the text is not longer than a machine holds.
-/
import Derived.Test.YtmcljepicadjfaaGreatDoorZRs
import Derived.Test.YtmcljepicadjfaaGreatDoorZRk
namespace Go.Proofs.YtmcljepicadjfaaGreatDoor
open Go.AI Go.RowKit
set_option maxRecDepth 8000
set_option maxHeartbeats 3200000
/-! ### The reference's reader, plain -/
def digS (s : List UInt8) : Int := if s.length = 1 then numA 0 s else -1
theorem sub48 {c : UInt8} (h1 : ¬ c < 48) (h2 : ¬ 57 < c) : (c - 48).toNat ≤ 9 := by
  have h2 : 48 ≤ c.toNat := UInt8.le_iff_toNat_le.1 (UInt8.not_lt.1 h1)
  have h3 : c.toNat ≤ 57 := UInt8.le_iff_toNat_le.1 (UInt8.not_lt.1 ‹_›)
  have : (c - 48).toNat = c.toNat - 48 := by rw [UInt8.toNat_sub_of_le _ _ (UInt8.not_lt.1 h1)]; rfl
  omega
theorem digS_in (s : List UInt8) : -1 ≤ digS s ∧ digS s ≤ 9 := by
  unfold digS
  split
  · rename_i h
    obtain ⟨c, rfl⟩ := List.length_eq_one_iff.1 h
    rw [numA]
    split
    · omega
    · rename_i q
      rw [not_or] at q
      have := sub48 q.1 q.2
      rw [numA]; omega
  · omega
theorem digS_dcm {v : Int} (h : 0 ≤ v ∧ v ≤ 9) : digS (dcm v) = v := by
  rw [dcm_small (by omega)]
  obtain rfl | rfl | rfl | rfl | rfl | rfl | rfl | rfl | rfl | rfl : v = 0 ∨ v = 1 ∨ v = 2 ∨ v = 3 ∨ v = 4 ∨ v = 5 ∨ v = 6 ∨ v = 7 ∨ v = 8 ∨ v = 9 := by omega
  all_goals decide
def parS : List UInt8 → List Int
  | [] => []
  | [c] => [digS [c]]
  | c :: _ :: r => digS [c] :: parS r
theorem parS_cons (c : UInt8) : ∀ s : List UInt8, parS (c :: s) = digS [c] :: parS (s.drop 1)
  | [] => rfl
  | _ :: _ => rfl
theorem parS_text : ∀ (l : List Int) (c : UInt8), (∀ x ∈ l, 0 ≤ x ∧ x ≤ 9) → parS (c :: (l.map vT).flatten) = digS [c] :: l
  | [], c, _ => rfl
  | v :: l, c, h => by
    have hv := h v (by simp)
    have e : vT v = [32, UInt8.ofNat (48 + v).toNat] := by unfold vT; rw [dcm_small (by omega)]; rfl
    have ed := digS_dcm hv
    rw [dcm_small (by omega)] at ed
    rw [List.map_cons, List.flatten_cons, e]
    show digS [c] :: parS (UInt8.ofNat (48 + v).toNat :: (l.map vT).flatten) = _
    rw [parS_text l _ (fun x hx => h x (by simp [hx])), ed]
theorem parS_line {p : Passing} (hv : p.Ok) : parS ((line1 p).drop 6) = p.parents := by
  obtain ⟨l, hl⟩ := vT_head hv
  have e : (line1 p).drop 6 = 45 :: ((p.parents.drop 1).map vT).flatten := rfl
  rw [e, parS_text _ _ (fun x hx => by
    obtain ⟨i, hi, rfl⟩ := List.getElem_of_mem hx
    have := par_in hv hi
    omega), hl]
  rfl
theorem dcm_one {v : Int} (h : 0 ≤ v ∧ v ≤ 9) : (dcm v).length = 1 := by rw [dcm_small (by omega)]; rfl
theorem kinds_line {p : Passing} (hv : p.Ok) : digS ((line0 p).drop 8) = p.kinds := by
  have h1 := hv.1.1
  exact digS_dcm (v := p.kinds) (by omega)
theorem frT_ne (l : List Bool) : 1 ≤ (frT l).length := by
  unfold frT
  split
  · simp
  · rename_i h; exact List.length_pos_iff.2 h
theorem lines_len {p : Passing} (hv : p.Ok) : (line0 p).length = 9 ∧ 7 ≤ (line1 p).length ∧ 6 ≤ (line2 p).length := by
  have h1 := hv.1.1
  have a := dcm_one (v := p.kinds) (by omega)
  have b := frT_ne p.free
  unfold line0 line1 line2 pas8
  simp only [List.length_append, List.length_cons, List.length_nil]
  omega
/-- The free kinds read so far. -/
def frQ (n : Nat) (l : List UInt8) (i : Nat) : List Bool := (List.range n).map fun k => decide (UInt8.ofNat (97 + k) ∈ (l.take i).drop 5)
theorem frQ_len (n : Nat) (l : List UInt8) (i : Nat) : (frQ n l i).length = n := by simp [frQ]
theorem frQ_start (n : Nat) (l : List UInt8) : frQ n l 5 = List.replicate n false := by
  unfold frQ
  have : (l.take 5).drop 5 = [] := by rw [List.drop_take]; simp
  simp only [this, List.not_mem_nil, decide_false, List.map_const', List.length_range]
theorem frQ_all (n : Nat) (l : List UInt8) : frQ n l l.length = frI n l := by
  unfold frQ frI; rw [List.take_length]
theorem frQ_mem {l : List UInt8} {i : Nat} (hi : i < l.length) (h5 : 5 ≤ i) (c : UInt8) : c ∈ (l.take (i + 1)).drop 5 ↔ c ∈ (l.take i).drop 5 ∨ c = l[i] := by
  rw [List.take_succ_eq_append_getElem hi, List.drop_append_of_le_length (by rw [List.length_take]; omega), List.mem_append, List.mem_singleton]
theorem frQ_set {n : Nat} {l : List UInt8} {i k : Nat} (hi : i < l.length) (h5 : 5 ≤ i) (hn : n ≤ 9) (hk : (l[i].toNat : Int) - 97 = (k : Int)) (hkn : k < n) : (frQ n l i).set k true = frQ n l (i + 1) := by
  have ek : UInt8.ofNat (97 + k) = l[i] := by rw [show 97 + k = l[i].toNat from by omega]; exact UInt8.ofNat_toNat
  refine List.ext_getElem (by simp [frQ]) fun j h1 h2 => ?_
  rw [List.getElem_set]
  simp only [frQ, List.getElem_map, List.getElem_range]
  by_cases q : k = j
  · subst q
    rw [if_pos rfl]
    exact (decide_eq_true ((frQ_mem hi h5 _).2 (.inr ek))).symm
  · rw [if_neg q]
    have hj : j < n := by simpa [frQ] using h2
    refine decide_eq_decide.2 ((frQ_mem hi h5 _).trans ?_).symm
    refine ⟨fun z => z.elim id fun z => ?_, .inl⟩
    rw [← ek] at z
    have := congrArg UInt8.toNat z
    rw [UInt8.toNat_ofNat', UInt8.toNat_ofNat'] at this
    omega
theorem frQ_same {n : Nat} {l : List UInt8} {i : Nat} (hi : i < l.length) (h5 : 5 ≤ i) (hn : n ≤ 9) (hk : ¬ (0 ≤ (l[i].toNat : Int) - 97 ∧ (l[i].toNat : Int) - 97 ≤ (n : Int) - 1)) : frQ n l i = frQ n l (i + 1) := by
  refine List.ext_getElem (by simp [frQ]) fun j h1 h2 => ?_
  simp only [frQ, List.getElem_map, List.getElem_range]
  have hj : j < n := by simpa [frQ] using h2
  refine decide_eq_decide.2 ((frQ_mem hi h5 _).trans ?_).symm
  refine ⟨fun z => z.elim id fun z => ?_, .inl⟩
  have := congrArg UInt8.toNat z
  rw [UInt8.toNat_ofNat'] at this
  omega
theorem dig_bad {c : UInt8} (h : c < 48 ∨ 57 < c) : digS [c] = -1 := by unfold digS; rw [if_pos (show [c].length = 1 from rfl), numA, if_pos h]
theorem dig_ok {c : UInt8} (h1 : ¬ c < 48) (h2 : ¬ 57 < c) : digS [c] = ((c - 48).toNat : Int) := by
  unfold digS; rw [if_pos (show [c].length = 1 from rfl), numA, if_neg (by rw [not_or]; exact ⟨h1, h2⟩), numA]; omega
theorem dig_no {s : List UInt8} (h : ¬ s.length = 1) : digS s = -1 := by unfold digS; rw [if_neg h]
theorem c_l06Digit (s : List UInt8) (hs : s.length ≤ 1048576) : Gives Tryz.prog 53 [.str s] (.int (digS s)) := by
  refine fn_of_run tyOk ztOk mix Tryz.func53 rfl (by decide) Tryz.ntmps53 (fun w0 h => ?_)
  by_cases h1 : s.length = 1
  case pos =>
    obtain ⟨c, rfl⟩ := List.length_eq_one_iff.1 h1
    repeat' (first
      | (refine j_go ?_; first
        | refine j_op0 rfl rfl rfl rfl ?_ | refine j_off rfl rfl rfl ?_ | (refine j_kLen rfl ?_; first | refine j_op rfl rfl rfl rfl ?_) | (refine j_kGuard rfl ?_; first | (refine (j_if rfl rfl rfl (fun hb => ?_) (fun hb => ?_)) <;> first | (exfalso; omega) | skip) | (refine (j_ifn rfl rfl rfl (fun hb => ?_) (fun hb => ?_)) <;> first | (exfalso; omega) | skip)) | refine j_siz rfl rfl rfl rfl rfl (by omega) rfl rfl ?_)
      | refine j_nil ?_
      | (refine r_go ?_; first | refine run_seq ?_ | refine run_region ?_ | refine run_cond_t rfl ?_ | (refine (run_if rfl (fun hb => ?_) (fun hb => ?_)) <;> first | (exfalso; omega) | skip) | refine run_ret ?_ | refine run_skip ?_)
      | refine seqQ_normal ?_ | refine seqQ_ret ?_)
    · exact end1 rfl (List.Sublist.refl _) (by rw [dig_bad (.inl (show c < 48 by assumption))]; rfl) (.inl rfl)
    · exact end1 rfl (List.Sublist.refl _) (by rw [dig_bad (.inr (show 57 < c by assumption))]; rfl) (.inl rfl)
    · exact end1 rfl (List.Sublist.refl _) (by rw [dig_ok (show ¬ c < 48 by assumption) (show ¬ 57 < c by assumption)]; rfl) (.inl rfl)
  case neg =>
    repeat' (first
      | (refine j_go ?_; first
        | refine j_op0 rfl rfl rfl rfl ?_ | refine j_off rfl rfl rfl ?_ | (refine j_kLen rfl ?_; first | refine j_op rfl rfl rfl rfl ?_) | (refine j_kGuard rfl ?_; first | (refine (j_ifn rfl rfl rfl (fun hb => ?_) (fun hb => ?_)) <;> first | (exfalso; omega) | skip)))
      | refine j_nil ?_
      | (refine r_go ?_; first | refine run_seq ?_ | refine run_region ?_ | refine run_cond_t rfl ?_ | refine run_ret ?_)
      | refine seqQ_normal ?_ | refine seqQ_ret ?_)
    all_goals first
      | exact end1 rfl (List.Sublist.refl _) (by rw [dig_no h1]; rfl) (.inl rfl)
      | (exfalso; omega)
theorem c_l06Parents (s : List UInt8) (hs : s.length ≤ 1048576) : Gives Tryz.prog 54 [.str s] (.sl ((parS s).map Go.AI.encI)) := by
  refine fn_of_run tyOk ztOk mix Tryz.func54 rfl (by decide) Tryz.ntmps54 (fun w0 h => ?_)
  repeat' (first
      | (refine j_go ?_; first
        | refine j_op0 rfl rfl rfl rfl ?_ | (refine j_kBsl rfl ?_; first | refine j_bs0 rfl rfl rfl rfl rfl rfl ?_))
      | refine j_nil ?_
      | (refine r_go ?_; first | refine run_seq ?_ | refine run_region ?_ | refine run_block ?_)
      | refine seqQ_normal ?_)
  refine run_view (view_none 2 0 rfl) ?_
  refine run_loop (fun x : (Nat × List Int) × Option Nat × Nat => [(0, .str s), (3, .os x.2.1 x.1.2.length x.2.2), (4, .int (x.1.1 : Int))]) (fun x => ⟨x.2.1, 2, x.2.2 * 1, (x.1.2.map Go.AI.encI).flatten⟩ :: h) (fun x => x.1.1 ≤ s.length + 1 ∧ x.1.2.length ≤ x.1.1 ∧ x.1.2 ++ parS (s.drop x.1.1) = parS s) (fun x => s.length + 1 - x.1.1) ((0, []), none, 0) ⟨rfl, rfl, rfl, trivial⟩ rfl ⟨Nat.zero_le _, Nat.zero_le _, rfl⟩ (fun ⟨⟨k, ws⟩, ob, cp⟩ ⟨kl, wl, hq⟩ => ?_)
  dsimp only at kl wl hq ⊢
  by_cases hk : k < s.length
  · have e0 : (s.take ((k : Int) + 1).toNat).drop (k : Int).toNat = [s[k]] := by
      rw [show ((k : Int) + 1).toNat = k + 1 from by omega, Int.toNat_natCast, List.take_succ_eq_append_getElem hk, List.drop_append_of_le_length (by rw [List.length_take]; omega), List.drop_of_length_le (by rw [List.length_take]; omega)]
      rfl
    have cD : Gives Tryz.prog 53 [.str ((s.take ((k : Int) + 1).toNat).drop (k : Int).toNat)] (.int (digS [s[k]])) := by rw [e0]; exact c_l06Digit _ (by simp)
    repeat' (first
      | (refine j_go ?_; first
        | refine j_op0 rfl rfl rfl rfl ?_ | (refine j_kBin rfl ?_; first | refine j_in rfl rfl ⟨by omega, by omega⟩ rfl rfl ?_) | (refine j_kLen rfl ?_; first | refine j_op rfl rfl rfl rfl ?_) | (refine j_kCall rfl rfl rfl rfl ?_; first | refine jc (cD) (LeL.refl _) rfl rfl ?_) | (refine j_kBsl rfl ?_; first | refine j_bsl rfl rfl rfl rfl rfl rfl rfl rfl rfl rfl rfl ?_) | (refine j_kSlice rfl ?_; first | refine j_ss rfl rfl rfl rfl rfl rfl (by omega) rfl rfl ?_))
      | refine j_nil ?_
      | (refine r_go ?_; first | refine run_seq ?_ | refine run_region ?_ | (refine (run_if rfl (fun hb => ?_) (fun hb => ?_)) <;> first | (exfalso; omega) | skip) | refine run_block ?_ | refine run_skip ?_)
      | refine seqQ_normal ?_)
    refine j_append 0 (g := Go.AI.encI) [digS [s[k]]] rfl rfl rfl rfl rfl rfl rfl rfl rfl rfl rfl rfl (fun _ => rfl) (fun _ _ => rfl) ⟨by simp only [List.length_cons, List.length_nil]; omega, by simp only [List.length_cons, List.length_nil]; omega⟩ rfl rfl (fun b' cap' => ?_)
    repeat' (first
      | (refine j_go ?_; first
        | refine j_op0 rfl rfl rfl rfl ?_ | (refine j_kBin rfl ?_; first | refine j_in rfl rfl ⟨by omega, by omega⟩ rfl rfl ?_))
      | refine j_nil ?_
      | (refine r_go ?_; first | refine run_region ?_)
      | refine seqQ_normal ?_ | refine blockQ_normal ?_)
    refine loopQ_next ((k + 2, ws ++ [digS [s[k]]]), b', cap') ⟨by dsimp only; omega, by dsimp only; rw [List.length_append, List.length_singleton]; omega, ?_⟩ (by dsimp only; omega) rfl ⟨rfl, rfl, nx _, trivial⟩
    dsimp only
    rw [← hq, List.drop_eq_getElem_cons hk, parS_cons, List.append_assoc, List.drop_drop]
    rfl
  · rw [List.drop_of_length_le (by omega)] at hq
    have e1 : parS s = ws := by rw [← hq]; simp [parS]
    repeat' (first
      | (refine j_go ?_; first
        | refine j_op0 rfl rfl rfl rfl ?_ | (refine j_kLen rfl ?_; first | refine j_op rfl rfl rfl rfl ?_))
      | refine j_nil ?_
      | (refine r_go ?_; first | refine run_seq ?_ | refine run_region ?_ | (refine (run_if rfl (fun hb => ?_) (fun hb => ?_)) <;> first | (exfalso; omega) | skip) | refine run_ret ?_ | refine run_exit ?_)
      | refine seqQ_normal ?_ | refine seqQ_exit ?_ | refine blockQ_eq ?_ | refine loopQ_exit ?_)
    refine end_view (view_freeze (g := Go.AI.encI) (z := 1) (ys := ws) 0 2 rfl rfl rfl (fun _ => rfl) rfl rfl) ?_
    exact end1 rfl (List.Sublist.refl _) (by rw [e1]) (.inl rfl)
/-! ### A rule's line -/
theorem rule_cutsS {K : Int} {r : PassRule} (h1 : BagK K r.out) : cutR [32] (lineR r) = ([112, 97, 115, 115], dcm r.cell ++ ([32] ++ (bagT r.out ++ (sl3 ++ bagT r.in_))), true) ∧ cutR [32] (dcm r.cell ++ ([32] ++ (bagT r.out ++ (sl3 ++ bagT r.in_)))) = (dcm r.cell, bagT r.out ++ (sl3 ++ bagT r.in_), true) ∧ cutR sl3 (bagT r.out ++ (sl3 ++ bagT r.in_)) = (bagT r.out, bagT r.in_, true) :=
  ⟨cutR_at2 (a := [112, 97, 115, 115]) (noE_one (by decide)), cutR_at2 (noE_one (no32 _)), cutR_at2 (noE_sl (no47b h1.1))⟩
theorem o_l06ReadRule (K : Int) (l : List UInt8) (hl : l.length ≤ 1048576) : Does Tryz.prog 56 [.int K, .str l] []
    (fun v h' => h' = [] ∧ ∃ (r : PassRule) (b : Bool), v = .tup [.agg (encPassRule r), .raw (.bool b)] ∧ ∀ r0 : PassRule, l = lineR r0 → BagK K r0.out → BagK K r0.in_ → 0 ≤ r0.cell ∧ r0.cell ≤ 9 → b = true ∧ r = r0) := by
  refine fn_of_runD tyOk ztOk mix Tryz.func56 rfl (by decide) Tryz.ntmps56 (fun w0 F => ?_)
  change Run _ _ _ _ _ F
  have n1 := (cutR_len [32] l).2
  have n2 := cutR_len [32] (cutR [32] l).2.1
  have n3 := cutR_len sl3 (cutR [32] (cutR [32] l).2.1).2.1
  have key : ∀ r0 : PassRule, l = lineR r0 → BagK K r0.out → (cutR [32] l).1 = [112, 97, 115, 115] ∧ (cutR [32] l).2.2 = true ∧ (cutR [32] (cutR [32] l).2.1).1 = dcm r0.cell ∧ (cutR [32] (cutR [32] l).2.1).2.2 = true ∧ cutR sl3 (cutR [32] (cutR [32] l).2.1).2.1 = (bagT r0.out, bagT r0.in_, true) := fun r0 e h => by
    obtain ⟨e1, e2, e3⟩ := rule_cutsS h
    rw [e, e1]
    simp only [e2, e3]
    exact ⟨trivial, trivial, trivial, trivial, trivial⟩
  have k1 := c_l06Cut l [32] hl (by decide) (by decide)
  have k2 := c_l06Cut (cutR [32] l).2.1 [32] (by omega) (by decide) (by decide)
  have k3 := c_l06Cut (cutR [32] (cutR [32] l).2.1).2.1 sl3 (by omega) (by decide) (by decide)
  have kd := c_l06Digit (cutR [32] (cutR [32] l).2.1).1 (by omega)
  generalize cutR sl3 (cutR [32] (cutR [32] l).2.1).2.1 = q3 at n3 key k3
  generalize cutR [32] (cutR [32] l).2.1 = q2 at n2 n3 key k2 k3 kd
  generalize cutR [32] l = q1 at n1 n2 key k1 k2
  have fin : (∀ r0 : PassRule, l = lineR r0 → BagK K r0.out → False) → ∀ (b : Nat) (e : Env) (h1 : Heap) (T r : Nat), lk e 4 = some (.op (some b) 0) → lk e 5 = some (.raw (.bool false)) → h1 = ⟨some b, T, r, [.int 0, .os none 0 0, .os none 0 0]⟩ :: F → endD ty Tryz.f56.results (fun v h' => h' = [] ∧ ∃ (r : PassRule) (b : Bool), v = .tup [.agg (encPassRule r), .raw (.bool b)] ∧ ∀ r0 : PassRule, l = lineR r0 → BagK K r0.out → BagK K r0.in_ → 0 ≤ r0.cell ∧ r0.cell ≤ 9 → b = true ∧ r = r0) F .ret e h1 := fun hn b e h1 T r q1 q2 q3 => by
    subst q3
    exact endD_view (view_freezeP 0 4 q1 rfl) (endD_ret (h1 := []) rfl (vs := [_, _]) (.cons (.cellI rfl rfl) (.cons (.tmp (by rw [lk_cons_ne _ _ (by decide)]; exact q2)) .nil)) (Le.tup (LeL.cons (Le.agg (LeL.cons (Le.refl _) (LeL.cons (Le.nil 0) (LeL.cons (Le.nil 0) LeL.nil)))) (LeL.cons (Le.refl _) LeL.nil))) ⟨rfl, ⟨0, [], []⟩, false, rfl, fun r0 e h1 _ _ => (hn r0 e h1).elim⟩ (.inl rfl))
  repeat' (first
      | (refine j_go ?_; first
        | refine j_op0 rfl rfl rfl rfl ?_ | refine j_off rfl rfl rfl ?_ | (refine j_kCall rfl rfl rfl rfl ?_; first | refine jc (k1) (LeL.refl _) rfl rfl ?_ | refine jc (k2) (LeL.refl _) rfl rfl ?_ | refine jc (k3) (LeL.refl _) rfl rfl ?_) | (refine j_kStore rfl ?_; first | refine j_storeN 0 rfl rfl rfl rfl rfl rfl rfl rfl rfl rfl rfl ?_) | (refine j_kGuard rfl ?_; first | (refine (j_branch rfl rfl rfl (fun hb => ?_) (fun hb => ?_)) <;> skip; (fail_if_success guard_hyp hb : true = true); (fail_if_success guard_hyp hb : true = false); (fail_if_success guard_hyp hb : false = true); (fail_if_success guard_hyp hb : false = false))) | refine j_build rfl rfl rfl rfl rfl rfl rfl ?_ | refine j_alloc rfl rfl rfl rfl rfl (fun _ => ?_))
      | refine j_nil ?_
      | (refine r_go ?_; first | refine run_seq ?_ | refine run_region ?_ | refine run_cond_t rfl ?_ | (refine (run_ifn rfl (fun hb => ?_) (fun hb => ?_)) <;> first | (exfalso; omega) | skip) | refine run_ret ?_ | refine run_skip ?_)
      | refine seqQ_normal ?_ | refine seqQ_ret ?_)
  case' refine_1.refine_1.refine_1.refine_2 =>
    have hw : q1.1 = [112, 97, 115, 115] := by assumption
    refine j_kCall rfl rfl rfl rfl ?_
    refine jcp _ (o_sReadBag K q3.1 (by omega)) (List.Perm.refl _) (LeL.refl _) rfl rfl (fun v h1 hR => ?_)
    obtain ⟨rfl, b1, cd1, rfl, hb81, hr1⟩ := hR
    repeat' (first
      | (refine j_go ?_; first
        | refine j_op0 rfl rfl rfl rfl ?_)
      | refine j_nil ?_
      | (refine r_go ?_; first | refine run_seq ?_ | refine run_region ?_)
      | refine seqQ_normal ?_)
    refine j_kCall rfl rfl rfl rfl ?_
    refine jcp _ (o_sReadBag K q3.2.1 (by omega)) (List.Perm.refl _) (LeL.refl _) rfl rfl (fun v h1 hR => ?_)
    obtain ⟨rfl, b2, cd2, rfl, hb82, hr2⟩ := hR
    have fits : ∀ r0 : PassRule, l = lineR r0 → BagK K r0.out → BagK K r0.in_ → 0 ≤ r0.cell ∧ r0.cell ≤ 9 → cd1 = 0 ∧ cd2 = 0 ∧ (⟨digS q2.1, b1, b2⟩ : PassRule) = r0 := fun r0 e h1 h2 h3 => by
      obtain ⟨_, _, e3, _, e5⟩ := key r0 e h1
      rw [e5] at hr1 hr2
      have i1 := hr1 ⟨r0.out, h1.1, bagK_n h1, rfl⟩
      have i2 := hr2 ⟨r0.in_, h2.1, bagK_n h2, rfl⟩
      rw [rdB_k h1] at i1
      rw [rdB_k h2] at i2
      refine ⟨i1.1, i2.1, ?_⟩
      rw [i1.2, i2.2, e3, digS_dcm h3]
    repeat' (first
      | (refine j_go ?_; first
        | refine j_op0 rfl rfl rfl rfl ?_ | refine j_off rfl rfl rfl ?_ | (refine j_kCall rfl rfl rfl rfl ?_; first | refine jc (kd) (LeL.refl _) rfl rfl ?_) | (refine j_kStore rfl ?_; first | refine j_storeN 0 rfl rfl rfl rfl rfl rfl rfl rfl rfl rfl rfl ?_) | (refine j_kGuard rfl ?_; first | (refine (j_if rfl rfl rfl (fun hb => ?_) (fun hb => ?_)) <;> first | (exfalso; omega) | skip)) | refine j_build rfl rfl rfl rfl rfl rfl rfl ?_)
      | refine j_nil ?_
      | (refine r_go ?_; first | refine run_seq ?_ | refine run_region ?_ | refine run_ret ?_)
      | refine seqQ_normal ?_)
    · exact endD_view (view_freezeP 0 4 rfl rfl) (endD_ret (h1 := []) rfl (vs := [_, _]) (.cons (.cellI rfl rfl) (.cons (.tmp rfl) .nil)) (Le.refl _) ⟨rfl, ⟨digS q2.1, b1, b2⟩, dec (cd2 = 0), rfl, fun r0 e h1 h2 h3 => ⟨dec_t (fits r0 e h1 h2 h3).2.1, (fits r0 e h1 h2 h3).2.2⟩⟩ (.inl rfl))
    · exact endD_view (view_freezeP 0 4 rfl rfl) (endD_ret (h1 := []) rfl (vs := [_, _]) (.cons (.cellI rfl rfl) (.cons (.tmp rfl) .nil)) (Le.refl _) ⟨rfl, ⟨digS q2.1, b1, b2⟩, false, rfl, fun r0 e h1 h2 h3 => absurd (fits r0 e h1 h2 h3).1 (by assumption)⟩ (.inl rfl))
  all_goals exact fin (fun r0 e h1 => by obtain ⟨a, b, c, d, f⟩ := key r0 e h1; simp_all) _ _ _ _ _ rfl rfl rfl
end Go.Proofs.YtmcljepicadjfaaGreatDoor
