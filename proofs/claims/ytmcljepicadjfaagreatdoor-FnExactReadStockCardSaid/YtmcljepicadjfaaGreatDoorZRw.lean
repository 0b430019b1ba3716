/-
  Texts of stocks: StockText. No condition.
-/
import Derived.Test.YtmcljepicadjfaaGreatDoorZRe
import Derived.Test.YtmcljepicadjfaaGreatDoorZS6a
import Derived.Test.YtmcljepicadjfaaGreatDoorZRc
import Derived.Test.YtmcljepicadjfaaGreatDoorZR6
import Derived.Test.YtmcljepicadjfaaGreatDoorZRf
import Derived.Test.YtmcljepicadjfaaGreatDoorZS2b
import Derived.Test.YtmcljepicadjfaaGreatDoorZVC
namespace Go.Proofs.YtmcljepicadjfaaGreatDoor
open Go.AI Go.RowKit
set_option maxRecDepth 8000
set_option maxHeartbeats 3200000
open Classical in
/-- A text where a condition holds, else the empty one. -/
noncomputable def txS (p : Prop) (l : List UInt8) : List UInt8 := if p then l else []
theorem txs_t {p : Prop} (h : p) (l : List UInt8) : txS p l = l := by unfold txS; rw [if_pos h]
theorem txs_f {p : Prop} (h : ¬p) (l : List UInt8) : txS p l = [] := by unfold txS; rw [if_neg h]
def lineT (b : List Int) : List UInt8 := bagT b ++ [10]
def stockT (s : Stock) : List UInt8 := catK lineT s.cells s.cells.length ++ [97, 114, 111, 117, 110, 100, 32] ++ bagT s.around ++ [10]
theorem stock_len {p : Passing} {s : Stock} (hv : p.Ok) (hs : p.StockOk s) (k : Nat) : (catK lineT s.cells k).length ≤ 1000 := by
  have h1 := hv.1.1
  have h4 := hv.1.2.1
  have hl := hs.1
  have := catK_len (g := lineT) (M := 200) (l := s.cells) (fun b hb => by
    have q := hs.2.2.1 b hb
    have bl := bagT_len (bag_in q.1)
    have := q.2
    unfold lineT
    simp only [List.length_append, List.length_cons, List.length_nil]; omega) k
  omega

theorem c_sBagText (b : List Int) (hb0 : Bag b) : Gives Tryz.prog 98 [.sl (b.map Go.AI.encI)] (.str (bagT b)) := by
  refine fn_of_run tyOk ztOk mix Tryz.func98 rfl (by decide) Tryz.ntmps98 (fun w0 h => ?_)
  repeat' (first
      | (refine j_go ?_; first
        | refine j_op0 rfl rfl rfl rfl ?_ | (refine j_kCall rfl rfl rfl rfl ?_; first | refine jc (c_l01Bag _) (LeL.refl _) rfl rfl ?_ | refine jc (c_l01Text _ hb0) (LeL.refl _) rfl rfl ?_))
      | refine j_nil ?_
      | (refine r_go ?_; first | refine run_seq ?_ | refine run_region ?_ | (refine (run_ifn rfl (fun hb => ?_) (fun hb => ?_)) <;> first | (exfalso; omega) | skip) | refine run_ret ?_ | refine run_skip ?_)
      | refine seqQ_normal ?_ | refine seqQ_ret ?_)
  all_goals first
    | exact absurd hb0 (by assumption)
    | exact end1 rfl (List.Sublist.refl _) (rfl) (.inl rfl)

theorem c_l06StockText (p : Passing) (s : Stock) (hv : p.Ok) (hs : p.StockOk s) : Gives Tryz.prog 74 [.ip (encStock s)] (.str (stockT s)) := by
  refine fn_of_run tyOk ztOk mix Tryz.func74 rfl (by decide) Tryz.ntmps74 (fun w0 h => ?_)
  have h1 := hv.1.1
  have h4 := hv.1.2.1
  have hl := hs.1
  have ha := hs.2.1.1
  have al := bagT_len (bag_in ha)
  have a8 := ha.2
  repeat' (first
      | (refine j_go ?_; first
        | refine j_op0 rfl rfl rfl rfl ?_)
      | refine j_nil ?_
      | (refine r_go ?_; first | refine run_seq ?_ | refine run_region ?_ | refine run_block ?_)
      | refine seqQ_normal ?_)
  refine run_loop (fun k : Nat => [(0, .ip (encStock s)), (3, .str (catK lineT s.cells k)), (4, .int (k : Int))]) (fun _ => _) (fun k => k ≤ s.cells.length ∧ (True)) (fun k => s.cells.length - k) 0 ⟨rfl, (by first | rfl | exact si (by first | omega | (simp; done) | (simp [sumF]; done) | (simp; omega)) | exact raw_f (by simp) | exact raw_t (by simp) | exact sa (by first | (rw [catK_zero]; rfl) | (rw [catK_zero, List.append_nil]; rfl) | (rw [catK_zero, List.append_nil]) | (rw [joinK_zero, List.append_nil]; rfl) | (rw [joinK_zero, List.append_nil]) | (simp [catK]; done))), rfl, trivial⟩ rfl ⟨Nat.zero_le _, by first | (intros; omega) | (simp; done) | rfl | trivial | exact ⟨by simp [sumF], by intros; omega⟩ | exact ⟨by omega, by simp⟩⟩ (fun k ⟨kl, kp⟩ => ?_)
  have cl := stock_len hv hs k
  by_cases hk : k < s.cells.length
  · have es := catK_succ lineT hk
    have hb0 := (hs.2.2.1 _ (List.getElem_mem hk)).1
    have bl := bagT_len (bag_in hb0)
    have b8 := hb0.2
    repeat' (first
      | (refine j_go ?_; first
        | refine j_op0 rfl rfl rfl rfl ?_ | (refine j_kIdx rfl ?_; first | refine j_idx rfl rfl rfl rfl rfl (by omega) rfl rfl rfl ?_) | (refine j_kBin rfl ?_; first | refine j_in rfl rfl ⟨by omega, by omega⟩ rfl rfl ?_ | refine j_cat rfl rfl rfl rfl (by first | omega | (simp only [List.length_append, List.length_cons, List.length_nil]; omega)) rfl rfl ?_) | (refine j_kLen rfl ?_; first | refine j_len rfl rfl rfl rfl rfl rfl ?_) | (refine j_kCall rfl rfl rfl rfl ?_; first | refine jc (c_sBagText _ hb0) (LeL.refl _) rfl rfl ?_))
      | refine j_nil ?_
      | (refine r_go ?_; first | refine run_seq ?_ | refine run_region ?_ | (refine (run_if rfl (fun hb => ?_) (fun hb => ?_)) <;> first | (exfalso; omega) | skip) | refine run_block ?_ | refine run_skip ?_)
      | refine seqQ_normal ?_ | refine blockQ_normal ?_)
    exact loopQ_nextD (k + 1) ⟨by omega, trivial⟩ (by omega) (by first | exact List.Sublist.refl _ | exact sub1 | exact sub2 | exact sub3) ⟨rfl, (by first | rfl | (exact sa (by rw [es]; unfold lineT; simp only [List.append_assoc] <;> rfl)) | exact si (by omega)), nx _, trivial⟩
  · have hke : k = s.cells.length := by omega
    subst hke
    repeat' (first
      | (refine j_go ?_; first
        | refine j_op0 rfl rfl rfl rfl ?_ | (refine j_kBin rfl ?_; first | refine j_cat rfl rfl rfl rfl (by first | omega | (simp only [List.length_append, List.length_cons, List.length_nil]; omega)) rfl rfl ?_) | (refine j_kLen rfl ?_; first | refine j_len rfl rfl rfl rfl rfl rfl ?_) | (refine j_kCall rfl rfl rfl rfl ?_; first | refine jc (c_sBagText _ ha) (LeL.refl _) rfl rfl ?_))
      | refine j_nil ?_
      | (refine r_go ?_; first | refine run_seq ?_ | refine run_region ?_ | (refine (run_if rfl (fun hb => ?_) (fun hb => ?_)) <;> first | (exfalso; omega) | skip) | refine run_ret ?_ | refine run_exit ?_)
      | refine seqQ_normal ?_ | refine seqQ_exit ?_ | refine blockQ_eq ?_ | refine loopQ_exit ?_)
    exact end1 rfl (List.Sublist.refl _) (rfl) (.inl rfl)


theorem c_iStockText (p : Passing) (s : Stock) : GivesT Tryz.prog KT 11 [.agg (encPassing p), .agg (encStock s)] (.str (txS (p.Ok ∧ p.StockOk s) (stockT s))) := by
  refine fn_of_runT tyOk ztOk mix Tryz.func11 rfl (by decide) Tryz.ntmps11 (fun w0 h hK => ?_)
  repeat' (first
      | (refine j_go ?_; first
        | refine j_op0 rfl rfl rfl rfl ?_ | (refine j_kLen rfl ?_; first | refine j_len rfl rfl rfl rfl rfl rfl ?_) | (refine j_kCall rfl rfl rfl rfl ?_; first | refine jc (c_iValidStock _ _) (LeL.refl _) rfl rfl ?_) | refine j_box rfl rfl rfl rfl rfl rfl ?_)
      | refine j_nil ?_
      | (refine r_go ?_; first | refine run_seq ?_ | refine run_region ?_ | (refine (run_ifn rfl (fun hb => ?_) (fun hb => ?_)) <;> first | (exfalso; omega) | skip) | refine run_block ?_ | refine run_ret ?_ | refine run_skip ?_)
      | refine seqQ_normal ?_ | refine seqQ_ret ?_)
  · exact end1 rfl (List.Sublist.refl _) (st (by rw [txs_f hb])) (.inl rfl)
  have hv := hb.1
  have hs := hb.2
  have h1 := hv.1.1
  have h4 := hv.1.2.1
  have hl := hs.1
  have ha := hs.2.1.1
  have al := bagT_len (bag_in ha)
  have a8 := ha.2
  skip
  refine run_loop (fun k : Nat => [(3, .ip (encStock s)), (13, .sl (s.cells.map (encS Go.AI.encI))), (14, .int s.cells.length), (5, .str (catK lineT s.cells k)), (15, .int (k : Int))]) (fun _ => _) (fun k => k ≤ s.cells.length ∧ (True)) (fun k => s.cells.length - k) 0 ⟨rfl, rfl, rfl, (by first | rfl | exact si (by first | omega | (simp; done) | (simp [sumF]; done) | (simp; omega)) | exact raw_f (by simp) | exact raw_t (by simp) | exact sa (by first | (rw [catK_zero]; rfl) | (rw [catK_zero, List.append_nil]; rfl) | (rw [catK_zero, List.append_nil]) | (rw [joinK_zero, List.append_nil]; rfl) | (rw [joinK_zero, List.append_nil]) | (simp [catK]; done))), rfl, trivial⟩ rfl ⟨Nat.zero_le _, by first | (intros; omega) | (simp; done) | rfl | trivial | exact ⟨by simp [sumF], by intros; omega⟩ | exact ⟨by omega, by simp⟩⟩ (fun k ⟨kl, kp⟩ => ?_)
  have cl := stock_len hv hs k
  by_cases hk : k < s.cells.length
  · have es := catK_succ lineT hk
    have hb0 := (hs.2.2.1 _ (List.getElem_mem hk)).1
    have bl := bagT_len (bag_in hb0)
    have b8 := hb0.2
    repeat' (first
      | (refine j_go ?_; first
        | refine j_op0 rfl rfl rfl rfl ?_ | (refine j_kIdx rfl ?_; first | refine j_idx rfl rfl rfl rfl rfl (by omega) rfl rfl rfl ?_) | (refine j_kBin rfl ?_; first | refine j_in rfl rfl ⟨by omega, by omega⟩ rfl rfl ?_ | refine j_cat rfl rfl rfl rfl (by first | omega | (simp only [List.length_append, List.length_cons, List.length_nil]; omega)) rfl rfl ?_) | (refine j_kCall rfl rfl rfl rfl ?_; first | refine jcT (by first | exact hK | exact List.mem_cons_of_mem _ hK | exact List.mem_cons_of_mem _ (List.mem_cons_of_mem _ hK) | simp [hK]) (c_bagText _ hb0) (LeL.refl _) rfl rfl ?_))
      | refine j_nil ?_
      | (refine r_go ?_; first | refine run_seq ?_ | refine run_region ?_ | (refine (run_if rfl (fun hb => ?_) (fun hb => ?_)) <;> first | (exfalso; omega) | skip) | refine run_block ?_ | refine run_skip ?_)
      | refine seqQ_normal ?_ | refine blockQ_normal ?_)
    exact loopQ_nextD (k + 1) ⟨by omega, trivial⟩ (by omega) (by first | exact List.Sublist.refl _ | exact sub1 | exact sub2 | exact sub3) ⟨rfl, rfl, rfl, (by first | rfl | (exact sa (by rw [es]; unfold lineT; simp only [List.append_assoc] <;> rfl)) | exact si (by omega)), nx _, trivial⟩
  · have hke : k = s.cells.length := by omega
    subst hke
    repeat' (first
      | (refine j_go ?_; first
        | refine j_op0 rfl rfl rfl rfl ?_ | (refine j_kBin rfl ?_; first | refine j_cat rfl rfl rfl rfl (by first | omega | (simp only [List.length_append, List.length_cons, List.length_nil]; omega)) rfl rfl ?_) | (refine j_kCall rfl rfl rfl rfl ?_; first | refine jcT (by first | exact hK | exact List.mem_cons_of_mem _ hK | exact List.mem_cons_of_mem _ (List.mem_cons_of_mem _ hK) | simp [hK]) (c_bagText _ ha) (LeL.refl _) rfl rfl ?_))
      | refine j_nil ?_
      | (refine r_go ?_; first | refine run_seq ?_ | refine run_region ?_ | (refine (run_if rfl (fun hb => ?_) (fun hb => ?_)) <;> first | (exfalso; omega) | skip) | refine run_ret ?_ | refine run_exit ?_)
      | refine seqQ_normal ?_ | refine seqQ_exit ?_ | refine blockQ_eq ?_ | refine loopQ_exit ?_)
    exact end1 rfl (List.Sublist.refl _) (st (by rw [txs_t ⟨hv, hs⟩]; rfl)) (.inl rfl)

end Go.Proofs.YtmcljepicadjfaaGreatDoor

/-
  Stocks read from texts: ReadStock of the reference. No condition but that the text is not longer than a machine holds.
-/
namespace Go.Proofs.YtmcljepicadjfaaGreatDoor
open Go.AI Go.RowKit
set_option maxRecDepth 8000
set_option maxHeartbeats 3200000
def around7 : List UInt8 := [97, 114, 111, 117, 110, 100, 32]
theorem stock_lines (s : Stock) : stockT s = ((s.cells.map bagT ++ [around7 ++ bagT s.around]).map fun w => w ++ [10]).flatten := by
  unfold stockT
  rw [show catK lineT s.cells s.cells.length = (s.cells.map lineT).flatten from catK_all _ _, List.map_append, List.flatten_append, List.map_map]
  simp only [List.map_cons, List.map_nil, List.flatten_cons, List.flatten_nil, List.append_nil, List.append_assoc]
  rfl
theorem bagK_n {k : Int} {b : List Int} (h : BagK k b) : b.length = k.toNat := by have := h.2; omega
theorem no10b {b : List Int} (h : Bag b) : (10 : UInt8) ∉ bagT b := bagT_no h.2.2 (by decide) (by decide)
theorem stock_ln {p : Passing} {s : Stock} (hs : p.StockOk s) : lnW (stockT s) = s.cells.map bagT ++ [around7 ++ bagT s.around] ∧ lnE (stockT s) = [] := ln_lines (fun x hx => by
  rcases List.mem_append.1 hx with hx | hx
  · obtain ⟨b, hb, rfl⟩ := List.mem_map.1 hx
    exact no10b (hs.2.2.1 b hb).1
  · rw [List.mem_singleton] at hx
    subst hx
    intro q
    rcases List.mem_append.1 q with q | q
    · revert q; decide
    · exact no10b hs.2.1.1 q) (stock_lines s)
def IsStT (p : Passing) (t : List UInt8) : Prop := ∃ s, p.StockOk s ∧ stockT s = t
def rdS (p : Passing) (t : List UInt8) : Stock := ⟨((lnW t).take p.parents.length).map (rdB p.kinds.toNat), rdB p.kinds.toNat (trimP around7 ((lnW t).getD p.parents.length []))⟩
theorem rdB_k {k : Int} {b : List Int} (h : BagK k b) : rdB k.toNat (bagT b) = b := by rw [← bagK_n h]; exact rdB_bag h.1
theorem rdS_text {p : Passing} {s : Stock} (hs : p.StockOk s) : rdS p (stockT s) = s := by
  unfold rdS
  have hl : (s.cells.map bagT).length = p.parents.length := by rw [List.length_map]; exact hs.1
  rw [(stock_ln hs).1, List.take_append_of_le_length (by omega), List.take_of_length_le (by omega), List.map_map, map_id2 (l := s.cells) (g := rdB p.kinds.toNat ∘ bagT) (fun b hb => rdB_k (hs.2.2.1 b hb))]
  rw [show (s.cells.map bagT ++ [around7 ++ bagT s.around]).getD p.parents.length [] = around7 ++ bagT s.around from by rw [← hl]; simp, trimP_app, rdB_k hs.2.1]
theorem isStT_ln {p : Passing} {t : List UInt8} (h : IsStT p t) : lnE t = [] ∧ (lnW t).length = p.parents.length + 1 := by
  obtain ⟨s, hs, rfl⟩ := h
  refine ⟨(stock_ln hs).2, ?_⟩
  rw [(stock_ln hs).1, List.length_append, List.length_map, hs.1]; rfl
theorem isStT_cell {p : Passing} {t : List UInt8} (h : IsStT p t) {k : Nat} (hk : k < (lnW t).length) (hn : k < p.parents.length) : IsBagT p.kinds.toNat (lnW t)[k] := by
  obtain ⟨s, hs, rfl⟩ := h
  have hc : k < s.cells.length := by rw [hs.1]; exact hn
  have hb := hs.2.2.1 _ (List.getElem_mem hc)
  refine ⟨s.cells[k], hb.1, bagK_n hb, ?_⟩
  simp only [(stock_ln hs).1]
  rw [List.getElem_append_left (by simpa using hc), List.getElem_map]
theorem isStT_last {p : Passing} {t : List UInt8} (h : IsStT p t) (hk : p.parents.length < (lnW t).length) : ∃ b, (lnW t)[p.parents.length] = around7 ++ b ∧ IsBagT p.kinds.toNat b := by
  obtain ⟨s, hs, rfl⟩ := h
  have hl : (s.cells.map bagT).length = p.parents.length := by rw [List.length_map]; exact hs.1
  refine ⟨bagT s.around, ?_, s.around, hs.2.1.1, bagK_n hs.2.1, rfl⟩
  simp only [(stock_ln hs).1, ← hl]
  simp
open Classical in
noncomputable def resReadStock (p : Passing) (t : List UInt8) : Stock := if p.Ok ∧ IsStT p t then rdS p t else ⟨[], []⟩
open Classical in
noncomputable def codeReadStock (p : Passing) (t : List UInt8) : Int := if p.Ok then (if IsStT p t then 0 else 5) else 1
theorem rs_yes {p : Passing} {t : List UInt8} (hv : p.Ok) (h : IsStT p t) : resReadStock p t = rdS p t ∧ codeReadStock p t = 0 := by unfold resReadStock codeReadStock; rw [if_pos ⟨hv, h⟩, if_pos hv, if_pos h]; exact ⟨rfl, rfl⟩
theorem rs_no {p : Passing} {t : List UInt8} (hv : p.Ok) (h : ¬ IsStT p t) : resReadStock p t = ⟨[], []⟩ ∧ codeReadStock p t = 5 := by unfold resReadStock codeReadStock; rw [if_neg (fun q => h q.2), if_pos hv, if_neg h]; exact ⟨rfl, rfl⟩
theorem rs_inv {p : Passing} {t : List UInt8} (hv : ¬ p.Ok) : resReadStock p t = ⟨[], []⟩ ∧ codeReadStock p t = 1 := by unfold resReadStock codeReadStock; rw [if_neg (fun q => hv q.1), if_neg hv]; exact ⟨rfl, rfl⟩
theorem resReadStock_small (p : Passing) (t : List UInt8) : (resReadStock p t).cells.length ≤ 4 ∧ (∀ c ∈ (resReadStock p t).cells, c.length ≤ 8) ∧ (resReadStock p t).around.length ≤ 8 := by
  by_cases h : p.Ok ∧ IsStT p t
  · obtain ⟨s, hs, rfl⟩ := h.2
    have h4 := h.1.1.2.1
    rw [(rs_yes h.1 h.2).1, rdS_text hs]
    exact ⟨by rw [hs.1]; omega, fun c hc => (hs.2.2.1 c hc).1.2.2, hs.2.1.1.2.2⟩
  · unfold resReadStock; rw [if_neg h]; simp
abbrev stB (b : Nat) (cs : List A) : Blk := ⟨some b, 31, 2, cs⟩
abbrev llB (b : Option Nat) (cap : Nat) (L : List (List Int)) : Blk := ⟨b, 24, cap * 1, (L.map (encS Go.AI.encI)).flatten⟩
theorem nb_true {b : Bool} (h : (!b) = false) : b = true := by cases b <;> simp_all
/-- How far the surroundings have been read. -/
def ArOk (p : Passing) (t : List UInt8) (k : Nat) (ar : A) : Prop := (k ≤ p.parents.length → ar = .os none 0 0) ∧ (k = p.parents.length + 1 → ∃ y : List Int, ar = .sl (y.map Go.AI.encI) ∧ y.length ≤ 8 ∧ (IsStT p t → y = (rdS p t).around))
def CeOk (p : Passing) (k n : Nat) : Prop := (k ≤ p.parents.length → n = k) ∧ (k = p.parents.length + 1 → n = p.parents.length)
theorem c_sReadStock (p : Passing) (t : List UInt8) (ht : t.length ≤ 1048576) : Gives Tryz.prog 21 [.agg (encPassing p), .str t] (.tup [.agg (encStock (resReadStock p t)), .int (codeReadStock p t)]) := by
  refine fn_of_run tyOk ztOk mix Tryz.func21 rfl (by decide) Tryz.ntmps21 (fun w0 h => ?_)
  have fin : ∀ (c : Int) (b : Nat) (e : Env) (h1 : Heap) (T r : Nat), lk e 4 = some (.op (some b) 0) → lk e 5 = some (.int c) → h1 = ⟨some b, T, r, [.os none 0 0, .os none 0 0]⟩ :: h → endQ ty Tryz.f21.results (.tup [.agg [.sl [], .sl []], .int c]) h .ret e h1 := fun c b e h1 T r q1 q2 q3 => by
    subst q3
    exact end_view (view_freezeP 0 4 q1 rfl) (end_le (List.Sublist.refl _) (vs := [_, _]) (.cons (.cellI rfl rfl) (.cons (.tmp (by rw [lk_cons_ne _ _ (by decide)]; exact q2)) .nil)) (Le.tup (LeL.cons (Le.agg (LeL.cons (Le.nil 0) (LeL.cons (Le.nil 0) LeL.nil))) (LeL.cons (Le.refl _) LeL.nil))) (.inl rfl))
  by_cases hv : p.Ok
  case neg =>
    rw [(rs_inv hv).1, (rs_inv hv).2]
    repeat' (first
      | (refine j_go ?_; first
        | refine j_op0 rfl rfl rfl rfl ?_ | (refine j_kCall rfl rfl rfl rfl ?_; first | refine jc (c_l06Ok p) (LeL.refl _) rfl rfl ?_) | (refine j_kStore rfl ?_; first | refine j_storeN 0 rfl rfl rfl rfl rfl rfl rfl rfl rfl rfl rfl ?_) | refine j_box rfl rfl rfl rfl rfl rfl ?_ | refine j_build rfl rfl rfl rfl rfl rfl rfl ?_ | refine j_alloc rfl rfl rfl rfl rfl (fun _ => ?_))
      | refine j_nil ?_
      | (refine r_go ?_; first | refine run_seq ?_ | refine run_region ?_ | (refine (run_ifn rfl (fun hb => ?_) (fun hb => ?_)) <;> first | (exfalso; omega) | skip) | refine run_ret ?_ | refine run_skip ?_)
      | refine seqQ_normal ?_ | refine seqQ_ret ?_)
    all_goals first
      | exact absurd (by assumption) hv
      | exact fin 1 _ _ _ _ _ rfl rfl rfl
  have no : ¬ IsStT p t → ∀ e h1, endQ ty Tryz.f21.results (.tup [.agg [.sl [], .sl []], .int 5]) h .ret e h1 → endQ ty Tryz.f21.results (.tup [.agg (encStock (resReadStock p t)), .int (codeReadStock p t)]) h .ret e h1 := fun hn e h1 q => by
    rw [(rs_no hv hn).1, (rs_no hv hn).2]; exact q
  have h4 := hv.1.2.1
  have hk1 := hv.1.1
  have ln := lnW_len t
  repeat' (first
      | (refine j_go ?_; first
        | refine j_op0 rfl rfl rfl rfl ?_ | refine j_off rfl rfl rfl ?_ | (refine j_kBin rfl ?_; first | refine j_in rfl rfl ⟨by omega, by omega⟩ rfl rfl ?_) | (refine j_kLen rfl ?_; first | refine j_len rfl rfl rfl rfl rfl rfl ?_) | (refine j_kCall rfl rfl rfl rfl ?_; first | refine jc (c_l06Ok p) (LeL.refl _) rfl rfl ?_ | refine jc (c_l06Lines t ht) (LeL.refl _) rfl rfl ?_) | (refine j_kStore rfl ?_; first | refine j_storeN 0 rfl rfl rfl rfl rfl rfl rfl rfl rfl rfl rfl ?_) | (refine j_kGuard rfl ?_; first | (refine (j_ifn rfl rfl rfl (fun hb => ?_) (fun hb => ?_)) <;> first | (exfalso; omega) | skip)) | refine j_box rfl rfl rfl rfl rfl rfl ?_ | refine j_build rfl rfl rfl rfl rfl rfl rfl ?_ | refine j_alloc rfl rfl rfl rfl rfl (fun _ => ?_))
      | refine j_nil ?_
      | (refine r_go ?_; first | refine run_seq ?_ | refine run_region ?_ | refine run_cond_t rfl ?_ | (refine (run_ifn rfl (fun hb => ?_) (fun hb => ?_)) <;> first | (exfalso; omega) | skip) | refine run_block ?_ | refine run_ret ?_ | refine run_skip ?_)
      | refine seqQ_normal ?_ | refine seqQ_ret ?_)
  · exact absurd hv (by assumption)
  · refine no (fun q => absurd (isStT_ln q).1 (by assumption)) _ _ ?_; exact fin 5 _ _ _ _ _ rfl rfl rfl
  · refine no (fun q => by have := (isStT_ln q).2; omega) _ _ ?_; exact fin 5 _ _ _ _ _ rfl rfl rfl
  rename_i b4 _ _ b8
  have drp : ¬ IsStT p t → ∀ (e : Env) (h1 : Heap) {x y : Blk}, lk e 4 = some (.op (some b4) 0) → lk e 5 = some (.int 5) → h1 = x :: y :: stB b4 [.os none 0 0, .os none 0 0] :: h → endQ ty Tryz.f21.results (.tup [.agg (encStock (resReadStock p t)), .int (codeReadStock p t)]) h .ret e h1 := fun hn e h1 x y q1 q2 q3 => by
    refine no hn _ _ (end_view (view_sub (h0 := stB b4 [.os none 0 0, .os none 0 0] :: h) ?_) (fin 5 b4 e _ _ _ q1 q2 rfl))
    rw [q3]
    exact List.Sublist.cons _ (List.Sublist.cons _ (List.Sublist.refl _))
  have hL : (lnW t).length = p.parents.length + 1 := by omega
  have lw := lnW_mem t
  refine run_view (view_none 24 0 rfl) ?_
  refine run_loop (fun x : (Nat × List (List Int) × A) × Option Nat × Nat => [(1, .str t), (2, .ip (encPassing p)), (4, .op (some b4) 0), (6, .sl ((lnW t).map encW)), (8, .op (some b8) 0), (7, .raw (.bool true)), (9, .int (x.1.1 : Int))])
    (fun x => llB x.2.1 x.2.2 x.1.2.1 :: stB b8 [.os x.2.1 x.1.2.1.length x.2.2, x.1.2.2] :: stB b4 [.os none 0 0, .os none 0 0] :: h)
    (fun x => (x.1.1 ≤ p.parents.length + 1 ∧ CeOk p x.1.1 x.1.2.1.length) ∧ (∀ b ∈ x.1.2.1, b.length ≤ 8) ∧ (IsStT p t → x.1.2.1 = (rdS p t).cells.take x.1.1) ∧ ArOk p t x.1.1 x.1.2.2)
    (fun x => p.parents.length + 1 - x.1.1) ((0, [], .os none 0 0), none, 0) ⟨rfl, rfl, rfl, rfl, rfl, (raw_t (by assumption)).symm, rfl, trivial⟩ rfl ⟨⟨Nat.zero_le _, fun _ => rfl, fun q => by dsimp only at q; omega⟩, fun _ q => absurd q List.not_mem_nil, fun _ => rfl, fun _ => rfl, fun q => by dsimp only at q; omega⟩ (fun ⟨⟨k, X, ar⟩, ob, cp⟩ ⟨⟨kl, xl⟩, xm, xr, ao⟩ => ?_)
  dsimp only at kl xl xm xr ao ⊢
  have rc : (rdS p t).cells = ((lnW t).take p.parents.length).map (rdB p.kinds.toNat) := rfl
  by_cases hk : k < p.parents.length
  case pos =>
    have a2 := ao.1 (by omega)
    have xk := xl.1 (by omega)
    subst a2
    have hkL : k < (lnW t).length := by omega
    have wl := (lw (lnW t)[k] (List.getElem_mem hkL)).1
    repeat' (first
      | (refine j_go ?_; first
        | refine j_op0 rfl rfl rfl rfl ?_ | (refine j_kIdx rfl ?_; first | refine j_idx rfl rfl rfl rfl rfl (by omega) rfl rfl rfl ?_) | (refine j_kBin rfl ?_; first | refine j_in rfl rfl ⟨by omega, by omega⟩ rfl rfl ?_) | (refine j_kLen rfl ?_; first | refine j_len rfl rfl rfl rfl rfl rfl ?_))
      | refine j_nil ?_
      | (refine r_go ?_; first | refine run_seq ?_ | refine run_region ?_ | (refine (run_if rfl (fun hb => ?_) (fun hb => ?_)) <;> first | (exfalso; omega) | skip) | refine run_block ?_ | refine run_skip ?_)
      | refine seqQ_normal ?_)
    refine j_kCall rfl rfl rfl rfl ?_
    refine jcp _ (o_sReadBag p.kinds (lnW t)[k] (by omega)) (List.Perm.refl _) (LeL.refl _) rfl rfl (fun v h1 hR => ?_)
    obtain ⟨rfl, b, cd, rfl, hb8, hr⟩ := hR
    repeat' (first
      | (refine j_go ?_; first
        | refine j_op0 rfl rfl rfl rfl ?_ | (refine j_kBin rfl ?_; first | refine j_in rfl rfl ⟨by omega, by omega⟩ rfl rfl ?_) | (refine j_kLen rfl ?_; first | refine j_len rfl rfl rfl rfl rfl rfl ?_) | (refine j_kLoad rfl ?_; first | refine j_mload 1 rfl rfl rfl rfl rfl rfl rfl ?_) | (refine j_kStore rfl ?_; first | refine j_storeN 2 rfl rfl rfl rfl rfl rfl rfl rfl rfl rfl rfl ?_) | (refine j_kBsl rfl ?_; first | refine j_bsl rfl rfl rfl rfl rfl rfl rfl rfl rfl rfl rfl ?_) | refine j_build rfl rfl rfl rfl rfl rfl rfl ?_)
      | refine j_nil ?_
      | (refine r_go ?_; first | refine run_seq ?_ | refine run_region ?_ | (refine (run_if rfl (fun hb => ?_) (fun hb => ?_)) <;> first | (exfalso; omega) | skip) | (refine (run_ifn rfl (fun hb => ?_) (fun hb => ?_)) <;> first | (exfalso; omega) | skip) | refine run_ret ?_ | refine run_skip ?_)
      | refine seqQ_normal ?_ | refine seqQ_ret ?_ | refine blockQ_ret ?_ | refine loopQ_ret ?_)
    · exact drp (fun q => hb (hr (isStT_cell q hkL hk)).1) _ _ rfl rfl rfl
    refine j_append 0 (g := encS Go.AI.encI) [b] rfl rfl rfl rfl rfl rfl rfl rfl rfl rfl rfl rfl (fun _ => rfl) (fun _ _ => rfl) ⟨by simp only [List.length_cons, List.length_nil]; omega, by simp only [List.length_cons, List.length_nil]; omega⟩ rfl rfl (fun b' cap' => ?_)
    repeat' (first
      | (refine j_go ?_; first
        | refine j_op0 rfl rfl rfl rfl ?_ | (refine j_kBin rfl ?_; first | refine j_in rfl rfl ⟨by omega, by omega⟩ rfl rfl ?_) | (refine j_kStore rfl ?_; first | refine j_store 1 rfl rfl rfl rfl rfl rfl rfl rfl rfl rfl rfl ?_))
      | refine j_nil ?_
      | (refine r_go ?_; first | refine run_region ?_)
      | refine seqQ_normal ?_ | refine blockQ_normal ?_)
    refine loopQ_next ((k + 1, X ++ [b], .os none 0 0), b', cap') ⟨⟨by dsimp only; omega, ⟨fun _ => by dsimp only; rw [List.length_append, List.length_singleton]; omega, fun q => by dsimp only at q; omega⟩⟩, fun x hx => ?_, fun q => ?_, fun _ => rfl, fun q => by dsimp only at q; omega⟩ (by dsimp only; omega) rfl ⟨rfl, rfl, rfl, rfl, rfl, rfl, nx _, trivial⟩
    · rcases List.mem_append.1 hx with hx | hx
      · exact xm x hx
      · rw [List.mem_singleton] at hx
        subst hx; exact hb8
    · dsimp only
      have e1 : k < (rdS p t).cells.length := by rw [rc, List.length_map, List.length_take]; omega
      rw [List.take_succ_eq_append_getElem e1, ← xr q, (hr (isStT_cell q hkL hk)).2]
      congr 1
      simp only [rc, List.getElem_map, List.getElem_take]
  by_cases hn : k = p.parents.length
  case pos =>
    subst hn
    have a2 := ao.1 (Nat.le_refl _)
    have xk := xl.1 (Nat.le_refl _)
    subst a2
    have hkL : p.parents.length < (lnW t).length := by omega
    have wl := (lw (lnW t)[p.parents.length] (List.getElem_mem hkL)).1
    have rl := (cutR_len around7 (lnW t)[p.parents.length]).2
    have ry : (rdS p t).around = rdB p.kinds.toNat (trimP around7 (lnW t)[p.parents.length]) := by
      unfold rdS
      rw [getD_at hkL]
    have lst : IsStT p t → ∃ b, cutR around7 (lnW t)[p.parents.length] = ([], b, true) ∧ trimP around7 (lnW t)[p.parents.length] = b ∧ IsBagT p.kinds.toNat b := fun q => by
      obtain ⟨b, e, hb⟩ := isStT_last q hkL
      exact ⟨b, by rw [e, cutR_app], by rw [e, trimP_app], hb⟩
    repeat' (first
      | (refine j_go ?_; first
        | refine j_op0 rfl rfl rfl rfl ?_ | (refine j_kIdx rfl ?_; first | refine j_idx rfl rfl rfl rfl rfl (by omega) rfl rfl rfl ?_) | (refine j_kBin rfl ?_; first | refine j_in rfl rfl ⟨by omega, by omega⟩ rfl rfl ?_) | (refine j_kLen rfl ?_; first | refine j_len rfl rfl rfl rfl rfl rfl ?_) | (refine j_kCall rfl rfl rfl rfl ?_; first | refine jc (c_l06Cut (lnW t)[p.parents.length] around7 (by omega) (by decide) (by decide)) (LeL.refl _) rfl rfl ?_))
      | refine j_nil ?_
      | (refine r_go ?_; first | refine run_seq ?_ | refine run_region ?_ | (refine (run_if rfl (fun hb => ?_) (fun hb => ?_)) <;> first | (exfalso; omega) | skip) | refine run_block ?_ | refine run_skip ?_)
      | refine seqQ_normal ?_)
    refine j_kCall rfl rfl rfl rfl ?_
    refine jcp _ (o_sReadBag p.kinds (cutR around7 (lnW t)[p.parents.length]).2.1 (by omega)) (List.Perm.refl _) (LeL.refl _) rfl rfl (fun v h1 hR => ?_)
    obtain ⟨rfl, b, cd, rfl, hb8, hr⟩ := hR
    repeat' (first
      | (refine j_go ?_; first
        | refine j_op0 rfl rfl rfl rfl ?_ | refine j_off rfl rfl rfl ?_ | (refine j_kBin rfl ?_; first | refine j_in rfl rfl ⟨by omega, by omega⟩ rfl rfl ?_) | (refine j_kLen rfl ?_; first | refine j_len rfl rfl rfl rfl rfl rfl ?_) | (refine j_kStore rfl ?_; first | refine j_store 1 rfl rfl rfl rfl rfl rfl rfl rfl rfl rfl rfl ?_ | refine j_storeN 2 rfl rfl rfl rfl rfl rfl rfl rfl rfl rfl rfl ?_) | (refine j_kGuard rfl ?_; first | (refine (j_branch rfl rfl rfl (fun hb => ?_) (fun hb => ?_)) <;> skip; (fail_if_success guard_hyp hb : true = true); (fail_if_success guard_hyp hb : true = false); (fail_if_success guard_hyp hb : false = true); (fail_if_success guard_hyp hb : false = false))) | refine j_build rfl rfl rfl rfl rfl rfl rfl ?_)
      | refine j_nil ?_
      | (refine r_go ?_; first | refine run_seq ?_ | refine run_region ?_ | refine run_cond_t rfl ?_ | (refine (run_if rfl (fun hb => ?_) (fun hb => ?_)) <;> first | (exfalso; omega) | skip) | (refine (run_ifn rfl (fun hb => ?_) (fun hb => ?_)) <;> first | (exfalso; omega) | skip) | refine run_ret ?_ | refine run_skip ?_)
      | refine seqQ_normal ?_ | refine seqQ_ret ?_ | refine blockQ_normal ?_ | refine blockQ_ret ?_ | refine loopQ_ret ?_)
    · exact drp (fun q => by
        obtain ⟨b2, e1, _, h2⟩ := lst q
        rw [e1] at hr
        exact hb (hr h2).1) _ _ rfl rfl rfl
    · have ho : (cutR around7 (lnW t)[p.parents.length]).2.2 = true := nb_true (by assumption)
      refine loopQ_next ((p.parents.length + 1, X, .sl (b.map Go.AI.encI)), ob, cp) ⟨⟨Nat.le_refl _, fun q => by dsimp only at q; omega, fun _ => xk⟩, xm, fun q => ?_, fun q => by dsimp only at q; omega, fun _ => ⟨b, rfl, hb8, fun q => ?_⟩⟩ (by dsimp only; omega) rfl ⟨rfl, rfl, rfl, rfl, rfl, congrArg (fun b => some (A.raw (.bool b))) ho, nx _, trivial⟩
      · dsimp only
        rw [xr q, List.take_of_length_le (by rw [rc, List.length_map, List.length_take]; omega), List.take_of_length_le (by rw [rc, List.length_map, List.length_take]; omega)]
      · obtain ⟨b2, e1, e2, h2⟩ := lst q
        rw [e1] at hr
        rw [(hr h2).2, ry, e2]
    · exact drp (fun q => by
        obtain ⟨b2, e1, _, h2⟩ := lst q
        rw [e1] at hb
        simp at hb) _ _ rfl rfl rfl
  have hke : k = p.parents.length + 1 := by omega
  subst hke
  obtain ⟨y, rfl, hy8, hy⟩ := ao.2 rfl
  have xk := xl.2 rfl
  repeat' (first
      | (refine j_go ?_; first
        | refine j_op0 rfl rfl rfl rfl ?_ | (refine j_kLen rfl ?_; first | refine j_len rfl rfl rfl rfl rfl rfl ?_))
      | refine j_nil ?_
      | (refine r_go ?_; first | refine run_seq ?_ | refine run_region ?_ | (refine (run_if rfl (fun hb => ?_) (fun hb => ?_)) <;> first | (exfalso; omega) | skip) | refine run_exit ?_)
      | refine seqQ_normal ?_ | refine seqQ_exit ?_ | refine blockQ_eq ?_ | refine loopQ_exit ?_)
  refine j_view (view_cellF (k := 0) (b := some b8) (T := 31) (room := 2) (cs := [.os ob X.length cp, .sl (y.map Go.AI.encI)]) (h1 := [llB ob cp X]) (F := stB b4 [.os none 0 0, .os none 0 0] :: h) (List.Perm.swap _ _ _) rfl (FrzF.flat (g := encS Go.AI.encI) (ys := X) (z := 1) rfl rfl (fun _ => rfl) rfl rfl)) ?_
  refine j_view (view_freezeP 0 8 rfl rfl) ?_
  have fit : IsStT p t → (⟨X, y⟩ : Stock) = rdS p t := fun q => by
    have e1 : (rdS p t).cells.take (p.parents.length + 1) = (rdS p t).cells := List.take_of_length_le (by rw [rc, List.length_map, List.length_take]; omega)
    rw [xr q, hy q, e1]
  repeat' (first
      | (refine j_go ?_; first
        | refine j_op0 rfl rfl rfl rfl ?_ | refine j_off rfl rfl rfl ?_ | (refine j_kCall rfl rfl rfl rfl ?_; first | refine jc (c_l06Stock p ⟨X, y⟩ hv) (LeL.refl _) rfl rfl ?_ | refine jc (c_l06StockText p ⟨X, y⟩ hv (by assumption)) (LeL.refl _) rfl rfl ?_) | (refine j_kStore rfl ?_; first | refine j_storeN 0 rfl rfl rfl rfl rfl rfl rfl rfl rfl rfl rfl ?_) | (refine j_kGuard rfl ?_; first | (refine (j_ifn rfl rfl rfl (fun hb => ?_) (fun hb => ?_)) <;> first | (exfalso; omega) | skip)) | refine j_build rfl rfl rfl rfl rfl rfl rfl ?_)
      | refine j_nil ?_
      | (refine r_go ?_; first | refine run_seq ?_ | refine run_region ?_ | refine run_cond_t rfl ?_ | (refine (run_ifn rfl (fun hb => ?_) (fun hb => ?_)) <;> first | (exfalso; omega) | skip) | refine run_ret ?_ | refine run_skip ?_)
      | refine seqQ_normal ?_ | refine seqQ_ret ?_)
  · have hns : ¬ p.StockOk ⟨X, y⟩ := by assumption
    refine no (fun q => ?_) _ _ ?_
    · have e := fit q
      obtain ⟨s, hs, hst⟩ := q
      rw [← hst, rdS_text hs] at e
      rw [e] at hns
      exact hns hs
    · exact fin 5 _ _ _ _ _ rfl rfl rfl
  · have hns : ¬ stockT ⟨X, y⟩ = t := by assumption
    refine no (fun q => ?_) _ _ ?_
    · have e := fit q
      obtain ⟨s, hs, hst⟩ := q
      rw [← hst, rdS_text hs] at e
      rw [e] at hns
      exact hns hst
    · exact fin 5 _ _ _ _ _ rfl rfl rfl
  · have q : IsStT p t := ⟨⟨X, y⟩, by assumption, by assumption⟩
    rw [(rs_yes hv q).1, (rs_yes hv q).2, ← fit q]
    exact end_view (view_freezeP 0 4 rfl rfl) (end_le (List.Sublist.refl _) (vs := [_, _]) (.cons (.cellI rfl rfl) (.cons (.tmp rfl) .nil)) (Le.refl _) (.inl rfl))
end Go.Proofs.YtmcljepicadjfaaGreatDoor

/-
  Rows of the call's own; lines and what stands behind a word. No condition.
-/
namespace Go.Proofs.YtmcljepicadjfaaGreatDoor
open Go.AI Go.RowKit
set_option maxRecDepth 8000
set_option maxHeartbeats 1600000
/-- Rows of the call's own. -/
def RowsC (L : List (List Int)) (vs : List A) (hs : List Heap) : Prop := vs.length = L.length ∧ hs.length = L.length ∧ ∀ i (h0 : i < L.length) (h1 : i < vs.length) (h2 : i < hs.length), ROI L[i] vs[i] hs[i]
theorem RowsC.nil : RowsC [] [] [] := ⟨rfl, rfl, fun i h => absurd h (Nat.not_lt_zero _)⟩
theorem RowsC.snoc {L : List (List Int)} {vs : List A} {hs : List Heap} (o : RowsC L vs hs) {l : List Int} {v : A} {h : Heap} (q : ROI l v h) : RowsC (L ++ [l]) (vs ++ [v]) (hs ++ [h]) := by
  obtain ⟨r1, r2, r3⟩ := o
  refine ⟨by rw [List.length_append, List.length_append, r1]; rfl, by rw [List.length_append, List.length_append, r2]; rfl, fun i q1 q2 q3 => ?_⟩
  by_cases z : i < L.length
  · simp only [List.getElem_append_left z, List.getElem_append_left (show i < vs.length by omega), List.getElem_append_left (show i < hs.length by omega)]
    exact r3 i z _ _
  · have e : i = L.length := by rw [List.length_append, List.length_singleton] at q1; omega
    subst e
    simp only [List.getElem_append_right (Nat.le_refl _), List.getElem_append_right (show vs.length ≤ L.length by omega), List.getElem_append_right (show hs.length ≤ L.length by omega), List.getElem_singleton]
    simpa [r1, r2] using q
theorem RowsC.ii {L : List (List Int)} {vs : List A} {hs : List Heap} (o : RowsC L vs hs) (ob : Option Nat) (cap : Nat) : ROII L (.os ob L.length cap) (⟨ob, 24, cap * 1, (vs.map fun a => [a]).flatten⟩ :: hs.flatten) := .inl ⟨ob, cap, vs, hs, o.1, o.2.1, o.2.2, rfl, rfl⟩
theorem pre_take {p s : List UInt8} : (s.take p.length).drop 0 = p ↔ p.isPrefixOf s = true := by
  rw [List.drop_zero, List.isPrefixOf_iff_prefix]
  exact ⟨fun q => by rw [← q]; exact List.take_prefix _ _, fun ⟨t, q⟩ => by rw [← q]; simp⟩
theorem c_HasPrefix (s p : List UInt8) : Gives Tryz.prog 106 [.str s, .str p] (.raw (.bool (dec (p.isPrefixOf s = true)))) := by
  refine fn_of_run tyOk ztOk mix Tryz.func106 rfl (by decide) Tryz.ntmps106 (fun w0 h => ?_)
  repeat' (first
      | (refine j_go ?_; first
        | refine j_op0 rfl rfl rfl rfl ?_ | refine j_off rfl rfl rfl ?_ | (refine j_kLen rfl ?_; first | refine j_op rfl rfl rfl rfl ?_) | (refine j_kSlice rfl ?_; first | refine j_ss rfl rfl rfl rfl rfl rfl (by omega) rfl rfl ?_) | (refine j_kGuard rfl ?_; first | (refine (j_if rfl rfl rfl (fun hb => ?_) (fun hb => ?_)) <;> first | (exfalso; omega) | skip)))
      | refine j_nil ?_
      | (refine r_go ?_; first | refine run_seq ?_ | refine run_region ?_ | refine run_ret ?_)
      | refine seqQ_normal ?_)
  · exact end1 rfl (List.Sublist.refl _) (by rw [Int.toNat_natCast, dec_congr (show (s.take p.length).drop (Int.toNat 0) = p ↔ _ from pre_take)]) (.inl rfl)
  · exact end1 rfl (List.Sublist.refl _) (rbF fun q => by have := (List.isPrefixOf_iff_prefix.1 q).length_le; omega) (.inl rfl)
theorem c_CutPrefix0 (s p : List UInt8) : Gives Tryz.prog 84 [.str s, .str p] (.tup [.str (trimP p s), .raw (.bool (dec (p.isPrefixOf s = true)))]) := by
  refine fn_of_run tyOk ztOk mix Tryz.func84 rfl (by decide) Tryz.ntmps84 (fun w0 h => ?_)
  repeat' (first
      | (refine j_go ?_; first
        | refine j_op0 rfl rfl rfl rfl ?_ | (refine j_kLen rfl ?_; first | refine j_op rfl rfl rfl rfl ?_) | (refine j_kCall rfl rfl rfl rfl ?_; first | refine jc (c_HasPrefix s p) (LeL.refl _) rfl rfl ?_))
      | refine j_nil ?_
      | (refine r_go ?_; first | refine run_seq ?_ | refine run_region ?_ | (refine (run_ifn rfl (fun hb => ?_) (fun hb => ?_)) <;> first | (exfalso; omega) | skip) | refine run_ret ?_ | refine run_skip ?_)
      | refine seqQ_normal ?_ | refine seqQ_ret ?_)
  · have q : ¬ p.isPrefixOf s = true := by assumption
    exact end2 rfl rfl (List.Sublist.refl _) (by rw [dec_f q]; unfold trimP; rw [if_neg q]; rfl) (.inl rfl)
  · have q : p.isPrefixOf s = true := by assumption
    have ql := (List.isPrefixOf_iff_prefix.1 q).length_le
    repeat' (first
      | (refine j_go ?_; first
        | refine j_op0 rfl rfl rfl rfl ?_ | (refine j_kSlice rfl ?_; first | refine j_ss rfl rfl rfl rfl rfl rfl (by omega) rfl rfl ?_))
      | refine j_nil ?_
      | (refine r_go ?_; first | refine run_ret ?_)
      | refine seqQ_normal ?_)
    exact end2 rfl rfl (List.Sublist.refl _) (by rw [dec_t q]; unfold trimP; rw [if_pos q, Int.toNat_natCast, Int.toNat_natCast, List.take_length]; rfl) (.inl rfl)
theorem c_CutPrefix (s p : List UInt8) : Gives Tryz.prog 30 [.str s, .str p] (.tup [.str (trimP p s), .raw (.bool (dec (p.isPrefixOf s = true)))]) := by
  refine fn_of_run tyOk ztOk mix Tryz.func30 rfl (by decide) Tryz.ntmps30 (fun w0 h => ?_)
  repeat' (first
      | (refine j_go ?_; first
        | refine j_op0 rfl rfl rfl rfl ?_ | (refine j_kCall rfl rfl rfl rfl ?_; first | refine jc (c_CutPrefix0 s p) (LeL.refl _) rfl rfl ?_))
      | refine j_nil ?_
      | (refine r_go ?_; first | refine run_seq ?_ | refine run_region ?_ | refine run_ret ?_)
      | refine seqQ_normal ?_)
  exact end2 rfl rfl (List.Sublist.refl _) rfl (.inl rfl)
theorem c_linesOf (s : List UInt8) (hs : s.length ≤ 1048576) : Gives Tryz.prog 29 [.str s] (.tup [.sl ((lnW s).map encW), .raw (.bool (dec (lnE s = [])))]) := by
  refine fn_of_run tyOk ztOk mix Tryz.func29 rfl (by decide) Tryz.ntmps29 (fun w0 h => ?_)
  have cS := c_Split s 10 (by omega)
  rw [ln_eq] at cS
  have ll := lnW_len s
  have hl : (lnW s ++ [lnE s]).length = (lnW s).length + 1 := by simp
  repeat' (first
      | (refine j_go ?_; first
        | refine j_op0 rfl rfl rfl rfl ?_ | (refine j_kIdx rfl ?_; first | refine j_idxz rfl rfl rfl rfl rfl ⟨by omega, by omega⟩ rfl rfl rfl ?_) | (refine j_kBin rfl ?_; first | refine j_in rfl rfl ⟨by omega, by omega⟩ rfl rfl ?_) | (refine j_kLen rfl ?_; first | refine j_len rfl rfl rfl rfl rfl rfl ?_) | (refine j_kCall rfl rfl rfl rfl ?_; first | refine jc (cS) (LeL.refl _) rfl rfl ?_) | (refine j_kSlice rfl ?_; first | refine j_slice rfl rfl rfl rfl rfl rfl (by omega) (fun _ => rfl) rfl rfl ?_))
      | refine j_nil ?_
      | (refine r_go ?_; first | refine run_seq ?_ | refine run_region ?_ | refine run_ret ?_ | refine run_regionD (by kernel_rfl) ?_)
      | refine seqQ_normal ?_)
  have e1 : ((lnW s ++ [lnE s]).take (((lnW s ++ [lnE s]).length : Int) - 1).toNat).drop (Int.toNat 0) = lnW s := by
    rw [hl, show (((lnW s).length + 1 : Nat) : Int) - 1 = ((lnW s).length : Int) from by omega, Int.toNat_natCast]; simp
  have e2 : ∀ (q : (((lnW s ++ [lnE s]).length : Int) - 1).toNat < (lnW s ++ [lnE s]).length), (lnW s ++ [lnE s])[(((lnW s ++ [lnE s]).length : Int) - 1).toNat] = lnE s := fun q => by
    have e : (((lnW s ++ [lnE s]).length : Int) - 1).toNat = (lnW s).length := by rw [hl]; omega
    simp only [e]; simp
  exact end2 rfl rfl (List.Sublist.refl _) (by rw [e1, e2]) (.inl rfl)

end Go.Proofs.YtmcljepicadjfaaGreatDoor
