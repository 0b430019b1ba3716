/-
  The stocks at rest of a graph, and their sizes, by the program. No condition.
-/
import Derived.Test.YtbpmmdecaonopaaGreatZV7
import Derived.Test.YtbpmmdecaonopaaGreatZRY
namespace Go.Proofs.YtbpmmdecaonopaaGreat
open Go.AI
set_option maxRecDepth 8000
set_option maxHeartbeats 3200000
theorem c_iRestStocks (p : Passing) (m : Int) (s : Stock) (hv : p.Ok) (hs : p.StockOk s) (hm : 1 ≤ m ∧ m ≤ 3) : Gives Tryz.prog 9 [.agg (encPassing p), .agg (encStock s), .int m] (.tup [.sl ((resRest p m s).map encStock), .int (codePassGraph p m s)]) := by
  refine fn_of_run tyOk ztOk mix Tryz.func9 rfl (by decide) Tryz.ntmps9 (fun w0 h => ?_)
  have cG := c_iPassGraph p m s hv hs hm
  cases hgr : grF p m s with
  | none =>
    have e : resRest p m s = [] := by unfold resRest; rw [(pg_none hgr).1]; rfl
    rw [(pg_none hgr).1, (pg_none hgr).2] at cG
    rw [(pg_none hgr).2, e]
    repeat' (first
      | (refine j_go ?_; first
        | refine j_op0 rfl rfl rfl rfl ?_ | (refine j_kCall rfl rfl rfl rfl ?_; first | refine jc (cG) (LeL.refl _) rfl rfl ?_) | refine j_box rfl rfl rfl rfl rfl rfl ?_)
      | refine j_nil ?_
      | (refine r_go ?_; first | refine run_seq ?_ | refine run_region ?_ | (refine (run_ifn rfl (fun hb => ?_) (fun hb => ?_)) <;> first | (exfalso; omega) | skip) | refine run_ret ?_)
      | refine seqQ_normal ?_ | refine seqQ_ret ?_)
    all_goals first
      | exact absurd hb (by decide)
      | exact end_le (List.Sublist.refl _) (vs := [_, _]) (.cons (.tmp rfl) (.cons (.tmp rfl) .nil)) (Le.tup (LeL.cons (Le.nil 0) (LeL.cons (Le.refl _) LeL.nil))) (.inl rfl)
  | some x =>
    obtain ⟨L, nx⟩ := x
    obtain ⟨G, hl⟩ := grF_ok hs hgr
    have gl := G.le
    have e : resRest p m s = restT L nx L.length := by unfold resRest; rw [(pg_some hgr).1]
    rw [(pg_some hgr).1, (pg_some hgr).2] at cG
    rw [(pg_some hgr).2, e]
    repeat' (first
      | (refine j_go ?_; first
        | refine j_op0 rfl rfl rfl rfl ?_ | (refine j_kLen rfl ?_; first | refine j_len rfl rfl rfl rfl rfl rfl ?_) | (refine j_kCall rfl rfl rfl rfl ?_; first | refine jc (cG) (LeL.refl _) rfl rfl ?_) | (refine j_kBsl rfl ?_; first | refine j_bs0 rfl rfl rfl rfl rfl rfl ?_) | refine j_box rfl rfl rfl rfl rfl rfl ?_)
      | refine j_nil ?_
      | (refine r_go ?_; first | refine run_seq ?_ | refine run_region ?_ | (refine (run_ifn rfl (fun hb => ?_) (fun hb => ?_)) <;> first | (exfalso; omega) | skip) | refine run_block ?_ | refine run_skip ?_)
      | refine seqQ_normal ?_)
    all_goals try exact absurd rfl hb
    refine run_view (view_none 31 (0 * 2) rfl) ?_
    refine run_loop (fun x : Nat × Option Nat × Nat => [(9, .sl (nx.map (Go.AI.encS Go.AI.encI))), (26, .sl (L.map encStock)), (27, .int L.length), (11, .os x.2.1 (restT L nx x.1).length x.2.2), (28, .int (x.1 : Int))])
      (fun x => sLB x.2.1 x.2.2 (restT L nx x.1) :: h) (fun x => x.1 ≤ L.length) (fun x => L.length - x.1) (0, none, 0) ⟨rfl, rfl, rfl, rfl, rfl, trivial⟩ rfl (Nat.zero_le _) (fun ⟨k, ob, cp⟩ kl => ?_)
    dsimp only at kl ⊢
    have rl := restT_len L nx k
    by_cases hk : k < L.length
    case neg =>
      have hke : k = L.length := by omega
      subst hke
      repeat' (first
      | (refine j_go ?_; first
        | refine j_op0 rfl rfl rfl rfl ?_)
      | refine j_nil ?_
      | (refine r_go ?_; first | refine run_seq ?_ | refine run_region ?_ | (refine (run_if rfl (fun hb => ?_) (fun hb => ?_)) <;> first | (exfalso; omega) | skip) | refine run_ret ?_ | refine run_exit ?_)
      | refine seqQ_normal ?_ | refine seqQ_exit ?_ | refine blockQ_eq ?_ | refine loopQ_exit ?_)
      refine end_view (view_freeze (g := encStock) (z := 2) (ys := restT L nx L.length) 0 6 rfl rfl rfl (fun _ => rfl) rfl rfl) ?_
      exact end_le (List.Sublist.refl _) (vs := [_, _]) (.cons (.tmp rfl) (.cons (.tmp rfl) .nil)) (Le.refl _) (.inl rfl)
    case pos =>
      by_cases hz : nx[k]'(by omega) = []
      case pos =>
        have hz0 : (nx[k]'(by omega)).length = 0 := by rw [hz]; rfl
        repeat' (first
      | (refine j_go ?_; first
        | refine j_op0 rfl rfl rfl rfl ?_ | (refine j_kIdx rfl ?_; first | refine j_idx rfl rfl rfl rfl rfl (by omega) rfl rfl rfl ?_) | (refine j_kLen rfl ?_; first | refine j_len rfl rfl rfl rfl rfl rfl ?_) | (refine j_kLoad rfl ?_; first | refine j_mload 0 rfl rfl rfl rfl rfl rfl rfl ?_) | (refine j_kStore rfl ?_; first | refine j_storeN 0 rfl rfl rfl rfl rfl rfl rfl rfl rfl rfl rfl ?_) | (refine j_kBsl rfl ?_; first | refine j_bsl rfl rfl rfl rfl rfl rfl rfl rfl rfl rfl rfl ?_) | refine j_alloc rfl rfl rfl rfl rfl (fun _ => ?_))
      | refine j_nil ?_
      | (refine r_go ?_; first | refine run_seq ?_ | refine run_region ?_ | (refine (run_if rfl (fun hb => ?_) (fun hb => ?_)) <;> first | (exfalso; omega) | skip) | refine run_block ?_ | refine run_skip ?_)
      | refine seqQ_normal ?_)
        all_goals try (exfalso; omega)
        refine j_append 1 (g := encStock) (ys := restT L nx k) [L[k]] rfl rfl rfl rfl rfl rfl rfl rfl rfl rfl rfl rfl (fun _ => rfl) (fun _ hy => by simp only [List.mem_singleton] at hy; subst hy; rfl) ⟨by simp only [List.length_cons, List.length_nil]; omega, by simp only [List.length_cons, List.length_nil]; omega⟩ rfl rfl (fun ob' cp' => ?_)
        rw [← restT_t hk (by omega) hz]
        repeat' (first
      | (refine j_go ?_; first
        | refine j_op0 rfl rfl rfl rfl ?_ | (refine j_kBin rfl ?_; first | refine j_in rfl rfl ⟨by omega, by omega⟩ rfl rfl ?_))
      | refine j_nil ?_
      | (refine r_go ?_; first | refine run_region ?_)
      | refine seqQ_normal ?_ | refine blockQ_normal ?_)
        refine loopQ_view (view_erase 0) ?_
        exact loopQ_next (k + 1, ob', cp') (by dsimp only; omega) (by dsimp only; omega) rfl ⟨rfl, rfl, rfl, rfl, Go.AI.nx _, trivial⟩
      case neg =>
        have hz0 : (nx[k]'(by omega)).length ≠ 0 := fun q => hz (List.eq_nil_of_length_eq_zero q)
        repeat' (first
      | (refine j_go ?_; first
        | refine j_op0 rfl rfl rfl rfl ?_ | (refine j_kIdx rfl ?_; first | refine j_idx rfl rfl rfl rfl rfl (by omega) rfl rfl rfl ?_) | (refine j_kBin rfl ?_; first | refine j_in rfl rfl ⟨by omega, by omega⟩ rfl rfl ?_) | (refine j_kLen rfl ?_; first | refine j_len rfl rfl rfl rfl rfl rfl ?_) | (refine j_kStore rfl ?_; first | refine j_storeN 0 rfl rfl rfl rfl rfl rfl rfl rfl rfl rfl rfl ?_) | refine j_alloc rfl rfl rfl rfl rfl (fun _ => ?_))
      | refine j_nil ?_
      | (refine r_go ?_; first | refine run_seq ?_ | refine run_region ?_ | (refine (run_if rfl (fun hb => ?_) (fun hb => ?_)) <;> first | (exfalso; omega) | skip) | refine run_block ?_ | refine run_skip ?_)
      | refine seqQ_normal ?_ | refine blockQ_normal ?_)
        all_goals try (exfalso; omega)
        refine loopQ_view (view_erase 0) ?_
        rw [← restT_f (L := L) (by omega) hz]
        exact loopQ_next (k + 1, ob, cp) (by dsimp only; omega) (by dsimp only; omega) rfl ⟨rfl, rfl, rfl, rfl, Go.AI.nx _, trivial⟩
theorem c_iPassResults (p : Passing) (m : Int) (s : Stock) (hv : p.Ok) (hs : p.StockOk s) (hm : 1 ≤ m ∧ m ≤ 3) : Gives Tryz.prog 15 [.agg (encPassing p), .agg (encStock s), .int m, .int 0] (.tup [.sl ((resPassResults p m s).map Go.AI.encI), .int (codePassGraph p m s)]) := by
  refine fn_of_run tyOk ztOk mix Tryz.func15 rfl (by decide) Tryz.ntmps15 (fun w0 h => ?_)
  have h4 := hv.1.2.1
  have cM := c_modeOf p s m
  rw [cd2_o hv ⟨hs, hm⟩] at cM
  have cR := c_iRestStocks p m s hv hs hm
  cases hgr : grF p m s with
  | none =>
    have e : resRest p m s = [] := by unfold resRest; rw [(pg_none hgr).1]; rfl
    have e2 : resPassResults p m s = [] := by unfold resPassResults; rw [e]; rfl
    rw [(pg_none hgr).2, e] at cR
    rw [(pg_none hgr).2, e2]
    repeat' (first
      | (refine j_go ?_; first
        | refine j_op0 rfl rfl rfl rfl ?_ | (refine j_kBin rfl ?_; first | refine j_in rfl rfl ⟨by omega, by omega⟩ rfl rfl ?_) | (refine j_kCall rfl rfl rfl rfl ?_; first | refine jc (cM) (LeL.refl _) rfl rfl ?_ | refine jc (cR) (LeL.refl _) rfl rfl ?_ | refine jc (c_sizeI _) (LeL.refl _) rfl rfl ?_ | refine jc (c_inRange _ _ _) (LeL.refl _) rfl rfl ?_) | (refine j_kGuard rfl ?_; first | (refine (j_if rfl rfl rfl (fun hb => ?_) (fun hb => ?_)) <;> first | (exfalso; omega) | skip)) | refine j_box rfl rfl rfl rfl rfl rfl ?_)
      | refine j_nil ?_
      | (refine r_go ?_; first | refine run_seq ?_ | refine run_region ?_ | (refine (run_ifn rfl (fun hb => ?_) (fun hb => ?_)) <;> first | (exfalso; omega) | skip) | refine run_ret ?_ | refine run_skip ?_)
      | refine seqQ_normal ?_ | refine seqQ_ret ?_)
    all_goals first
      | exact absurd hb (by decide)
      | exact absurd rfl hb
      | (exfalso; omega)
      | exact end_le (List.Sublist.refl _) (vs := [_, _]) (.cons (.tmp rfl) (.cons (.tmp rfl) .nil)) (Le.tup (LeL.cons (Le.nil 0) (LeL.cons (Le.refl _) LeL.nil))) (.inl rfl)
  | some x =>
    obtain ⟨L, nx⟩ := x
    obtain ⟨G, hl⟩ := grF_ok hs hgr
    have gl := G.le
    have e : resRest p m s = restT L nx L.length := by unfold resRest; rw [(pg_some hgr).1]
    have ql := restT_len L nx L.length
    have qok := rest_ok G
    have e2 : resPassResults p m s = normR (szs (restT L nx L.length)) := by unfold resPassResults; rw [e]
    rw [(pg_some hgr).2, e] at cR
    rw [(pg_some hgr).2, e2]
    generalize restT L nx L.length = Q at ql qok cR
    repeat' (first
      | (refine j_go ?_; first
        | refine j_op0 rfl rfl rfl rfl ?_ | (refine j_kBin rfl ?_; first | refine j_in rfl rfl ⟨by omega, by omega⟩ rfl rfl ?_) | (refine j_kLen rfl ?_; first | refine j_len rfl rfl rfl rfl rfl rfl ?_) | (refine j_kCall rfl rfl rfl rfl ?_; first | refine jc (cM) (LeL.refl _) rfl rfl ?_ | refine jc (cR) (LeL.refl _) rfl rfl ?_ | refine jc (c_sizeI _) (LeL.refl _) rfl rfl ?_ | refine jc (c_inRange _ _ _) (LeL.refl _) rfl rfl ?_) | (refine j_kBsl rfl ?_; first | refine j_bs0 rfl rfl rfl rfl rfl rfl ?_) | (refine j_kGuard rfl ?_; first | (refine (j_if rfl rfl rfl (fun hb => ?_) (fun hb => ?_)) <;> first | (exfalso; omega) | skip)) | refine j_box rfl rfl rfl rfl rfl rfl ?_)
      | refine j_nil ?_
      | (refine r_go ?_; first | refine run_seq ?_ | refine run_region ?_ | (refine (run_ifn rfl (fun hb => ?_) (fun hb => ?_)) <;> first | (exfalso; omega) | skip) | refine run_block ?_ | refine run_skip ?_)
      | refine seqQ_normal ?_)
    all_goals try (first | exact absurd rfl hb | exact absurd hb (by decide) | (exfalso; omega))
    refine run_view (view_none 2 (0 * 1) rfl) ?_
    refine run_loop (fun x : Nat × Option Nat × Nat => [(3, .int 0), (44, .sl (Q.map encStock)), (45, .int Q.length), (12, .os x.2.1 (szs (Q.take x.1)).length x.2.2), (46, .int (x.1 : Int))])
      (fun x => ⟨x.2.1, 2, x.2.2 * 1, ((szs (Q.take x.1)).map Go.AI.encI).flatten⟩ :: h) (fun x => x.1 ≤ Q.length) (fun x => Q.length - x.1) (0, none, 0) ⟨rfl, rfl, rfl, rfl, rfl, trivial⟩ rfl (Nat.zero_le _) (fun ⟨k, ob, cp⟩ kl => ?_)
    dsimp only at kl ⊢
    have sl : (szs (Q.take k)).length = k := by unfold szs; rw [List.length_map, List.length_take]; omega
    by_cases hk : k < Q.length
    case pos =>
      obtain ⟨c0, cs, ct⟩ := skin_ok hv (qok _ (List.getElem_mem hk))
      have cS := c_bagSize _ cs
      rw [ct] at cS
      have ez : szs (Q.take (k + 1)) = szs (Q.take k) ++ [tot (Q[k].cells.getD 0 [])] := by rw [List.take_succ_eq_append_getElem hk]; unfold szs; rw [List.map_append]; rfl
      repeat' (first
      | (refine j_go ?_; first
        | refine j_op0 rfl rfl rfl rfl ?_ | (refine j_kIdx rfl ?_; first | refine j_idx rfl rfl rfl rfl rfl (by omega) rfl rfl rfl ?_) | (refine j_kCall rfl rfl rfl rfl ?_; first | refine jc (cS) (LeL.refl _) rfl rfl ?_) | (refine j_kLoad rfl ?_; first | refine j_mload 0 rfl rfl rfl rfl rfl rfl rfl ?_) | (refine j_kStore rfl ?_; first | refine j_storeN 0 rfl rfl rfl rfl rfl rfl rfl rfl rfl rfl rfl ?_) | (refine j_kBsl rfl ?_; first | refine j_bsl rfl rfl rfl rfl rfl rfl rfl rfl rfl rfl rfl ?_) | refine j_alloc rfl rfl rfl rfl rfl (fun _ => ?_))
      | refine j_nil ?_
      | (refine r_go ?_; first | refine run_seq ?_ | refine run_region ?_ | (refine (run_if rfl (fun hb => ?_) (fun hb => ?_)) <;> first | (exfalso; omega) | skip) | refine run_block ?_ | refine run_skip ?_)
      | refine seqQ_normal ?_)
      refine j_append 1 (g := Go.AI.encI) (ys := szs (Q.take k)) [tot (Q[k].cells.getD 0 [])] rfl rfl rfl rfl rfl rfl rfl rfl rfl rfl rfl rfl (fun _ => rfl) (fun _ _ => rfl) ⟨by simp only [List.length_cons, List.length_nil]; omega, by simp only [List.length_cons, List.length_nil]; omega⟩ rfl rfl (fun ob' cp' => ?_)
      rw [← ez]
      repeat' (first
      | (refine j_go ?_; first
        | refine j_op0 rfl rfl rfl rfl ?_ | (refine j_kBin rfl ?_; first | refine j_in rfl rfl ⟨by omega, by omega⟩ rfl rfl ?_))
      | refine j_nil ?_
      | (refine r_go ?_; first | refine run_region ?_)
      | refine seqQ_normal ?_ | refine blockQ_normal ?_)
      refine loopQ_view (view_erase 0) ?_
      exact loopQ_next (k + 1, ob', cp') (by dsimp only; omega) (by dsimp only; omega) rfl ⟨rfl, rfl, rfl, rfl, Go.AI.nx _, trivial⟩
    case neg =>
      have hke : k = Q.length := by omega
      subst hke
      rw [List.take_length] at sl ⊢
      repeat' (first
      | (refine j_go ?_; first
        | refine j_op0 rfl rfl rfl rfl ?_)
      | refine j_nil ?_
      | (refine r_go ?_; first | refine run_seq ?_ | refine run_region ?_ | (refine (run_if rfl (fun hb => ?_) (fun hb => ?_)) <;> first | (exfalso; omega) | skip) | refine run_exit ?_)
      | refine seqQ_normal ?_ | refine seqQ_exit ?_ | refine blockQ_eq ?_ | refine loopQ_exit ?_)
      refine j_kCall rfl rfl rfl rfl ?_
      refine jcp _ (o_sorted (szs Q) ob cp (by omega)) (List.Perm.refl _) (LeL.refl _) rfl rfl (fun v h1 hR => ?_)
      obtain ⟨rfl, rfl⟩ := hR
      repeat' (first
      | (refine j_go ?_; first
        | refine j_op0 rfl rfl rfl rfl ?_)
      | refine j_nil ?_
      | (refine r_go ?_; first | refine run_ret ?_)
      | refine seqQ_normal ?_)
      refine end_view (view_freeze (g := Go.AI.encI) (z := 1) (ys := normR (szs Q)) 0 8 rfl rfl rfl (fun _ => rfl) rfl rfl) ?_
      exact end_le (List.Sublist.refl _) (vs := [_, _]) (.cons (.tmp rfl) (.cons (.tmp rfl) .nil)) (Le.refl _) (.inl rfl)
end Go.Proofs.YtbpmmdecaonopaaGreat

/-
  The graph of stocks: what the law asks of it, plain; lists compared with themselves. No condition.
-/
namespace Go.Proofs.YtbpmmdecaonopaaGreat
open Go.AI
set_option maxRecDepth 8000
set_option maxHeartbeats 1600000
theorem row_at {p : Passing} {m : Int} {s : Stock} {L : List Stock} {nx : List (List Int)} (G : GrOk p m s L nx) {k : Nat} (hk : k < nx.length) (hL : k < L.length) {i : Nat} (hi : i < L.length) : ((i : Int) ∈ nx[k]) ↔ L[i] ∈ (p.chS m L[k]).map fun c => p.after L[k] c := by
  obtain ⟨_, h2, h3⟩ := G.row k hk hL
  rw [h3, normR_mem, List.mem_map, List.mem_map]
  constructor
  · rintro ⟨c, hc, e⟩
    refine ⟨c, hc, ?_⟩
    obtain ⟨j, hj, ej⟩ := List.getElem_of_mem (h2 c hc).2
    rw [← ej, atS_mem G.nd hj] at e
    have : j = i := by omega
    subst this
    exact ej.symm
  · rintro ⟨c, hc, e⟩
    exact ⟨c, hc, by rw [e, atS_mem G.nd hi]⟩
/-- Which stocks are among those reached. -/
noncomputable def tbI (L T : List Stock) (t : Stock) (i : Nat) : List Bool := L.mapIdx fun j u => dec (u ∈ T ∨ (j < i ∧ u = t))
noncomputable def tbL (L T : List Stock) : List Bool := L.map fun u => dec (u ∈ T)
theorem tbI_len (L T : List Stock) (t : Stock) (i : Nat) : (tbI L T t i).length = L.length := by simp [tbI]
theorem tbL_len (L T : List Stock) : (tbL L T).length = L.length := by simp [tbL]
theorem tbL_nil (L : List Stock) : tbL L [] = List.replicate L.length false := by
  refine List.ext_getElem (by simp [tbL]) fun i h1 h2 => ?_
  simp only [tbL, List.getElem_map, List.getElem_replicate]
  exact dec_f List.not_mem_nil
theorem tbI_zero (L T : List Stock) (t : Stock) : tbI L T t 0 = tbL L T := by
  refine List.ext_getElem (by simp [tbL, tbI]) fun i h1 h2 => ?_
  simp only [tbL, tbI, List.getElem_map, List.getElem_mapIdx]
  exact dec_congr ⟨fun q => q.elim id fun q => absurd q.1 (Nat.not_lt_zero _), .inl⟩
theorem tbI_all (L T : List Stock) (t : Stock) : tbI L T t L.length = tbL L (T ++ [t]) := by
  refine List.ext_getElem (by simp [tbL, tbI]) fun i h1 h2 => ?_
  simp only [tbL, tbI, List.getElem_map, List.getElem_mapIdx]
  have hi : i < L.length := by simpa [tbI] using h1
  refine dec_congr ?_
  rw [List.mem_append, List.mem_singleton]
  exact ⟨fun q => q.imp id fun q => q.2, fun q => q.imp id fun q => ⟨hi, q⟩⟩
theorem tbI_hit {L T : List Stock} {t : Stock} {i : Nat} (hi : i < L.length) (h : L[i] = t) : (tbI L T t i).set i true = tbI L T t (i + 1) := by
  refine List.ext_getElem (by simp [tbI]) fun j h1 h2 => ?_
  rw [List.getElem_set]
  simp only [tbI, List.getElem_mapIdx]
  by_cases q : i = j
  · subst q
    rw [if_pos rfl]
    exact (dec_t (.inr ⟨Nat.lt_succ_self _, h⟩)).symm
  · rw [if_neg q]
    refine dec_congr ⟨fun z => z.imp id fun z => ⟨by omega, z.2⟩, fun z => z.imp id fun z => ⟨by omega, z.2⟩⟩
theorem tbI_miss {L T : List Stock} {t : Stock} {i : Nat} (hi : i < L.length) (h : ¬ L[i] = t) : tbI L T t i = tbI L T t (i + 1) := by
  refine List.ext_getElem (by simp [tbI]) fun j h1 h2 => ?_
  simp only [tbI, List.getElem_mapIdx]
  refine dec_congr ⟨fun z => z.imp id fun z => ⟨by omega, z.2⟩, fun z => z.imp id fun z => ⟨?_, z.2⟩⟩
  by_cases q : j = i
  · subst q; exact absurd z.2 h
  · omega
theorem normR_nil {l : List Int} : normR l = [] ↔ l = [] := by
  constructor
  · intro h
    cases l with
    | nil => rfl
    | cons x l =>
      have := (normR_mem (x :: l) x).2 List.mem_cons_self
      rw [h] at this
      cases this
  · rintro rfl; rfl
theorem szs_nil {Q : List Stock} : (normR (szs Q)).length = 0 ↔ Q.length = 0 := by
  rw [List.length_eq_zero_iff, normR_nil, List.length_eq_zero_iff]
  unfold szs
  exact List.map_eq_nil_iff
theorem take_mem {α : Type} {l : List α} {k : Nat} (hk : k < l.length) (x : α) : x ∈ l.take (k + 1) ↔ x ∈ l.take k ∨ l[k] = x := by
  rw [List.take_succ_eq_append_getElem hk, List.mem_append, List.mem_singleton]
  exact ⟨fun q => q.imp id Eq.symm, fun q => q.imp id Eq.symm⟩
theorem c_f6big (l : List UInt8) : Gives Tryz.prog 4 [.sl (l.map encY)] (.raw (.bool (dec (4096 < (l.length : Int))))) := by
  refine fn_of_run tyOk ztOk mix Tryz.func4 rfl (by decide) Tryz.ntmps4 (fun w0 h => ?_)
  repeat' (first
      | (refine j_go ?_; first
        | refine j_op0 rfl rfl rfl rfl ?_ | (refine j_kLen rfl ?_; first | refine j_len rfl rfl rfl rfl rfl rfl ?_))
      | refine j_nil ?_
      | (refine r_go ?_; first | refine run_seq ?_ | refine run_region ?_ | refine run_ret ?_)
      | refine seqQ_normal ?_)
  exact end1 rfl (List.Sublist.refl _) (rfl) (.inl rfl)
theorem c_f6ints (l : List Int) (hn : l.length ≤ 1000000) : Gives Tryz.prog 17 [.sl (l.map Go.AI.encI), .sl (l.map Go.AI.encI)] (.raw (.bool true)) := by
  refine fn_of_run tyOk ztOk mix Tryz.func17 rfl (by decide) Tryz.ntmps17 (fun w0 h => ?_)
  repeat' (first
      | (refine j_go ?_; first
        | refine j_op0 rfl rfl rfl rfl ?_ | (refine j_kLen rfl ?_; first | refine j_len rfl rfl rfl rfl rfl rfl ?_))
      | refine j_nil ?_
      | (refine r_go ?_; first | refine run_seq ?_ | refine run_region ?_ | (refine (run_ifn rfl (fun hb => ?_) (fun hb => ?_)) <;> first | (exfalso; omega) | skip) | refine run_block ?_ | refine run_skip ?_)
      | refine seqQ_normal ?_)
  all_goals try exact absurd rfl hb
  refine run_loop (fun k : Nat => [(0, .sl (l.map Go.AI.encI)), (1, .sl (l.map Go.AI.encI)), (5, .int (k : Int))]) (fun _ => _) (fun k => k ≤ l.length ∧ (True)) (fun k => l.length - k) 0 ⟨rfl, rfl, rfl, trivial⟩ rfl ⟨Nat.zero_le _, by first | (intros; omega) | (simp; done) | rfl | trivial | exact ⟨by simp [sumF], by intros; omega⟩ | exact ⟨by omega, by simp⟩⟩ (fun k ⟨kl, kp⟩ => ?_)
  repeat' (first
      | (refine j_go ?_; first
        | refine j_op0 rfl rfl rfl rfl ?_ | (refine j_kIdx rfl ?_; first | refine j_idx rfl rfl rfl rfl rfl (by omega) rfl rfl rfl ?_) | (refine j_kBin rfl ?_; first | refine j_in rfl rfl ⟨by omega, by omega⟩ rfl rfl ?_) | (refine j_kLen rfl ?_; first | refine j_len rfl rfl rfl rfl rfl rfl ?_))
      | refine j_nil ?_
      | (refine r_go ?_; first | refine run_seq ?_ | refine run_region ?_ | (refine (run_if rfl (fun hb => ?_) (fun hb => ?_)) <;> first | (exfalso; omega) | skip) | (refine (run_ifn rfl (fun hb => ?_) (fun hb => ?_)) <;> first | (exfalso; omega) | skip) | refine run_block ?_ | refine run_ret ?_ | refine run_exit ?_ | refine run_skip ?_ | refine run_regionD (by kernel_rfl) ?_)
      | refine seqQ_normal ?_ | refine seqQ_exit ?_ | refine blockQ_normal ?_ | refine blockQ_eq ?_ | refine loopQ_exit ?_)
  all_goals first
    | exact absurd rfl hb
    | exact loopQ_nextD (k + 1) ⟨by omega, trivial⟩ (by omega) (by first | exact List.Sublist.refl _ | exact sub1 | exact sub2 | exact sub3) ⟨rfl, rfl, nx _, trivial⟩
    | exact end1 rfl (List.Sublist.refl _) (rfl) (.inl rfl)
theorem c_f6rows (l : List (List Int)) (hn : l.length ≤ 1000000) (hl : ∀ x ∈ l, x.length ≤ 1000000) : Gives Tryz.prog 11 [.sl (l.map (Go.AI.encS Go.AI.encI)), .sl (l.map (Go.AI.encS Go.AI.encI))] (.raw (.bool true)) := by
  refine fn_of_run tyOk ztOk mix Tryz.func11 rfl (by decide) Tryz.ntmps11 (fun w0 h => ?_)
  repeat' (first
      | (refine j_go ?_; first
        | refine j_op0 rfl rfl rfl rfl ?_ | (refine j_kLen rfl ?_; first | refine j_len rfl rfl rfl rfl rfl rfl ?_))
      | refine j_nil ?_
      | (refine r_go ?_; first | refine run_seq ?_ | refine run_region ?_ | (refine (run_ifn rfl (fun hb => ?_) (fun hb => ?_)) <;> first | (exfalso; omega) | skip) | refine run_block ?_ | refine run_skip ?_)
      | refine seqQ_normal ?_)
  all_goals try exact absurd rfl hb
  refine run_loop (fun k : Nat => [(0, .sl (l.map (Go.AI.encS Go.AI.encI))), (1, .sl (l.map (Go.AI.encS Go.AI.encI))), (5, .int (k : Int))]) (fun _ => _) (fun k => k ≤ l.length ∧ (True)) (fun k => l.length - k) 0 ⟨rfl, rfl, rfl, trivial⟩ rfl ⟨Nat.zero_le _, by first | (intros; omega) | (simp; done) | rfl | trivial | exact ⟨by simp [sumF], by intros; omega⟩ | exact ⟨by omega, by simp⟩⟩ (fun k ⟨kl, kp⟩ => ?_)
  repeat' (first
      | (refine j_go ?_; first
        | refine j_op0 rfl rfl rfl rfl ?_ | (refine j_kIdx rfl ?_; first | refine j_idx rfl rfl rfl rfl rfl (by omega) rfl rfl rfl ?_) | (refine j_kBin rfl ?_; first | refine j_in rfl rfl ⟨by omega, by omega⟩ rfl rfl ?_) | (refine j_kLen rfl ?_; first | refine j_len rfl rfl rfl rfl rfl rfl ?_) | (refine j_kCall rfl rfl rfl rfl ?_; first | refine jc (c_f6ints _ (hl _ (List.getElem_mem _))) (LeL.refl _) rfl rfl ?_))
      | refine j_nil ?_
      | (refine r_go ?_; first | refine run_seq ?_ | refine run_region ?_ | refine run_cond_f rfl ?_ | (refine (run_if rfl (fun hb => ?_) (fun hb => ?_)) <;> first | (exfalso; omega) | skip) | refine run_block ?_ | refine run_ret ?_ | refine run_exit ?_ | refine run_skip ?_ | refine run_regionD (by kernel_rfl) ?_)
      | refine seqQ_normal ?_ | refine seqQ_exit ?_ | refine blockQ_normal ?_ | refine blockQ_eq ?_ | refine loopQ_exit ?_)
  all_goals first
    | exact absurd rfl hb
    | exact loopQ_nextD (k + 1) ⟨by omega, trivial⟩ (by omega) (by first | exact List.Sublist.refl _ | exact sub1 | exact sub2 | exact sub3) ⟨rfl, rfl, nx _, trivial⟩
    | exact end1 rfl (List.Sublist.refl _) (rfl) (.inl rfl)
theorem c_f6stocks (l : List Stock) (hn : l.length ≤ 1000000) : Gives Tryz.prog 10 [.sl (l.map encStock), .sl (l.map encStock)] (.raw (.bool true)) := by
  refine fn_of_run tyOk ztOk mix Tryz.func10 rfl (by decide) Tryz.ntmps10 (fun w0 h => ?_)
  repeat' (first
      | (refine j_go ?_; first
        | refine j_op0 rfl rfl rfl rfl ?_ | (refine j_kLen rfl ?_; first | refine j_len rfl rfl rfl rfl rfl rfl ?_))
      | refine j_nil ?_
      | (refine r_go ?_; first | refine run_seq ?_ | refine run_region ?_ | (refine (run_ifn rfl (fun hb => ?_) (fun hb => ?_)) <;> first | (exfalso; omega) | skip) | refine run_block ?_ | refine run_skip ?_)
      | refine seqQ_normal ?_)
  all_goals try exact absurd rfl hb
  refine run_loop (fun k : Nat => [(0, .sl (l.map encStock)), (1, .sl (l.map encStock)), (5, .int (k : Int))]) (fun _ => _) (fun k => k ≤ l.length ∧ (True)) (fun k => l.length - k) 0 ⟨rfl, rfl, rfl, trivial⟩ rfl ⟨Nat.zero_le _, by first | (intros; omega) | (simp; done) | rfl | trivial | exact ⟨by simp [sumF], by intros; omega⟩ | exact ⟨by omega, by simp⟩⟩ (fun k ⟨kl, kp⟩ => ?_)
  repeat' (first
      | (refine j_go ?_; first
        | refine j_op0 rfl rfl rfl rfl ?_ | (refine j_kIdx rfl ?_; first | refine j_idx rfl rfl rfl rfl rfl (by omega) rfl rfl rfl ?_) | (refine j_kBin rfl ?_; first | refine j_in rfl rfl ⟨by omega, by omega⟩ rfl rfl ?_) | (refine j_kLen rfl ?_; first | refine j_len rfl rfl rfl rfl rfl rfl ?_) | (refine j_kCall rfl rfl rfl rfl ?_; first | refine jc (c_sSameStock _ _) (LeL.refl _) rfl rfl ?_))
      | refine j_nil ?_
      | (refine r_go ?_; first | refine run_seq ?_ | refine run_region ?_ | (refine (run_if rfl (fun hb => ?_) (fun hb => ?_)) <;> first | (exfalso; omega) | skip) | (refine (run_ifn rfl (fun hb => ?_) (fun hb => ?_)) <;> first | (exfalso; omega) | skip) | refine run_block ?_ | refine run_ret ?_ | refine run_exit ?_ | refine run_skip ?_ | refine run_regionD (by kernel_rfl) ?_)
      | refine seqQ_normal ?_ | refine seqQ_ret ?_ | refine seqQ_exit ?_ | refine blockQ_normal ?_ | refine blockQ_ret ?_ | refine blockQ_eq ?_ | refine loopQ_ret ?_ | refine loopQ_exit ?_)
  all_goals first
    | exact absurd rfl (by assumption)
    | exact loopQ_nextD (k + 1) ⟨by omega, trivial⟩ (by omega) (by first | exact List.Sublist.refl _ | exact sub1 | exact sub2 | exact sub3) ⟨rfl, rfl, nx _, trivial⟩
    | exact end1 rfl (List.Sublist.refl _) (rfl) (.inl rfl)
end Go.Proofs.YtbpmmdecaonopaaGreat
