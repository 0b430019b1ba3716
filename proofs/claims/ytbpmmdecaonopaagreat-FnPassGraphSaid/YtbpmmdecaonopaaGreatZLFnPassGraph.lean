/-
  The law FnPassGraph answers true whatever it reads. No condition.
-/
import Derived.Test.YtbpmmdecaonopaaGreatZV9
import Derived.Test.YtbpmmdecaonopaaGreatZS3c
namespace Go.Proofs.YtbpmmdecaonopaaGreat
open Go.AI
set_option maxRecDepth 8000
set_option maxHeartbeats 6400000
theorem c_passChF {p : Passing} {m : Int} {s : Stock} (hv : p.Ok) (hs : p.StockOk s) (hm : 1 ≤ m ∧ m ≤ 3) (h15 : (p.allC s).length ≤ 1500) : Gives Tryz.prog 12 [.agg (encPassing p), .agg (encStock s), .int m] (.tup [.sl ((p.chS m s).map (Go.AI.encS Go.AI.encI)), .int 0]) := by
  have q := pc_t hv hs hm h15
  have c := c_iPassChoices p s m
  rw [q.1, q.2] at c
  exact c.frozen fun v h1 ⟨a, e, o⟩ => by rw [e]; exact FrzF.tup2 o.frzF (Clo.int _)
theorem c_passStF {p : Passing} {s : Stock} {cs : List Int} (hv : p.Ok) (hs : p.StockOk s) (hc : p.Cnts cs) (hN : Nn (p.left s cs)) (hok : p.StockOk (p.after s cs)) : Gives Tryz.prog 14 [.agg (encPassing p), .agg (encStock s), .sl (cs.map Go.AI.encI)] (.tup [.agg (encStock (p.after s cs)), .int 0]) := by
  have q := ps_t hv hs hc hN hok
  have c := c_iPassStep p s cs
  rw [q.1, q.2] at c
  exact c.frozen fun v h1 ⟨a, e, o⟩ => by rw [e]; exact FrzF.tup2 o.frzF (Clo.int _)
theorem c_FnPassGraph (a0 a1 : List UInt8) : Gives Tryz.prog 3 [.sl (a0.map encY), .sl (a1.map encY)] (.raw (.bool true)) := by
  refine fn_of_run tyOk ztOk mix Tryz.func3 rfl (by decide) Tryz.ntmps3 (fun w0 h => ?_)
  repeat' (first
      | (refine j_go ?_; first
        | refine j_op0 rfl rfl rfl rfl ?_ | refine j_off rfl rfl rfl ?_ | (refine j_kCall rfl rfl rfl rfl ?_; first | refine jc (c_f6big _) (LeL.refl _) rfl rfl ?_) | (refine j_kGuard rfl ?_; first | (refine (j_if rfl rfl rfl (fun hb => ?_) (fun hb => ?_)) <;> first | (exfalso; omega) | skip)))
      | refine j_nil ?_
      | (refine r_go ?_; first | refine run_seq ?_ | refine run_region ?_ | refine run_cond_t rfl ?_ | (refine (run_if rfl (fun hb => ?_) (fun hb => ?_)) <;> first | (exfalso; omega) | skip) | refine run_ret ?_ | refine run_skip ?_)
      | refine seqQ_normal ?_ | refine seqQ_ret ?_)
  · exact end1 rfl (List.Sublist.refl _) (rfl) (.inl rfl)
  · exact end1 rfl (List.Sublist.refl _) (rfl) (.inl rfl)
  refine j_kCall rfl rfl rfl rfl ?_
  refine jcp _ (o_P6Passing a0) (List.Perm.refl _) (LeL.refl _) rfl rfl (fun v h1 hR => ?_)
  obtain ⟨p, s, k1, k2, hvs, hss, rfl, rfl⟩ := hR
  refine j_view (view_sub ((List.sublist_cons_self _ _).trans (List.sublist_cons_self _ _))) ?_
  have hv := hvs.1
  have hs := hss.1
  repeat' (first
      | (refine j_go ?_; first
        | refine j_op0 rfl rfl rfl rfl ?_ | (refine j_kStore rfl ?_; first | refine j_storeN 0 rfl rfl rfl rfl rfl rfl rfl rfl rfl rfl rfl ?_ | refine j_storeN 1 rfl rfl rfl rfl rfl rfl rfl rfl rfl rfl rfl ?_) | refine j_alloc rfl rfl rfl rfl rfl (fun _ => ?_))
      | refine j_nil ?_
      | (refine r_go ?_; first | refine run_seq ?_ | refine run_region ?_)
      | refine seqQ_normal ?_)
  refine j_view (view_freezeP 1 5 rfl rfl) ?_
  refine j_view (view_freezeP 0 6 rfl rfl) ?_
  refine j_kCall rfl rfl rfl rfl ?_
  refine jcp _ (o_P6Pick a1 3 (by omega)) (List.Perm.refl _) (LeL.refl _) rfl rfl (fun v h1 hR => ?_)
  obtain ⟨r, rfl, hr, rfl⟩ := hR
  have hm : 1 ≤ 1 + r ∧ 1 + r ≤ 3 := by omega
  have cI := c_iPassGraph p (1 + r) s hv hs hm
  have cS := c_sPassGraph p (1 + r) s hv hs hm
  have cR := c_iRestStocks p (1 + r) s hv hs hm
  cases hgr : grF p (1 + r) s with
  | none =>
    have e : resRest p (1 + r) s = [] := by unfold resRest; rw [(pg_none hgr).1]; rfl
    rw [(pg_none hgr).1, (pg_none hgr).2] at cI cS
    rw [(pg_none hgr).2, e] at cR
    repeat' (first
      | (refine j_go ?_; first
        | refine j_op0 rfl rfl rfl rfl ?_ | (refine j_kBin rfl ?_; first | refine j_in rfl rfl ⟨by omega, by omega⟩ rfl rfl ?_) | (refine j_kCall rfl rfl rfl rfl ?_; first | refine jc (cI) (LeL.refl _) rfl rfl ?_ | refine jc (cS) (LeL.refl _) rfl rfl ?_ | refine jc (cR) (LeL.refl _) rfl rfl ?_ | refine jc (c_f6stocks [] (by decide)) (LeL.refl _) rfl rfl ?_ | refine jc (c_f6rows [] (by decide) (fun _ q => absurd q List.not_mem_nil)) (LeL.refl _) rfl rfl ?_) | (refine j_kGuard rfl ?_; first | (refine (j_ifn rfl rfl rfl (fun hb => ?_) (fun hb => ?_)) <;> first | (exfalso; omega) | skip)))
      | refine j_nil ?_
      | (refine r_go ?_; first | refine run_seq ?_ | refine run_region ?_ | refine run_cond_f rfl ?_ | (refine (run_ifn rfl (fun hb => ?_) (fun hb => ?_)) <;> first | (exfalso; omega) | skip) | refine run_ret ?_ | refine run_skip ?_)
      | refine seqQ_normal ?_ | refine seqQ_ret ?_)
    all_goals first
      | exact absurd hb (by decide)
      | exact absurd rfl hb
      | exact end1 rfl (by repeat' first | exact List.Sublist.refl _ | refine List.Sublist.cons _ ?_) rfl (.inl rfl)
      | exact end1 rfl (by repeat' first | exact List.Sublist.refl _ | refine List.Sublist.cons _ ?_) (rbT rfl).symm (.inl rfl)
  | some x =>
    obtain ⟨L, nx⟩ := x
    obtain ⟨G, hl⟩ := grF_ok hs hgr
    have gl := G.le
    have l0 : 0 < L.length := by
      have := G.hd
      by_cases q : 0 < L.length
      · exact q
      · rw [List.getElem?_eq_none (by omega)] at this; cases this
    have e0 : L[0] = s := by
      have := G.hd
      rw [List.getElem?_eq_getElem l0] at this
      exact Option.some.inj this
    have e : resRest p (1 + r) s = restT L nx L.length := by unfold resRest; rw [(pg_some hgr).1]
    rw [(pg_some hgr).1, (pg_some hgr).2] at cI cS
    dsimp only at cI cS
    rw [(pg_some hgr).2, e] at cR
    have nlen : ∀ x ∈ nx, x.length ≤ 1000000 := fun x hx => by
      obtain ⟨k, hk, rfl⟩ := List.getElem_of_mem hx
      obtain ⟨h1, _, h3⟩ := G.row k hk (by omega)
      rw [h3]
      refine Nat.le_trans (normR_len _) ?_
      rw [List.length_map]
      exact Nat.le_trans (pick_len _ _ _ _) (by omega)
    repeat' (first
      | (refine j_go ?_; first
        | refine j_op0 rfl rfl rfl rfl ?_ | (refine j_kBin rfl ?_; first | refine j_in rfl rfl ⟨by omega, by omega⟩ rfl rfl ?_) | (refine j_kLen rfl ?_; first | refine j_len rfl rfl rfl rfl rfl rfl ?_) | (refine j_kCall rfl rfl rfl rfl ?_; first | refine jc (cI) (LeL.refl _) rfl rfl ?_ | refine jc (cS) (LeL.refl _) rfl rfl ?_ | refine jc (cR) (LeL.refl _) rfl rfl ?_ | refine jc (c_f6stocks L (by omega)) (LeL.refl _) rfl rfl ?_ | refine jc (c_f6rows nx (by omega) nlen) (LeL.refl _) rfl rfl ?_) | (refine j_kGuard rfl ?_; first | (refine (j_ifn rfl rfl rfl (fun hb => ?_) (fun hb => ?_)) <;> first | (exfalso; omega) | skip)))
      | refine j_nil ?_
      | (refine r_go ?_; first | refine run_seq ?_ | refine run_region ?_ | refine run_cond_f rfl ?_ | (refine (run_ifn rfl (fun hb => ?_) (fun hb => ?_)) <;> first | (exfalso; omega) | skip) | refine run_skip ?_)
      | refine seqQ_normal ?_)
    all_goals try (first | exact absurd hb (by decide) | exact absurd rfl hb)
    refine j_kCall rfl rfl rfl rfl ?_
    refine jcp _ (o_P6Pick a0 (L.length : Int) (by omega)) (List.Perm.refl _) (LeL.refl _) rfl rfl (fun v h1 hR => ?_)
    obtain ⟨at0, rfl, hat, rfl⟩ := hR
    obtain ⟨k, rfl⟩ : ∃ k : Nat, at0 = (k : Int) := ⟨at0.toNat, by omega⟩
    have hk : k < L.length := by omega
    have hkn : k < nx.length := by omega
    obtain ⟨h15, hcs, hrow⟩ := G.row k hkn hk
    have hsk := G.ok _ (List.getElem_mem hk)
    have rowi := fun i (hi : i < L.length) => row_at G hkn hk hi
    have cC := c_passChF hv hsk hm h15
    have cok : ∀ c ∈ p.chS (1 + r) L[k], p.Cnts c ∧ Nn (p.left L[k] c) := fun c hc => chS_ok hv hsk hc
    have c15 : (p.chS (1 + r) L[k]).length ≤ 1500 := Nat.le_trans (pick_len _ _ _ _) h15
    have c0 := c_sSameStock L[0] s
    rw [dec_t e0] at c0
    generalize p.chS (1 + r) L[k] = cs at hcs rowi cC cok c15 hrow
    repeat' (first
      | (refine j_go ?_; first
        | refine j_op0 rfl rfl rfl rfl ?_ | (refine j_kIdx rfl ?_; first | refine j_idx rfl rfl rfl rfl rfl (by omega) rfl rfl rfl ?_) | (refine j_kLen rfl ?_; first | refine j_len rfl rfl rfl rfl rfl rfl ?_) | (refine j_kCall rfl rfl rfl rfl ?_; first | refine jc (cC) (LeL.refl _) rfl rfl ?_ | refine jc (c0) (LeL.refl _) rfl rfl ?_) | (refine j_kBsl rfl ?_; first | refine j_bs0 rfl rfl rfl rfl rfl rfl ?_) | (refine j_kGuard rfl ?_; first | (refine (j_if rfl rfl rfl (fun hb => ?_) (fun hb => ?_)) <;> first | (exfalso; omega) | skip) | (refine (j_ifn rfl rfl rfl (fun hb => ?_) (fun hb => ?_)) <;> first | (exfalso; omega) | skip)))
      | refine j_nil ?_
      | (refine r_go ?_; first | refine run_seq ?_ | refine run_region ?_ | refine run_cond_f rfl ?_ | refine run_block ?_ | refine run_skip ?_ | refine run_regionD (by kernel_rfl) ?_)
      | refine seqQ_normal ?_)
    all_goals try (first | exact absurd hb (by decide) | exact absurd rfl hb | (exfalso; omega))
    refine run_view (view_none 4 0 rfl) ?_
    refine run_loop (fun x : Nat × Option Nat × Nat => [(5, .ip (encPassing p)), (6, .ip (encStock s)), (7, .int (1 + r)), (11, .sl (L.map encStock)), (12, .sl (nx.map (Go.AI.encS Go.AI.encI))), (14, .sl ((restT L nx L.length).map encStock)), (16, .int (k : Int)), (17, .sl (cs.map (Go.AI.encS Go.AI.encI))), (19, .os x.2.1 (List.replicate x.1 false).length x.2.2), (20, .int (x.1 : Int))])
      (fun x => ⟨x.2.1, 4, x.2.2 * 1, ((List.replicate x.1 false).map encB).flatten⟩ :: h) (fun x => x.1 ≤ L.length) (fun x => L.length - x.1) (0, none, 0) ⟨rfl, rfl, rfl, rfl, rfl, rfl, rfl, rfl, rfl, rfl, trivial⟩ rfl (Nat.zero_le _) (fun ⟨j, ob, cp⟩ jl => ?_)
    dsimp only at jl ⊢
    have rl : (List.replicate j false).length = j := List.length_replicate
    by_cases hj : j < L.length
    case pos =>
      have er : List.replicate j false ++ [false] = List.replicate (j + 1) false := List.replicate_succ'.symm
      repeat' (first
      | (refine j_go ?_; first
        | refine j_op0 rfl rfl rfl rfl ?_ | (refine j_kLen rfl ?_; first | refine j_len rfl rfl rfl rfl rfl rfl ?_) | (refine j_kBsl rfl ?_; first | refine j_bsl rfl rfl rfl rfl rfl rfl rfl rfl rfl rfl rfl ?_))
      | refine j_nil ?_
      | (refine r_go ?_; first | refine run_seq ?_ | refine run_region ?_ | (refine (run_if rfl (fun hb => ?_) (fun hb => ?_)) <;> first | (exfalso; omega) | skip) | refine run_block ?_ | refine run_skip ?_)
      | refine seqQ_normal ?_)
      refine j_append 0 (g := encB) [false] rfl rfl rfl rfl rfl rfl rfl rfl rfl rfl rfl rfl (fun _ => rfl) (fun _ hy => by simp only [List.mem_singleton] at hy; subst hy; rfl) ⟨by simp only [List.length_cons, List.length_nil]; omega, by simp only [List.length_cons, List.length_nil]; omega⟩ rfl rfl (fun b' cap' => ?_)
      rw [er]
      repeat' (first
      | (refine j_go ?_; first
        | refine j_op0 rfl rfl rfl rfl ?_ | (refine j_kBin rfl ?_; first | refine j_in rfl rfl ⟨by omega, by omega⟩ rfl rfl ?_))
      | refine j_nil ?_
      | (refine r_go ?_; first | refine run_region ?_)
      | refine seqQ_normal ?_ | refine blockQ_normal ?_)
      exact loopQ_next (j + 1, b', cap') (by dsimp only; omega) (by dsimp only; omega) rfl ⟨rfl, rfl, rfl, rfl, rfl, rfl, rfl, rfl, rfl, Go.AI.nx _, trivial⟩
    have hje : j = L.length := by omega
    subst hje
    rw [rl, ← tbL_nil]
    refine run_some 0 rfl (fun q => by have := flat_len (f := encB) (z := 1) (fun _ => rfl) (tbL L []); rw [q] at this; simp [tbL_len] at this; omega) (fun bq hbq => ?_)
    subst hbq
    repeat' (first
      | (refine j_go ?_; first
        | refine j_op0 rfl rfl rfl rfl ?_ | (refine j_kLen rfl ?_; first | refine j_len rfl rfl rfl rfl rfl rfl ?_))
      | refine j_nil ?_
      | (refine r_go ?_; first | refine run_seq ?_ | refine run_region ?_ | (refine (run_if rfl (fun hb => ?_) (fun hb => ?_)) <;> first | (exfalso; omega) | skip) | refine run_block ?_ | refine run_exit ?_)
      | refine seqQ_normal ?_ | refine seqQ_exit ?_ | refine blockQ_eq ?_ | refine loopQ_exit ?_)
    refine run_loop (fun c : Nat => [(5, .ip (encPassing p)), (6, .ip (encStock s)), (7, .int (1 + r)), (11, .sl (L.map encStock)), (12, .sl (nx.map (Go.AI.encS Go.AI.encI))), (14, .sl ((restT L nx L.length).map encStock)), (16, .int (k : Int)), (17, .sl (cs.map (Go.AI.encS Go.AI.encI))), (19, .os (some bq) L.length cp), (21, .int (c : Int))])
      (fun c => ⟨some bq, 4, cp * 1, ((tbL L ((cs.take c).map fun c => p.after L[k] c)).map encB).flatten⟩ :: h) (fun c => c ≤ cs.length) (fun c => cs.length - c) 0 ⟨rfl, rfl, rfl, rfl, rfl, rfl, rfl, rfl, rfl, rfl, trivial⟩ rfl (Nat.zero_le _) (fun c cl => ?_)
    by_cases hc : c < cs.length
    case pos =>
      have hkc := cok _ (List.getElem_mem hc)
      obtain ⟨hok, hin⟩ := hcs _ (List.getElem_mem hc)
      have st := c_passStF hv hsk hkc.1 hkc.2 hok
      have eT : (cs.take (c + 1)).map (fun c => p.after L[k] c) = (cs.take c).map (fun c => p.after L[k] c) ++ [p.after L[k] cs[c]] := by rw [List.take_succ_eq_append_getElem hc, List.map_append]; rfl
      generalize p.after L[k] cs[c] = t at st eT hin
      generalize (cs.take c).map (fun c => p.after L[k] c) = T at eT
      repeat' (first
      | (refine j_go ?_; first
        | refine j_op0 rfl rfl rfl rfl ?_ | (refine j_kLen rfl ?_; first | refine j_len rfl rfl rfl rfl rfl rfl ?_))
      | refine j_nil ?_
      | (refine j_goO ?_; first
        | refine j_op0O rfl rfl rfl rfl ?_ | (refine j_kIdxO rfl ?_; first | refine j_idxO rfl rfl rfl rfl rfl (by omega) rfl rfl rfl ?_) | (refine j_kCallO rfl rfl rfl rfl ?_; first | refine jcO (st) (LeL.refl _) rfl rfl ?_) | (refine j_kStoreO rfl ?_; first | refine j_storeNO 0 rfl rfl rfl rfl rfl rfl rfl rfl rfl rfl rfl rfl (by first | (intro _ hk; exact absurd hk List.not_mem_nil) | (intro k hk; simp at hk ⊢; try simp [hk])) ?_) | refine j_allocO rfl (by first | (intro _ hk; exact absurd hk List.not_mem_nil) | (intro k hk; simp at hk ⊢; try simp [hk])) rfl rfl rfl rfl rfl (fun _ => ?_))
      | refine j_nilO ?_
      | (refine r_go ?_; first | refine run_seq ?_ | refine run_region ?_ | (refine (run_if rfl (fun hb => ?_) (fun hb => ?_)) <;> first | (exfalso; omega) | skip) | refine run_block ?_ | refine run_skip ?_ | refine run_opn 24 [⟨0, false, false, 0⟩, ⟨1, false, false, 0⟩, ⟨2, false, false, 0⟩, ⟨3, false, false, 0⟩, ⟨4, false, false, 0⟩, ⟨5, false, false, 0⟩, ⟨6, false, false, 0⟩, ⟨7, false, false, 0⟩, ⟨8, false, false, 0⟩, ⟨9, false, false, 0⟩, ⟨10, false, false, 0⟩, ⟨11, false, false, 0⟩, ⟨12, false, false, 0⟩, ⟨13, false, true, 0⟩, ⟨14, false, true, 0⟩, ⟨15, true, false, 0⟩] rfl rfl (by kernel_rfl) ?_)
      | refine seqQ_normal ?_)
      refine run_view (view_freezeP 0 22 rfl rfl) ?_
      refine run_loop (fun i : Nat => [(5, .ip (encPassing p)), (6, .ip (encStock s)), (7, .int (1 + r)), (11, .sl (L.map encStock)), (12, .sl (nx.map (Go.AI.encS Go.AI.encI))), (14, .sl ((restT L nx L.length).map encStock)), (16, .int (k : Int)), (17, .sl (cs.map (Go.AI.encS Go.AI.encI))), (19, .os (some bq) L.length cp), (21, .int (c : Int)), (22, .ip (encStock t)), (23, .int 0), (24, .raw (.bool (dec (t ∈ L.take i)))), (25, .int (i : Int))])
        (fun i => ⟨some bq, 4, cp * 1, ((tbI L T t i).map encB).flatten⟩ :: h) (fun i => i ≤ L.length) (fun i => L.length - i) 0 ⟨rfl, rfl, rfl, rfl, rfl, rfl, rfl, rfl, rfl, rfl, rfl, rfl, by (show some (A.raw (Value.bool false)) = some (A.raw (Value.bool (dec (t ∈ L.take 0))))); rw [dec_f (by rw [List.take_zero]; exact List.not_mem_nil)], rfl, trivial⟩ (by rw [tbI_zero]; rfl) (Nat.zero_le _) (fun i il => ?_)
      have tl := tbI_len L T t i
      by_cases hi : i < L.length
      case pos =>
        have tm := take_mem hi t
        repeat' (first
      | (refine j_go ?_; first
        | refine j_op0 rfl rfl rfl rfl ?_ | (refine j_kIdx rfl ?_; first | refine j_idx rfl rfl rfl rfl rfl (by omega) rfl rfl rfl ?_ | refine j_midx rfl rfl rfl rfl rfl (by first | omega | (simp only [List.length_append, List.length_cons, List.length_nil]; omega)) rfl rfl ?_) | (refine j_kBin rfl ?_; first | refine j_in rfl rfl ⟨by omega, by omega⟩ rfl rfl ?_) | (refine j_kLen rfl ?_; first | refine j_len rfl rfl rfl rfl rfl rfl ?_) | (refine j_kCall rfl rfl rfl rfl ?_; first | refine jc (c_sSameStock L[i] t) (LeL.refl _) rfl rfl ?_))
      | refine j_nil ?_
      | (refine r_go ?_; first | refine run_seq ?_ | refine run_region ?_ | (refine (run_if rfl (fun hb => ?_) (fun hb => ?_)) <;> first | (exfalso; omega) | skip) | refine run_block ?_ | refine run_skip ?_ | refine run_regionD (by kernel_rfl) ?_)
      | refine seqQ_normal ?_ | refine blockQ_normal ?_)
        · have hit : L[i] = t := by assumption
          refine j_storeE 0 i (g := encB) (L := tbI L T t i) (sz := 1) true rfl rfl rfl rfl rfl rfl rfl rfl rfl (fun _ => rfl) (by first | rfl | omega) (by omega) ?_
          rw [tbI_hit hi hit]
          repeat' (first
      | (refine j_go ?_; first
        | refine j_op0 rfl rfl rfl rfl ?_ | (refine j_kBin rfl ?_; first | refine j_in rfl rfl ⟨by omega, by omega⟩ rfl rfl ?_))
      | refine j_nil ?_
      | (refine r_go ?_; first | refine run_region ?_)
      | refine seqQ_normal ?_ | refine blockQ_normal ?_)
          exact loopQ_next (i + 1) (by omega) (by omega) rfl ⟨rfl, rfl, rfl, rfl, rfl, rfl, rfl, rfl, rfl, rfl, rfl, rfl, by (show some (A.raw (Value.bool true)) = some (A.raw (Value.bool (dec (t ∈ L.take (i + 1)))))); rw [dec_t (tm.2 (.inr hit))], Go.AI.nx _, trivial⟩
        · have hit : ¬ L[i] = t := by assumption
          rw [tbI_miss hi hit]
          exact loopQ_next (i + 1) (by omega) (by omega) rfl ⟨rfl, rfl, rfl, rfl, rfl, rfl, rfl, rfl, rfl, rfl, rfl, rfl, by (show some (A.raw (Value.bool (dec (t ∈ L.take i)))) = some (A.raw (Value.bool (dec (t ∈ L.take (i + 1)))))); rw [dec_congr ⟨fun q => tm.2 (.inl q), fun q => (tm.1 q).elim id fun z => absurd z hit⟩], Go.AI.nx _, trivial⟩
      case neg =>
        have hie : i = L.length := by omega
        subst hie
        rw [List.take_length, dec_t hin, tbI_all, ← eT]
        repeat' (first
      | (refine j_go ?_; first
        | refine j_op0 rfl rfl rfl rfl ?_ | (refine j_kBin rfl ?_; first | refine j_in rfl rfl ⟨by omega, by omega⟩ rfl rfl ?_) | (refine j_kLen rfl ?_; first | refine j_len rfl rfl rfl rfl rfl rfl ?_) | (refine j_kGuard rfl ?_; first | (refine (j_ifn rfl rfl rfl (fun hb => ?_) (fun hb => ?_)) <;> first | (exfalso; omega) | skip)))
      | refine j_nil ?_
      | (refine r_go ?_; first | refine run_seq ?_ | refine run_region ?_ | refine run_cond_f rfl ?_ | (refine (run_if rfl (fun hb => ?_) (fun hb => ?_)) <;> first | (exfalso; omega) | skip) | refine run_exit ?_ | refine run_skip ?_)
      | refine seqQ_normal ?_ | refine seqQ_exit ?_ | refine blockQ_normal ?_ | refine blockQ_eq ?_ | refine loopQ_exit ?_)
        all_goals try (first | exact absurd hb (by decide) | exact absurd rfl hb | (exfalso; omega))
        exact loopQ_next (c + 1) (by omega) (by omega) rfl ⟨rfl, rfl, rfl, rfl, rfl, rfl, rfl, rfl, rfl, Go.AI.nx _, trivial⟩
    have hce : c = cs.length := by omega
    subst hce
    rw [List.take_length]
    generalize cs.map (fun c => p.after L[k] c) = T at rowi
    repeat' (first
      | (refine j_go ?_; first
        | refine j_op0 rfl rfl rfl rfl ?_ | (refine j_kLen rfl ?_; first | refine j_len rfl rfl rfl rfl rfl rfl ?_))
      | refine j_nil ?_
      | (refine r_go ?_; first | refine run_seq ?_ | refine run_region ?_ | (refine (run_if rfl (fun hb => ?_) (fun hb => ?_)) <;> first | (exfalso; omega) | skip) | refine run_block ?_ | refine run_exit ?_)
      | refine seqQ_normal ?_ | refine seqQ_exit ?_ | refine blockQ_eq ?_ | refine loopQ_exit ?_)
    refine run_loop (fun i : Nat => [(5, .ip (encPassing p)), (6, .ip (encStock s)), (7, .int (1 + r)), (11, .sl (L.map encStock)), (12, .sl (nx.map (Go.AI.encS Go.AI.encI))), (14, .sl ((restT L nx L.length).map encStock)), (16, .int (k : Int)), (19, .os (some bq) L.length cp), (26, .int (i : Int))])
      (fun _ => ⟨some bq, 4, cp * 1, ((tbL L T).map encB).flatten⟩ :: h) (fun i => i ≤ L.length) (fun i => L.length - i) 0 ⟨rfl, rfl, rfl, rfl, rfl, rfl, rfl, rfl, rfl, trivial⟩ rfl (Nat.zero_le _) (fun i il => ?_)
    have tl := tbL_len L T
    by_cases hi : i < L.length
    case pos =>
      have ri := rowi i hi
      repeat' (first
      | (refine j_go ?_; first
        | refine j_op0 rfl rfl rfl rfl ?_ | (refine j_kLen rfl ?_; first | refine j_len rfl rfl rfl rfl rfl rfl ?_))
      | refine j_nil ?_
      | (refine r_go ?_; first | refine run_seq ?_ | refine run_region ?_ | (refine (run_if rfl (fun hb => ?_) (fun hb => ?_)) <;> first | (exfalso; omega) | skip) | refine run_block ?_ | refine run_skip ?_)
      | refine seqQ_normal ?_)
      refine run_loop (fun j : Nat => [(5, .ip (encPassing p)), (6, .ip (encStock s)), (7, .int (1 + r)), (11, .sl (L.map encStock)), (12, .sl (nx.map (Go.AI.encS Go.AI.encI))), (14, .sl ((restT L nx L.length).map encStock)), (16, .int (k : Int)), (19, .os (some bq) L.length cp), (26, .int (i : Int)), (27, .raw (.bool (dec ((i : Int) ∈ nx[k].take j)))), (28, .int (j : Int))])
        (fun _ => ⟨some bq, 4, cp * 1, ((tbL L T).map encB).flatten⟩ :: h) (fun j => j ≤ nx[k].length) (fun j => nx[k].length - j) 0 ⟨rfl, rfl, rfl, rfl, rfl, rfl, rfl, rfl, rfl, by (show some (A.raw (Value.bool false)) = some (A.raw (Value.bool (dec ((i : Int) ∈ nx[k].take 0))))); rw [dec_f (by rw [List.take_zero]; exact List.not_mem_nil)], rfl, trivial⟩ rfl (Nat.zero_le _) (fun j jl => ?_)
      have nl := nlen _ (List.getElem_mem hkn)
      by_cases hj : j < nx[k].length
      case pos =>
        have tm := take_mem hj (i : Int)
        by_cases hin : (i : Int) ∈ nx[k].take j
        case pos =>
          rw [dec_t hin]
          repeat' (first
      | (refine j_go ?_; first
        | refine j_op0 rfl rfl rfl rfl ?_ | refine j_off rfl rfl rfl ?_ | (refine j_kIdx rfl ?_; first | refine j_idx rfl rfl rfl rfl rfl (by omega) rfl rfl rfl ?_) | (refine j_kBin rfl ?_; first | refine j_in rfl rfl ⟨by omega, by omega⟩ rfl rfl ?_) | (refine j_kLen rfl ?_; first | refine j_len rfl rfl rfl rfl rfl rfl ?_))
      | refine j_nil ?_
      | (refine r_go ?_; first | refine run_seq ?_ | refine run_region ?_ | (refine (run_if rfl (fun hb => ?_) (fun hb => ?_)) <;> first | (exfalso; omega) | skip) | refine run_block ?_ | refine run_skip ?_)
      | refine seqQ_normal ?_ | refine blockQ_normal ?_)
          exact loopQ_next (j + 1) (by omega) (by omega) rfl ⟨rfl, rfl, rfl, rfl, rfl, rfl, rfl, rfl, rfl, by (show some (A.raw (Value.bool true)) = some (A.raw (Value.bool (dec ((i : Int) ∈ nx[k].take (j + 1)))))); rw [dec_t (tm.2 (.inl hin))], Go.AI.nx _, trivial⟩
        case neg =>
          rw [dec_f hin]
          repeat' (first
      | (refine j_go ?_; first
        | refine j_op0 rfl rfl rfl rfl ?_ | (refine j_kIdx rfl ?_; first | refine j_idx rfl rfl rfl rfl rfl (by omega) rfl rfl rfl ?_) | (refine j_kBin rfl ?_; first | refine j_in rfl rfl ⟨by omega, by omega⟩ rfl rfl ?_) | (refine j_kLen rfl ?_; first | refine j_len rfl rfl rfl rfl rfl rfl ?_))
      | refine j_nil ?_
      | (refine r_go ?_; first | refine run_seq ?_ | refine run_region ?_ | (refine (run_if rfl (fun hb => ?_) (fun hb => ?_)) <;> first | (exfalso; omega) | skip) | refine run_block ?_ | refine run_skip ?_)
      | refine seqQ_normal ?_ | refine blockQ_normal ?_)
          exact loopQ_next (j + 1) (by omega) (by omega) rfl ⟨rfl, rfl, rfl, rfl, rfl, rfl, rfl, rfl, rfl, by (show some (A.raw (Value.bool (dec (nx[k][j] = (i : Int))))) = some (A.raw (Value.bool (dec ((i : Int) ∈ nx[k].take (j + 1)))))); rw [dec_congr ⟨fun q => tm.2 (.inr q), fun q => (tm.1 q).elim (fun z => absurd z hin) id⟩], Go.AI.nx _, trivial⟩
      have hje : j = nx[k].length := by omega
      subst hje
      rw [List.take_length, dec_congr ri]
      repeat' (first
      | (refine j_go ?_; first
        | refine j_op0 rfl rfl rfl rfl ?_ | (refine j_kIdx rfl ?_; first | refine j_idx rfl rfl rfl rfl rfl (by omega) rfl rfl rfl ?_ | refine j_midx rfl rfl rfl rfl rfl (by first | omega | (simp only [List.length_append, List.length_cons, List.length_nil]; omega)) rfl rfl ?_) | (refine j_kLen rfl ?_; first | refine j_len rfl rfl rfl rfl rfl rfl ?_))
      | refine j_nil ?_
      | (refine r_go ?_; first | refine run_seq ?_ | refine run_region ?_ | (refine (run_if rfl (fun hb => ?_) (fun hb => ?_)) <;> first | (exfalso; omega) | skip) | refine run_exit ?_)
      | refine seqQ_normal ?_ | refine seqQ_exit ?_ | refine blockQ_eq ?_ | refine loopQ_exit ?_)
      refine j_mloadE 0 i (g := encB) (L := tbL L T) rfl rfl rfl rfl (fun _ => rfl) (by first | rfl | omega) (by omega) (fun _ => rfl) rfl rfl ?_
      rw [show (tbL L T)[i]'(by omega) = dec (L[i] ∈ T) from by simp only [tbL, List.getElem_map]]
      repeat' (first
      | (refine j_go ?_; first
        | refine j_op0 rfl rfl rfl rfl ?_ | (refine j_kBin rfl ?_; first | refine j_in rfl rfl ⟨by omega, by omega⟩ rfl rfl ?_))
      | refine j_nil ?_
      | (refine r_go ?_; first | refine run_seq ?_ | refine run_region ?_ | (refine (run_ifn rfl (fun hb => ?_) (fun hb => ?_)) <;> first | (exfalso; omega) | skip) | refine run_ret ?_ | refine run_skip ?_)
      | refine seqQ_normal ?_ | refine seqQ_ret ?_ | refine blockQ_normal ?_ | refine blockQ_ret ?_ | refine loopQ_ret ?_)
      all_goals try (first | exact absurd hb (by decide) | exact absurd rfl hb | (exfalso; omega))
      exact loopQ_next (i + 1) (by omega) (by omega) rfl ⟨rfl, rfl, rfl, rfl, rfl, rfl, rfl, rfl, Go.AI.nx _, trivial⟩
    have hie : i = L.length := by omega
    subst hie
    repeat' (first
      | (refine j_go ?_; first
        | refine j_op0 rfl rfl rfl rfl ?_ | (refine j_kLen rfl ?_; first | refine j_len rfl rfl rfl rfl rfl rfl ?_) | (refine j_kBsl rfl ?_; first | refine j_bs0 rfl rfl rfl rfl rfl rfl ?_))
      | refine j_nil ?_
      | (refine r_go ?_; first | refine run_seq ?_ | refine run_region ?_ | (refine (run_if rfl (fun hb => ?_) (fun hb => ?_)) <;> first | (exfalso; omega) | skip) | refine run_block ?_ | refine run_exit ?_)
      | refine seqQ_normal ?_ | refine seqQ_exit ?_ | refine blockQ_eq ?_ | refine loopQ_exit ?_)
    refine run_view (view_erase 0) ?_
    refine run_view (view_none 31 (0 * 2) rfl) ?_
    refine run_loop (fun x : Nat × Option Nat × Nat => [(5, .ip (encPassing p)), (6, .ip (encStock s)), (7, .int (1 + r)), (11, .sl (L.map encStock)), (12, .sl (nx.map (Go.AI.encS Go.AI.encI))), (14, .sl ((restT L nx L.length).map encStock)), (29, .os x.2.1 (restT L nx x.1).length x.2.2), (30, .int (x.1 : Int))])
      (fun x => sLB x.2.1 x.2.2 (restT L nx x.1) :: h) (fun x => x.1 ≤ L.length) (fun x => L.length - x.1) (0, none, 0) ⟨rfl, rfl, rfl, rfl, rfl, rfl, rfl, rfl, trivial⟩ rfl (Nat.zero_le _) (fun ⟨j, ob, cp⟩ jl => ?_)
    dsimp only at jl ⊢
    have rl := restT_len L nx j
    by_cases hj : j < L.length
    case pos =>
      by_cases hz : nx[j]'(by omega) = []
      case pos =>
        have hz0 : (nx[j]'(by omega)).length = 0 := by rw [hz]; rfl
        repeat' (first
      | (refine j_go ?_; first
        | refine j_op0 rfl rfl rfl rfl ?_ | (refine j_kIdx rfl ?_; first | refine j_idx rfl rfl rfl rfl rfl (by omega) rfl rfl rfl ?_) | (refine j_kLen rfl ?_; first | refine j_len rfl rfl rfl rfl rfl rfl ?_) | (refine j_kBsl rfl ?_; first | refine j_bsl rfl rfl rfl rfl rfl rfl rfl rfl rfl rfl rfl ?_))
      | refine j_nil ?_
      | (refine r_go ?_; first | refine run_seq ?_ | refine run_region ?_ | (refine (run_if rfl (fun hb => ?_) (fun hb => ?_)) <;> first | (exfalso; omega) | skip) | refine run_block ?_ | refine run_skip ?_)
      | refine seqQ_normal ?_)
        all_goals try (exfalso; omega)
        refine j_append 0 (g := encStock) (ys := restT L nx j) [L[j]] rfl rfl rfl rfl rfl rfl rfl rfl rfl rfl rfl rfl (fun _ => rfl) (fun _ hy => by simp only [List.mem_singleton] at hy; subst hy; rfl) ⟨by simp only [List.length_cons, List.length_nil]; omega, by simp only [List.length_cons, List.length_nil]; omega⟩ rfl rfl (fun ob' cp' => ?_)
        rw [← restT_t hj (by omega) hz]
        repeat' (first
      | (refine j_go ?_; first
        | refine j_op0 rfl rfl rfl rfl ?_ | (refine j_kBin rfl ?_; first | refine j_in rfl rfl ⟨by omega, by omega⟩ rfl rfl ?_))
      | refine j_nil ?_
      | (refine r_go ?_; first | refine run_region ?_)
      | refine seqQ_normal ?_ | refine blockQ_normal ?_)
        exact loopQ_next (j + 1, ob', cp') (by dsimp only; omega) (by dsimp only; omega) rfl ⟨rfl, rfl, rfl, rfl, rfl, rfl, rfl, Go.AI.nx _, trivial⟩
      case neg =>
        have hz0 : (nx[j]'(by omega)).length ≠ 0 := fun q => hz (List.eq_nil_of_length_eq_zero q)
        repeat' (first
      | (refine j_go ?_; first
        | refine j_op0 rfl rfl rfl rfl ?_ | (refine j_kIdx rfl ?_; first | refine j_idx rfl rfl rfl rfl rfl (by omega) rfl rfl rfl ?_) | (refine j_kBin rfl ?_; first | refine j_in rfl rfl ⟨by omega, by omega⟩ rfl rfl ?_) | (refine j_kLen rfl ?_; first | refine j_len rfl rfl rfl rfl rfl rfl ?_))
      | refine j_nil ?_
      | (refine r_go ?_; first | refine run_seq ?_ | refine run_region ?_ | (refine (run_if rfl (fun hb => ?_) (fun hb => ?_)) <;> first | (exfalso; omega) | skip) | refine run_block ?_ | refine run_skip ?_)
      | refine seqQ_normal ?_ | refine blockQ_normal ?_)
        all_goals try (exfalso; omega)
        rw [← restT_f (L := L) (by omega) hz]
        exact loopQ_next (j + 1, ob, cp) (by dsimp only; omega) (by dsimp only; omega) rfl ⟨rfl, rfl, rfl, rfl, rfl, rfl, rfl, Go.AI.nx _, trivial⟩
    have hje : j = L.length := by omega
    subst hje
    have cI2 := c_iPassResults p (1 + r) s hv hs hm
    have cS2 := c_sPassResults p (1 + r) s hv hs hm
    have e2 : resPassResults p (1 + r) s = normR (szs (restT L nx L.length)) := by unfold resPassResults; rw [e]
    rw [(pg_some hgr).2, e2] at cI2 cS2
    generalize restT L nx L.length = Q at rl cI2 cS2 ⊢
    refine run_view (view_freeze (g := encStock) (z := 2) (ys := Q) 0 29 rfl rfl rfl (fun _ => rfl) rfl rfl) ?_
    have zn := szs_nil (Q := Q)
    have zl := normR_len (szs Q)
    have zq : (szs Q).length = Q.length := by unfold szs; rw [List.length_map]
    repeat' (first
      | (refine j_go ?_; first
        | refine j_op0 rfl rfl rfl rfl ?_ | (refine j_kLen rfl ?_; first | refine j_len rfl rfl rfl rfl rfl rfl ?_) | (refine j_kCall rfl rfl rfl rfl ?_; first | refine jc (cI2) (LeL.refl _) rfl rfl ?_ | refine jc (cS2) (LeL.refl _) rfl rfl ?_ | refine jc (c_f6stocks Q (by omega)) (LeL.refl _) rfl rfl ?_ | refine jc (c_f6ints (normR (szs Q)) (by omega)) (LeL.refl _) rfl rfl ?_) | (refine j_kGuard rfl ?_; first | (refine (j_if rfl rfl rfl (fun hb => ?_) (fun hb => ?_)) <;> first | (exfalso; omega) | skip)))
      | refine j_nil ?_
      | (refine r_go ?_; first | refine run_seq ?_ | refine run_region ?_ | (refine (run_if rfl (fun hb => ?_) (fun hb => ?_)) <;> first | (exfalso; omega) | skip) | refine run_ret ?_ | refine run_exit ?_)
      | refine seqQ_normal ?_ | refine seqQ_exit ?_ | refine blockQ_eq ?_ | refine loopQ_exit ?_)
    all_goals try (first | exact absurd hb (by decide) | exact absurd rfl hb | (exfalso; omega))
    exact end1 rfl (by repeat' first | exact List.Sublist.refl _ | refine List.Sublist.cons _ ?_) (rbT (dec_congr (p := ((normR (szs Q)).length : Int) = 0) (q := (Q.length : Int) = 0) (by omega))).symm (.inl rfl)
end Go.Proofs.YtbpmmdecaonopaaGreat
