/-
  The graph of stocks, by the reference. No condition.
-/
import Derived.Test.YtbpmmdecaonopaaGreatZV4
import Derived.Test.YtbpmmdecaonopaaGreatZS5f
namespace Go.Proofs.YtbpmmdecaonopaaGreat
open Go.AI
set_option maxRecDepth 8000
set_option maxHeartbeats 3200000
abbrev sLB (b : Option Nat) (cap : Nat) (L : List Stock) : Blk := ⟨b, 31, cap * 2, (L.map encStock).flatten⟩
abbrev nLB (b : Option Nat) (cap : Nat) (L : List (List Int)) : Blk := ⟨b, 24, cap * 1, (L.map (encS Go.AI.encI)).flatten⟩
theorem sL_ne {L : List Stock} (h : 0 < L.length) : (L.map encStock).flatten ≠ [] := fun q => by
  have := flat_len (f := encStock) (z := 2) (fun _ => rfl) L; rw [q] at this; simp at this; omega
theorem sL_frz {b : Option Nat} {cap : Nat} {L : List Stock} {n : Nat} (hn : n = L.length) : Frz [sLB b cap L] (.os b n cap) (.sl (L.map encStock)) := by
  subst hn; exact Frz.flat (g := encStock) (ys := L) (z := 2) rfl rfl (fun _ => rfl) rfl rfl
theorem sL_ptr {b : Nat} {cap : Nat} {L : List Stock} {k off : Nat} (hk : k < L.length) (ho : off = k * 2) : Frz [sLB (some b) cap L] (.op (some b) off) (.ip (encStock L[k])) := by
  have e := drop_flat (g := encStock) (z := 2) (fun _ => rfl) L k hk
  have fl := flat_len (f := encStock) (z := 2) (fun _ => rfl) L
  refine Frz.ptrAt (cs := (L.map encStock).flatten) (List.mem_singleton.2 rfl) ?_ ?_
  · rw [ho, e, List.take_append_of_le_length (Nat.le_refl _), List.take_length]
    exact FrzL.cons (Frz.same _ _) (FrzL.cons (Frz.same _ _) (FrzL.nil _))
  · rw [fl, ho]
    show k * 2 + 2 ≤ L.length * 2
    omega
theorem sL_ptr2 {b : Nat} {cap : Nat} {L : List Stock} {k off : Nat} {x : Stock} (hk : k < L.length) (hx : L[k] = x) (ho : off = k * 2) : Frz [sLB (some b) cap L] (.op (some b) off) (.ip (encStock x)) := by
  subst hx; exact sL_ptr hk ho
theorem stock_small {p : Passing} {s : Stock} (hv : p.Ok) (hs : p.StockOk s) : s.cells.length ≤ 100 ∧ s.around.length ≤ 100 ∧ ∀ c ∈ s.cells, c.length ≤ 100 := by
  have h4 := hv.1.2.1
  have h1 := hs.1
  have h2 := hs.2.1.1.2.2
  refine ⟨by omega, by omega, fun c hc => ?_⟩
  have := (hs.2.2.1 c hc).1.2.2
  omega
theorem wkF_le {E : List (List Int)} : (((wkF 0 E : Nat) : Int) ≤ 1500) ↔ E.length ≤ 1500 := by unfold wkF; omega
/-- What l06Graph hands back. -/
def GrR (p : Passing) (m : Int) (s : Stock) : A → Heap → Prop := fun v h' => h' = [] ∧ ∃ (L : List Stock) (nx : List (List Int)) (b : Bool), v = .tup [.sl (L.map encStock), .sl (nx.map (encS Go.AI.encI)), .raw (.bool b)] ∧ (b = true → grF p m s = some (L, nx)) ∧ (b = false → grF p m s = none)
theorem o_l06Graph (p : Passing) (m : Int) (s : Stock) (hv : p.Ok) (hs : p.StockOk s) : Does Tryz.prog 30 [.ip (encPassing p), .ip (encStock s), .int m] [] (GrR p m s) := by
  refine fn_of_runD tyOk ztOk mix Tryz.func30 rfl (by decide) Tryz.ntmps30 (fun w0 F => ?_)
  change Run _ _ _ _ _ F
  obtain ⟨s1, s2, s3⟩ := stock_small hv hs
  have fin : ∀ (L : List Stock) (nx : List (List Int)) (b : Bool) (ob on : Option Nat) (cp cn : Nat) (e : Env), lk e 6 = some (.os ob L.length cp) → lk e 7 = some (.os on nx.length cn) → lk e 8 = some (.raw (.bool b)) → (b = true → grF p m s = some (L, nx)) → (b = false → grF p m s = none) →
      endD ty Tryz.f30.results (GrR p m s) F .ret e (sLB ob cp L :: nLB on cn nx :: F) := fun L nx b ob on cp cn e q1 q2 q3 h1 h2 =>
    endD_view (view_freeze (g := encStock) (z := 2) (ys := L) 0 6 q1 rfl rfl (fun _ => rfl) rfl rfl) (endD_view (view_freeze (g := encS Go.AI.encI) (z := 1) (ys := nx) 0 7 (by rw [lk_cons_ne _ _ (by decide)]; exact q2) rfl rfl (fun _ => rfl) rfl rfl)
      (endD_ret (h1 := []) rfl (vs := [_, _, _]) (.cons (.tmp (by rw [lk_cons_ne _ _ (by decide)]; rfl)) (.cons (.tmp rfl) (.cons (.tmp (by rw [lk_cons_ne _ _ (by decide), lk_cons_ne _ _ (by decide)]; exact q3)) .nil))) (Le.refl _) ⟨rfl, L, nx, b, rfl, h1, h2⟩ (.inl rfl)))
  repeat' (first
      | (refine j_go ?_; first
        | refine j_op0 rfl rfl rfl rfl ?_ | (refine j_kCall rfl rfl rfl rfl ?_; first | refine jc (c_l06OwnStock s s1 s2 s3) (LeL.refl _) rfl rfl ?_))
      | refine j_nil ?_
      | (refine r_go ?_; first | refine run_seq ?_ | refine run_region ?_)
      | refine seqQ_normal ?_)
  refine j_bslM rfl rfl rfl rfl rfl rfl rfl rfl rfl rfl rfl (fun b1 => ?_)
  repeat' (first
      | (refine j_go ?_; first
        | refine j_op0 rfl rfl rfl rfl ?_ | (refine j_kBsl rfl ?_; first | refine j_bs0 rfl rfl rfl rfl rfl rfl ?_))
      | refine j_nil ?_
      | (refine r_go ?_; first | refine run_seq ?_ | refine run_region ?_ | refine run_block ?_)
      | refine seqQ_normal ?_)
  refine run_view (view_none 24 (0 * 1) rfl) ?_
  refine run_view (view_perm (List.Perm.swap _ _ _)) ?_
  refine run_loop (fun x : (List Stock × List (List Int)) × (Option Nat × Nat) × (Option Nat × Nat) => [(0, .ip (encPassing p)), (2, .int m), (9, .os x.2.1.1 x.1.1.length x.2.1.2), (10, .os x.2.2.1 x.1.2.length x.2.2.2), (11, .int (x.1.2.length : Int))])
    (fun x => sLB x.2.1.1 x.2.1.2 x.1.1 :: nLB x.2.2.1 x.2.2.2 x.1.2 :: F)
    (fun x => grI p m s x.1.2.length = some (x.1.1, x.1.2)) (fun x => 201 - x.1.2.length) (([s], []), (some b1, 1), (none, 0)) ⟨rfl, rfl, rfl, rfl, rfl, trivial⟩ rfl rfl (fun ⟨⟨L, nx⟩, ⟨ob, cp⟩, ⟨on, cn⟩⟩ hg => ?_)
  dsimp only at hg ⊢
  obtain ⟨G, _⟩ := grI_ok hs _ hg
  have gn := G.nl
  have gl := G.le
  by_cases hk : nx.length < L.length
  case neg =>
    repeat' (first
      | (refine j_go ?_; first
        | refine j_op0 rfl rfl rfl rfl ?_ | (refine j_kLen rfl ?_; first | refine j_op rfl rfl rfl rfl ?_))
      | refine j_nil ?_
      | (refine r_go ?_; first | refine run_seq ?_ | refine run_region ?_ | (refine (run_if rfl (fun hb => ?_) (fun hb => ?_)) <;> first | (exfalso; omega) | skip) | refine run_ret ?_ | refine run_exit ?_)
      | refine seqQ_normal ?_ | refine seqQ_exit ?_ | refine blockQ_eq ?_ | refine loopQ_exit ?_)
    exact fin L nx true ob on cp cn _ rfl rfl rfl (fun _ => grF_done (by omega) hg (by omega)) (fun q => nomatch q)
  have hsk := G.ok _ (List.getElem_mem hk)
  have gs := grI_step hg hk
  refine run_some 0 rfl (sL_ne (by omega)) (fun bq hbq => ?_)
  subst hbq
  repeat' (first
      | (refine j_go ?_; first
        | refine j_op0 rfl rfl rfl rfl ?_ | (refine j_kIdx rfl ?_; first | refine j_midx rfl rfl rfl rfl rfl (by first | omega | (simp only [List.length_append, List.length_cons, List.length_nil]; omega)) rfl rfl ?_) | (refine j_kLen rfl ?_; first | refine j_op rfl rfl rfl rfl ?_))
      | refine j_nil ?_
      | (refine r_go ?_; first | refine run_seq ?_ | refine run_region ?_ | (refine (run_if rfl (fun hb => ?_) (fun hb => ?_)) <;> first | (exfalso; omega) | skip) | refine run_block ?_ | refine run_skip ?_)
      | refine seqQ_normal ?_)
  refine j_kCall rfl rfl rfl rfl ?_
  refine jcqK (sLB (some bq) cp L) (by simp) (o_l06ChoicesK p L[nx.length] m (sLB (some bq) cp L) _ (sL_ptr hk (by first | rfl | omega)) hv hsk) (LeL.refl _) rfl rfl ?_
  by_cases h15 : (p.allC L[nx.length]).length ≤ 1500
  case neg =>
    rw [if_neg h15] at gs
    rw [dec_f (fun q => h15 (wkF_le.1 q))]
    repeat' (first
      | (refine j_go ?_; first
        | refine j_op0 rfl rfl rfl rfl ?_)
      | refine j_nil ?_
      | (refine r_go ?_; first | refine run_seq ?_ | refine run_region ?_ | refine run_cond_t rfl ?_ | refine run_ret ?_)
      | refine seqQ_normal ?_ | refine seqQ_ret ?_ | refine blockQ_ret ?_ | refine loopQ_ret ?_)
    exact fin L nx false (some bq) on cp cn _ rfl rfl rfl (fun q => nomatch q) (fun _ => grF_none (by omega) gs)
  rw [if_pos h15] at gs
  rw [dec_t (wkF_le.2 h15), wk_all h15]
  have cok : ∀ c ∈ p.chS m L[nx.length], p.Cnts c ∧ Nn (p.left L[nx.length] c) := fun c hc => chS_ok hv hsk hc
  have c15 : (p.chS m L[nx.length]).length ≤ 1500 := Nat.le_trans (pick_len _ _ _ _) h15
  change J _ _ _ _ _ _ ((_, .tup [.sl ((p.chS m L[nx.length]).map (encS Go.AI.encI)), _]) :: _) _
  generalize p.chS m L[nx.length] = cs at gs cok c15 ⊢
  repeat' (first
      | (refine j_go ?_; first
        | refine j_op0 rfl rfl rfl rfl ?_ | (refine j_kBsl rfl ?_; first | refine j_bs0 rfl rfl rfl rfl rfl rfl ?_))
      | refine j_nil ?_
      | (refine r_go ?_; first | refine run_seq ?_ | refine run_region ?_ | refine run_cond_f rfl ?_ | refine run_block ?_ | refine run_skip ?_)
      | refine seqQ_normal ?_)
  refine run_view (view_none 2 0 rfl) ?_
  refine run_view (view_freeze (g := Go.AI.encI) (z := 1) (ys := []) 0 14 rfl rfl rfl (fun _ => rfl) rfl rfl) ?_
  refine run_loop (fun x : (Nat × List Stock × List Int) × Option Nat × Nat => [(0, .ip (encPassing p)), (2, .int m), (10, .os on nx.length cn), (11, .int (nx.length : Int)), (12, .sl (cs.map (encS Go.AI.encI))), (9, .os x.2.1 x.1.2.1.length x.2.2), (14, .sl ((normR x.1.2.2).map Go.AI.encI)), (15, .int (x.1.1 : Int))])
    (fun x => sLB x.2.1 x.2.2 x.1.2.1 :: nLB on cn nx :: F) (fun x => RowAt p L[nx.length] cs L x.1.1 x.1.2.1 x.1.2.2) (fun x => cs.length - x.1.1) ((0, L, []), some bq, cp) ⟨rfl, rfl, rfl, rfl, rfl, rfl, rfl, rfl, trivial⟩ rfl (RowAt.start G.nd G.le G.ok) (fun ⟨⟨c, L2, own⟩, ob2, cp2⟩ R => ?_)
  dsimp only at R ⊢
  have rl := R.pre.length_le
  have r2 := R.le
  have ol := R.ol
  have rc := R.cl
  have nl := normR_len own
  by_cases hc : c < cs.length
  case neg =>
    have hce : c = cs.length := by omega
    rw [R.done hce] at gs
    repeat' (first
      | (refine j_go ?_; first
        | refine j_op0 rfl rfl rfl rfl ?_ | (refine j_kLen rfl ?_; first | refine j_len rfl rfl rfl rfl rfl rfl ?_) | (refine j_kBsl rfl ?_; first | refine j_bsl rfl rfl rfl rfl rfl rfl rfl rfl rfl rfl rfl ?_))
      | refine j_nil ?_
      | (refine r_go ?_; first | refine run_seq ?_ | refine run_region ?_ | (refine (run_if rfl (fun hb => ?_) (fun hb => ?_)) <;> first | (exfalso; omega) | skip) | refine run_exit ?_)
      | refine seqQ_normal ?_ | refine seqQ_exit ?_ | refine blockQ_eq ?_ | refine loopQ_exit ?_)
    refine j_append 1 (g := encS Go.AI.encI) (ys := nx) [normR own] rfl rfl rfl rfl rfl rfl rfl rfl rfl rfl rfl rfl (fun _ => rfl) (fun _ hy => by simp only [List.mem_singleton] at hy; subst hy; rfl) ⟨by simp only [List.length_cons, List.length_nil]; omega, by simp only [List.length_cons, List.length_nil]; omega⟩ rfl rfl (fun on' cn' => ?_)
    repeat' (first
      | (refine j_go ?_; first
        | refine j_op0 rfl rfl rfl rfl ?_ | (refine j_kBin rfl ?_; first | refine j_in rfl rfl ⟨by omega, by omega⟩ rfl rfl ?_))
      | refine j_nil ?_
      | (refine r_go ?_; first | refine run_region ?_)
      | refine seqQ_normal ?_ | refine blockQ_normal ?_)
    exact loopQ_next ((L2, nx ++ [normR own]), (ob2, cp2), (on', cn')) (by dsimp only; rw [List.length_append]; exact gs) (by dsimp only; rw [List.length_append, List.length_singleton]; omega) rfl ⟨rfl, rfl, rfl, rfl, si (by dsimp only; rw [List.length_append, List.length_singleton]; omega), trivial⟩
  have hkc := cok _ (List.getElem_mem hc)
  have eL : L2[nx.length]'(by omega) = L[nx.length] := pre_get R.pre hk (by omega)
  refine run_some 0 rfl (sL_ne (by omega)) (fun bq2 hbq => ?_)
  subst hbq
  have st : ∀ sx, Frz [sLB (some bq2) cp2 L2] sx (.ip (encStock L[nx.length])) → Does Tryz.prog 61 [.ip (encPassing p), sx, .sl (cs[c].map Go.AI.encI)] [sLB (some bq2) cp2 L2] (fun u h' => u = .tup [.agg (encStock (resPassStep p L[nx.length] cs[c])), .int (codePassStep p L[nx.length] cs[c])] ∧ h' = [sLB (some bq2) cp2 L2]) := fun sx hz => c_l06StepK p L[nx.length] cs[c] (sLB (some bq2) cp2 L2) sx hz hv hsk hkc.1
  by_cases hok : p.StockOk (p.after L[nx.length] cs[c])
  case neg =>
    rw [(ps_f3 hv hsk hkc.1 hkc.2 hok).1, (ps_f3 hv hsk hkc.1 hkc.2 hok).2] at st
    rw [R.bad hc hok] at gs
    repeat' (first
      | (refine j_go ?_; first
        | refine j_op0 rfl rfl rfl rfl ?_ | (refine j_kLen rfl ?_; first | refine j_len rfl rfl rfl rfl rfl rfl ?_))
      | refine j_nil ?_
      | (refine j_goO ?_; first
        | refine j_op0O rfl rfl rfl rfl ?_ | (refine j_kIdxO rfl ?_; first | refine j_idxO rfl rfl rfl rfl rfl (by omega) rfl rfl rfl ?_ | refine j_midxO rfl rfl rfl rfl rfl (by first | omega | (simp only [List.length_append, List.length_cons, List.length_nil]; omega)) rfl rfl ?_))
      | (refine r_go ?_; first | refine run_seq ?_ | refine run_region ?_ | (refine (run_if rfl (fun hb => ?_) (fun hb => ?_)) <;> first | (exfalso; omega) | skip) | refine run_block ?_ | refine run_skip ?_ | refine run_opn 13 [⟨0, false, false, 0⟩, ⟨1, false, false, 0⟩, ⟨2, false, false, 0⟩, ⟨3, false, false, 0⟩, ⟨4, false, false, 0⟩, ⟨5, false, false, 0⟩, ⟨6, false, false, 0⟩, ⟨7, false, false, 0⟩, ⟨8, false, false, 0⟩, ⟨9, false, false, 0⟩, ⟨10, false, false, 0⟩, ⟨11, false, false, 0⟩, ⟨12, false, true, 0⟩, ⟨13, false, true, 0⟩, ⟨14, true, false, 0⟩] rfl rfl (by kernel_rfl) ?_)
      | refine seqQ_normal ?_)
    refine j_kCallO rfl rfl rfl rfl ?_
    refine jcqKO (sLB (some bq2) cp2 L2) List.mem_cons_self (st _ (sL_ptr2 (by omega) eL (by first | rfl | omega))) (LeL.refl _) rfl rfl ?_
    repeat' (first
      | (refine j_go ?_; first
        | refine j_op0 rfl rfl rfl rfl ?_)
      | refine j_nil ?_
      | (refine j_goO ?_; first
        | refine j_op0O rfl rfl rfl rfl ?_ | (refine j_kStoreO rfl ?_; first | refine j_storeNO 0 rfl rfl rfl rfl rfl rfl rfl rfl rfl rfl rfl rfl (by first | (intro _ hk; exact absurd hk List.not_mem_nil) | (intro k hk; simp at hk ⊢; try simp [hk])) ?_) | refine j_allocO rfl (by first | (intro _ hk; exact absurd hk List.not_mem_nil) | (intro k hk; simp at hk ⊢; try simp [hk])) rfl rfl rfl rfl rfl (fun _ => ?_))
      | refine j_nilO ?_
      | (refine r_go ?_; first | refine run_seq ?_ | refine run_region ?_ | (refine (run_ifn rfl (fun hb => ?_) (fun hb => ?_)) <;> first | (exfalso; omega) | skip) | refine run_ret ?_)
      | refine seqQ_normal ?_ | refine seqQ_ret ?_ | refine blockQ_ret ?_ | refine loopQ_ret ?_)
    refine endD_view (view_erase 0) ?_
    exact fin L2 nx false (some bq2) on cp2 cn _ rfl rfl rfl (fun q => nomatch q) (fun _ => grF_none (by omega) gs)
  rw [(ps_t hv hsk hkc.1 hkc.2 hok).1, (ps_t hv hsk hkc.1 hkc.2 hok).2] at st
  have Rh := R.hit hc hok
  have Rn := R.new hc hok
  have Rf := R.full hc hok
  generalize p.after L[nx.length] cs[c] = t at st Rh Rn Rf
  repeat' (first
      | (refine j_go ?_; first
        | refine j_op0 rfl rfl rfl rfl ?_ | (refine j_kLen rfl ?_; first | refine j_len rfl rfl rfl rfl rfl rfl ?_))
      | refine j_nil ?_
      | (refine j_goO ?_; first
        | refine j_op0O rfl rfl rfl rfl ?_ | (refine j_kIdxO rfl ?_; first | refine j_idxO rfl rfl rfl rfl rfl (by omega) rfl rfl rfl ?_ | refine j_midxO rfl rfl rfl rfl rfl (by first | omega | (simp only [List.length_append, List.length_cons, List.length_nil]; omega)) rfl rfl ?_))
      | (refine r_go ?_; first | refine run_seq ?_ | refine run_region ?_ | (refine (run_if rfl (fun hb => ?_) (fun hb => ?_)) <;> first | (exfalso; omega) | skip) | refine run_block ?_ | refine run_skip ?_ | refine run_opn 13 [⟨0, false, false, 0⟩, ⟨1, false, false, 0⟩, ⟨2, false, false, 0⟩, ⟨3, false, false, 0⟩, ⟨4, false, false, 0⟩, ⟨5, false, false, 0⟩, ⟨6, false, false, 0⟩, ⟨7, false, false, 0⟩, ⟨8, false, false, 0⟩, ⟨9, false, false, 0⟩, ⟨10, false, false, 0⟩, ⟨11, false, false, 0⟩, ⟨12, false, true, 0⟩, ⟨13, false, true, 0⟩, ⟨14, true, false, 0⟩] rfl rfl (by kernel_rfl) ?_)
      | refine seqQ_normal ?_)
  refine j_kCallO rfl rfl rfl rfl ?_
  refine jcqKO (sLB (some bq2) cp2 L2) List.mem_cons_self (st _ (sL_ptr2 (by omega) eL (by first | rfl | omega))) (LeL.refl _) rfl rfl ?_
  repeat' (first
      | (refine j_go ?_; first
        | refine j_op0 rfl rfl rfl rfl ?_)
      | refine j_nil ?_
      | (refine j_goO ?_; first
        | refine j_op0O rfl rfl rfl rfl ?_ | (refine j_kStoreO rfl ?_; first | refine j_storeNO 0 rfl rfl rfl rfl rfl rfl rfl rfl rfl rfl rfl rfl (by first | (intro _ hk; exact absurd hk List.not_mem_nil) | (intro k hk; simp at hk ⊢; try simp [hk])) ?_) | refine j_allocO rfl (by first | (intro _ hk; exact absurd hk List.not_mem_nil) | (intro k hk; simp at hk ⊢; try simp [hk])) rfl rfl rfl rfl rfl (fun _ => ?_))
      | refine j_nilO ?_
      | (refine r_go ?_; first | refine run_seq ?_ | refine run_region ?_ | (refine (run_ifn rfl (fun hb => ?_) (fun hb => ?_)) <;> first | (exfalso; omega) | skip) | refine run_skip ?_)
      | refine seqQ_normal ?_)
  refine j_view (view_freezeP 0 16 rfl rfl) ?_
  have cf := c_l06Find L2 t (by omega)
  by_cases hm : t ∈ L2
  case pos =>
    have ea : fIdx (fun u => u = t) L2 = atS L2 t := by unfold atS; rw [if_neg (mem_fIdx.1 hm)]
    rw [ea] at cf
    have an := atS_in (L := L2) (t := t)
    have cp0 := c_l00PutG (normR own) (atS L2 t) (normR_asc _) (by omega)
    refine j_kCall rfl rfl rfl rfl ?_
    refine jctq [sLB (some bq2) cp2 L2] cf (Clo.int _) (fun k hk => by rw [List.mem_singleton] at hk; subst hk; exact List.mem_cons_self) (FrzL.cons (sL_frz rfl) (FrzL.cons (Frz.same _ _) (FrzL.nil _))) rfl rfl ?_
    repeat' (first
      | (refine j_go ?_; first
        | refine j_op0 rfl rfl rfl rfl ?_ | (refine j_kBin rfl ?_; first | refine j_in rfl rfl ⟨by omega, by omega⟩ rfl rfl ?_) | (refine j_kCall rfl rfl rfl rfl ?_; first | refine jc (cp0) (LeL.refl _) rfl rfl ?_))
      | refine j_nil ?_
      | (refine r_go ?_; first | refine run_seq ?_ | refine run_region ?_ | (refine (run_if rfl (fun hb => ?_) (fun hb => ?_)) <;> first | (exfalso; omega) | skip) | refine run_skip ?_)
      | refine seqQ_normal ?_ | refine blockQ_normal ?_)
    exact loopQ_next ((c + 1, L2, own ++ [atS L2 t]), some bq2, cp2) (Rh hm) (by dsimp only; omega) rfl ⟨rfl, rfl, rfl, rfl, rfl, rfl, by rw [normR_snoc]; rfl, Go.AI.nx _, trivial⟩
  case neg =>
    rw [fIdx_new hm] at cf
    refine j_kCall rfl rfl rfl rfl ?_
    refine jctq [sLB (some bq2) cp2 L2] cf (Clo.int _) (fun k hk => by rw [List.mem_singleton] at hk; subst hk; exact List.mem_cons_self) (FrzL.cons (sL_frz rfl) (FrzL.cons (Frz.same _ _) (FrzL.nil _))) rfl rfl ?_
    by_cases hl : L2.length < 200
    case neg =>
      rw [Rf hm hl] at gs
      repeat' (first
      | (refine j_go ?_; first
        | refine j_op0 rfl rfl rfl rfl ?_ | (refine j_kLen rfl ?_; first | refine j_op rfl rfl rfl rfl ?_))
      | refine j_nil ?_
      | (refine r_go ?_; first | refine run_seq ?_ | refine run_region ?_ | (refine (run_if rfl (fun hb => ?_) (fun hb => ?_)) <;> first | (exfalso; omega) | skip) | refine run_ret ?_)
      | refine seqQ_normal ?_ | refine seqQ_ret ?_ | refine blockQ_ret ?_ | refine loopQ_ret ?_)
      exact fin L2 nx false (some bq2) on cp2 cn _ rfl rfl rfl (fun q => nomatch q) (fun _ => grF_none (by omega) gs)
    case pos =>
      have ea := atS_new hm
      have cp0 := c_l00PutG (normR own) (L2.length : Int) (normR_asc _) (by omega)
      repeat' (first
      | (refine j_go ?_; first
        | refine j_op0 rfl rfl rfl rfl ?_ | (refine j_kLen rfl ?_; first | refine j_op rfl rfl rfl rfl ?_) | (refine j_kBsl rfl ?_; first | refine j_bsl rfl rfl rfl rfl rfl rfl rfl rfl rfl rfl rfl ?_))
      | refine j_nil ?_
      | (refine r_go ?_; first | refine run_seq ?_ | refine run_region ?_ | (refine (run_if rfl (fun hb => ?_) (fun hb => ?_)) <;> first | (exfalso; omega) | skip) | refine run_skip ?_)
      | refine seqQ_normal ?_)
      refine j_append 0 (g := encStock) (ys := L2) [t] rfl rfl rfl rfl rfl rfl rfl rfl rfl rfl rfl rfl (fun _ => rfl) (fun _ hy => by simp only [List.mem_singleton] at hy; subst hy; rfl) ⟨by simp only [List.length_cons, List.length_nil]; omega, by simp only [List.length_cons, List.length_nil]; omega⟩ rfl rfl (fun ob' cp' => ?_)
      repeat' (first
      | (refine j_go ?_; first
        | refine j_op0 rfl rfl rfl rfl ?_ | (refine j_kBin rfl ?_; first | refine j_in rfl rfl ⟨by omega, by omega⟩ rfl rfl ?_) | (refine j_kCall rfl rfl rfl rfl ?_; first | refine jc (cp0) (LeL.refl _) rfl rfl ?_))
      | refine j_nil ?_
      | (refine r_go ?_; first | refine run_region ?_)
      | refine seqQ_normal ?_ | refine blockQ_normal ?_)
      exact loopQ_next ((c + 1, L2 ++ [t], own ++ [atS L2 t]), ob', cp') (Rn hm hl) (by dsimp only; omega) rfl ⟨rfl, rfl, rfl, rfl, rfl, rfl, by rw [normR_snoc, ea]; rfl, Go.AI.nx _, trivial⟩
end Go.Proofs.YtbpmmdecaonopaaGreat

/-
  The stocks at rest of a graph, and their sizes, by the reference. No condition.
-/
namespace Go.Proofs.YtbpmmdecaonopaaGreat
open Go.AI
set_option maxRecDepth 8000
set_option maxHeartbeats 3200000
theorem pg_some {p : Passing} {m : Int} {s : Stock} {L : List Stock} {nx : List (List Int)} (h : grF p m s = some (L, nx)) : resPassGraph p m s = (L, nx) ∧ codePassGraph p m s = 0 := by unfold resPassGraph codePassGraph; rw [h]; exact ⟨rfl, rfl⟩
theorem pg_none {p : Passing} {m : Int} {s : Stock} (h : grF p m s = none) : resPassGraph p m s = ([], []) ∧ codePassGraph p m s = 3 := by unfold resPassGraph codePassGraph; rw [h]; exact ⟨rfl, rfl⟩
/-- The stocks at rest among the first ones. -/
def restT (L : List Stock) (nx : List (List Int)) : Nat → List Stock
  | 0 => []
  | k + 1 => restT L nx k ++ (if nx.getD k [] = [] then [L.getD k ⟨[], []⟩] else [])
theorem restT_len (L : List Stock) (nx : List (List Int)) : ∀ k, (restT L nx k).length ≤ k
  | 0 => Nat.le_refl _
  | k + 1 => by
    have := restT_len L nx k
    rw [restT, List.length_append]
    split <;> simp <;> omega
theorem restT_mem {L : List Stock} {nx : List (List Int)} : ∀ k, k ≤ L.length → ∀ t ∈ restT L nx k, t ∈ L
  | 0, _, t, h => absurd h List.not_mem_nil
  | k + 1, hk, t, h => by
    rw [restT] at h
    rcases List.mem_append.1 h with q | q
    · exact restT_mem k (by omega) t q
    · split at q
      · rw [List.mem_singleton] at q
        subst q
        rw [getD_get (by omega)]
        exact List.getElem_mem _
      · cases q
theorem restT_t {L : List Stock} {nx : List (List Int)} {k : Nat} (hL : k < L.length) (hn : k < nx.length) (h : nx[k] = []) : restT L nx (k + 1) = restT L nx k ++ [L[k]] := by rw [restT, getD_get hn, if_pos h, getD_get hL]
theorem restT_f {L : List Stock} {nx : List (List Int)} {k : Nat} (hn : k < nx.length) (h : ¬ nx[k] = []) : restT L nx (k + 1) = restT L nx k := by rw [restT, getD_get hn, if_neg h, List.append_nil]
noncomputable def resRest (p : Passing) (m : Int) (s : Stock) : List Stock := restT (resPassGraph p m s).1 (resPassGraph p m s).2 (resPassGraph p m s).1.length
/-- The sizes of the skin. -/
def szs (Q : List Stock) : List Int := Q.map fun t => tot (t.cells.getD 0 [])
noncomputable def resPassResults (p : Passing) (m : Int) (s : Stock) : List Int := normR (szs (resRest p m s))
theorem c_sPassGraph (p : Passing) (m : Int) (s : Stock) (hv : p.Ok) (hs : p.StockOk s) (hm : 1 ≤ m ∧ m ≤ 3) : Gives Tryz.prog 8 [.agg (encPassing p), .agg (encStock s), .int m] (.tup [.sl ((resPassGraph p m s).1.map encStock), .sl ((resPassGraph p m s).2.map (encS Go.AI.encI)), .int (codePassGraph p m s)]) := by
  refine fn_of_run tyOk ztOk mix Tryz.func8 rfl (by decide) Tryz.ntmps8 (fun w0 h => ?_)
  repeat' (first
      | (refine j_go ?_; first
        | refine j_op0 rfl rfl rfl rfl ?_ | (refine j_kCall rfl rfl rfl rfl ?_; first | refine jc (c_l06Asked p s m hv hs hm) (LeL.refl _) rfl rfl ?_) | refine j_box rfl rfl rfl rfl rfl rfl ?_)
      | refine j_nil ?_
      | (refine r_go ?_; first | refine run_seq ?_ | refine run_region ?_ | (refine (run_ifn rfl (fun hb => ?_) (fun hb => ?_)) <;> first | (exfalso; omega) | skip) | refine run_skip ?_)
      | refine seqQ_normal ?_)
  refine j_kCall rfl rfl rfl rfl ?_
  refine jcp h (o_l06Graph p m s hv hs) (List.Perm.refl _) (LeL.refl _) rfl rfl (fun v h1 hR => ?_)
  obtain ⟨rfl, L, nx, b, rfl, h1, h2⟩ := hR
  cases b with
  | true =>
    rw [(pg_some (h1 rfl)).1, (pg_some (h1 rfl)).2]
    repeat' (first
      | (refine j_go ?_; first
        | refine j_op0 rfl rfl rfl rfl ?_)
      | refine j_nil ?_
      | (refine r_go ?_; first | refine run_seq ?_ | refine run_region ?_ | refine run_cond_f rfl ?_ | refine run_ret ?_ | refine run_skip ?_)
      | refine seqQ_normal ?_)
    exact end_le (List.Sublist.refl _) (vs := [_, _, _]) (.cons (.tmp rfl) (.cons (.tmp rfl) (.cons (.tmp rfl) .nil))) (Le.refl _) (.inl rfl)
  | false =>
    rw [(pg_none (h2 rfl)).1, (pg_none (h2 rfl)).2]
    repeat' (first
      | (refine j_go ?_; first
        | refine j_op0 rfl rfl rfl rfl ?_ | (refine j_kBsl rfl ?_; first | refine j_bs0 rfl rfl rfl rfl rfl rfl ?_))
      | refine j_nil ?_
      | (refine r_go ?_; first | refine run_seq ?_ | refine run_region ?_ | refine run_cond_t rfl ?_ | refine run_ret ?_)
      | refine seqQ_normal ?_ | refine seqQ_ret ?_)
    exact end_le (List.Sublist.refl _) (vs := [_, _, _]) (.cons (.tmp rfl) (.cons (.tmp rfl) (.cons (.tmp rfl) .nil))) (Le.tup (LeL.cons (Le.nil 0) (LeL.cons (Le.nil 0) (LeL.cons (Le.refl _) LeL.nil)))) (.inl rfl)
theorem o_l06Rest (p : Passing) (m : Int) (s : Stock) (hv : p.Ok) (hs : p.StockOk s) : Does Tryz.prog 38 [.ip (encPassing p), .ip (encStock s), .int m] []
    (fun v h' => h' = [] ∧ ∃ (Q : List Stock) (b : Bool), v = .tup [.sl (Q.map encStock), .raw (.bool b)] ∧ (b = true → ∃ L nx, grF p m s = some (L, nx) ∧ Q = restT L nx L.length) ∧ (b = false → grF p m s = none)) := by
  refine fn_of_runD tyOk ztOk mix Tryz.func38 rfl (by decide) Tryz.ntmps38 (fun w0 F => ?_)
  change Run _ _ _ _ _ F
  repeat' (first
      | (refine j_go ?_; first
        | refine j_op0 rfl rfl rfl rfl ?_)
      | refine j_nil ?_
      | (refine r_go ?_; first | refine run_seq ?_ | refine run_region ?_)
      | refine seqQ_normal ?_)
  refine j_kCall rfl rfl rfl rfl ?_
  refine jcp F (o_l06Graph p m s hv hs) (List.Perm.refl _) (LeL.refl _) rfl rfl (fun v h1 hR => ?_)
  obtain ⟨rfl, L, nx, b, rfl, h1, h2⟩ := hR
  cases b with
  | false =>
    repeat' (first
      | (refine j_go ?_; first
        | refine j_op0 rfl rfl rfl rfl ?_ | (refine j_kBsl rfl ?_; first | refine j_bs0 rfl rfl rfl rfl rfl rfl ?_))
      | refine j_nil ?_
      | (refine r_go ?_; first | refine run_seq ?_ | refine run_region ?_ | refine run_block ?_)
      | refine seqQ_normal ?_)
    refine run_loop (fun _ : Unit => [(8, .sl (L.map encStock)), (9, .sl (nx.map (encS Go.AI.encI))), (10, .raw (.bool false)), (11, .os none 0 0), (12, .int 0)]) (fun _ => F) (fun _ => True) (fun _ => 0) () ⟨rfl, rfl, rfl, rfl, rfl, trivial⟩ rfl trivial (fun _ _ => ?_)
    repeat' (first
      | (refine j_go ?_; first
        | refine j_op0 rfl rfl rfl rfl ?_ | refine j_off rfl rfl rfl ?_ | (refine j_kLen rfl ?_; first | refine j_len rfl rfl rfl rfl rfl rfl ?_) | (refine j_kGuard rfl ?_; first | (refine (j_if rfl rfl rfl (fun hb => ?_) (fun hb => ?_)) <;> first | (exfalso; omega) | skip)))
      | refine j_nil ?_
      | (refine r_go ?_; first | refine run_seq ?_ | refine run_region ?_ | refine run_cond_f rfl ?_ | refine run_ret ?_ | refine run_exit ?_)
      | refine seqQ_normal ?_ | refine seqQ_exit ?_ | refine blockQ_eq ?_ | refine loopQ_exit ?_)
    all_goals exact endD_ret (h1 := []) rfl (vs := [_, _]) (.cons (.tmp rfl) (.cons (.tmp rfl) .nil)) (Le.tup (LeL.cons (Le.nil 0) (LeL.cons (Le.refl _) LeL.nil))) ⟨rfl, [], false, rfl, fun q => absurd q (by decide), h2⟩ (.inl rfl)
  | true =>
    have hg := h1 rfl
    obtain ⟨G, hl⟩ := grF_ok hs hg
    have gl := G.le
    repeat' (first
      | (refine j_go ?_; first
        | refine j_op0 rfl rfl rfl rfl ?_ | (refine j_kBsl rfl ?_; first | refine j_bs0 rfl rfl rfl rfl rfl rfl ?_))
      | refine j_nil ?_
      | (refine r_go ?_; first | refine run_seq ?_ | refine run_region ?_ | refine run_block ?_)
      | refine seqQ_normal ?_)
    refine run_view (view_none 31 (0 * 2) rfl) ?_
    refine run_loop (fun x : Nat × Option Nat × Nat => [(8, .sl (L.map encStock)), (9, .sl (nx.map (encS Go.AI.encI))), (10, .raw (.bool true)), (11, .os x.2.1 (restT L nx x.1).length x.2.2), (12, .int (x.1 : Int))])
      (fun x => sLB x.2.1 x.2.2 (restT L nx x.1) :: F) (fun x => x.1 ≤ L.length) (fun x => L.length - x.1) (0, none, 0) ⟨rfl, rfl, rfl, rfl, rfl, trivial⟩ rfl (Nat.zero_le _) (fun ⟨k, ob, cp⟩ kl => ?_)
    dsimp only at kl ⊢
    have rl := restT_len L nx k
    by_cases hk : k < L.length
    case neg =>
      have hke : k = L.length := by omega
      subst hke
      repeat' (first
      | (refine j_go ?_; first
        | refine j_op0 rfl rfl rfl rfl ?_ | refine j_off rfl rfl rfl ?_ | (refine j_kLen rfl ?_; first | refine j_len rfl rfl rfl rfl rfl rfl ?_) | (refine j_kGuard rfl ?_; first | (refine (j_if rfl rfl rfl (fun hb => ?_) (fun hb => ?_)) <;> first | (exfalso; omega) | skip)))
      | refine j_nil ?_
      | (refine r_go ?_; first | refine run_seq ?_ | refine run_region ?_ | refine run_cond_f rfl ?_ | refine run_ret ?_ | refine run_exit ?_)
      | refine seqQ_normal ?_ | refine seqQ_exit ?_ | refine blockQ_eq ?_ | refine loopQ_exit ?_)
      refine endD_view (view_freeze (g := encStock) (z := 2) (ys := restT L nx L.length) 0 6 rfl rfl rfl (fun _ => rfl) rfl rfl) ?_
      exact endD_ret (h1 := []) rfl (vs := [_, _]) (.cons (.tmp rfl) (.cons (.tmp rfl) .nil)) (Le.refl _) ⟨rfl, _, true, rfl, fun _ => ⟨L, nx, hg, rfl⟩, fun q => absurd q (by decide)⟩ (.inl rfl)
    case pos =>
      by_cases hz : nx[k]'(by omega) = []
      case pos =>
        have hz0 : (nx[k]'(by omega)).length = 0 := by rw [hz]; rfl
        repeat' (first
      | (refine j_go ?_; first
        | refine j_op0 rfl rfl rfl rfl ?_ | (refine j_kIdx rfl ?_; first | refine j_idx rfl rfl rfl rfl rfl (by omega) rfl rfl rfl ?_) | (refine j_kLen rfl ?_; first | refine j_len rfl rfl rfl rfl rfl rfl ?_) | (refine j_kBsl rfl ?_; first | refine j_bsl rfl rfl rfl rfl rfl rfl rfl rfl rfl rfl rfl ?_) | (refine j_kGuard rfl ?_; first | (refine (j_if rfl rfl rfl (fun hb => ?_) (fun hb => ?_)) <;> first | (exfalso; omega) | skip)))
      | refine j_nil ?_
      | (refine r_go ?_; first | refine run_seq ?_ | refine run_region ?_ | refine run_cond_t rfl ?_ | (refine (run_if rfl (fun hb => ?_) (fun hb => ?_)) <;> first | (exfalso; omega) | skip) | refine run_block ?_ | refine run_skip ?_)
      | refine seqQ_normal ?_)
        all_goals try (exfalso; omega)
        refine j_append 0 (g := encStock) (ys := restT L nx k) [L[k]] rfl rfl rfl rfl rfl rfl rfl rfl rfl rfl rfl rfl (fun _ => rfl) (fun _ hy => by simp only [List.mem_singleton] at hy; subst hy; rfl) ⟨by simp only [List.length_cons, List.length_nil]; omega, by simp only [List.length_cons, List.length_nil]; omega⟩ rfl rfl (fun ob' cp' => ?_)
        rw [← restT_t hk (by omega) hz]
        repeat' (first
      | (refine j_go ?_; first
        | refine j_op0 rfl rfl rfl rfl ?_ | (refine j_kBin rfl ?_; first | refine j_in rfl rfl ⟨by omega, by omega⟩ rfl rfl ?_))
      | refine j_nil ?_
      | (refine r_go ?_; first | refine run_region ?_)
      | refine seqQ_normal ?_ | refine blockQ_normal ?_)
        exact loopQ_next (k + 1, ob', cp') (by dsimp only; omega) (by dsimp only; omega) rfl ⟨rfl, rfl, rfl, rfl, Go.AI.nx _, trivial⟩
      case neg =>
        have hz0 : (nx[k]'(by omega)).length ≠ 0 := fun q => hz (List.eq_nil_of_length_eq_zero q)
        repeat' (first
      | (refine j_go ?_; first
        | refine j_op0 rfl rfl rfl rfl ?_ | (refine j_kIdx rfl ?_; first | refine j_idx rfl rfl rfl rfl rfl (by omega) rfl rfl rfl ?_) | (refine j_kBin rfl ?_; first | refine j_in rfl rfl ⟨by omega, by omega⟩ rfl rfl ?_) | (refine j_kLen rfl ?_; first | refine j_len rfl rfl rfl rfl rfl rfl ?_) | (refine j_kGuard rfl ?_; first | (refine (j_if rfl rfl rfl (fun hb => ?_) (fun hb => ?_)) <;> first | (exfalso; omega) | skip)))
      | refine j_nil ?_
      | (refine r_go ?_; first | refine run_seq ?_ | refine run_region ?_ | refine run_cond_t rfl ?_ | (refine (run_if rfl (fun hb => ?_) (fun hb => ?_)) <;> first | (exfalso; omega) | skip) | refine run_block ?_ | refine run_skip ?_)
      | refine seqQ_normal ?_ | refine blockQ_normal ?_)
        all_goals try (exfalso; omega)
        rw [← restT_f (L := L) (by omega) hz]
        exact loopQ_next (k + 1, ob, cp) (by dsimp only; omega) (by dsimp only; omega) rfl ⟨rfl, rfl, rfl, rfl, Go.AI.nx _, trivial⟩
theorem szs_snoc {Q : List Stock} {k : Nat} (hk : k < Q.length) : normR (szs (Q.take (k + 1))) = putK (normR (szs (Q.take k))) (tot (Q[k].cells.getD 0 [])) := by
  rw [List.take_succ_eq_append_getElem hk]
  unfold szs
  rw [List.map_append, List.map_cons, List.map_nil, normR_snoc]
theorem skin_ok {p : Passing} (hv : p.Ok) {t : Stock} (ht : p.StockOk t) : ∃ h : 0 < t.cells.length, Small t.cells[0] ∧ tot t.cells[0] = tot (t.cells.getD 0 []) := by
  have h4 := hv.1.2.1
  have h1 := ht.1
  have h0 : 0 < t.cells.length := by omega
  exact ⟨h0, (ht.2.2.1 _ (List.getElem_mem h0)).1.small, by rw [getD_get h0]⟩
theorem rest_ok {p : Passing} {m : Int} {s : Stock} {L : List Stock} {nx : List (List Int)} (G : GrOk p m s L nx) : ∀ t ∈ restT L nx L.length, p.StockOk t := fun t ht => G.ok t (restT_mem _ (Nat.le_refl _) t ht)
theorem c_sPassResults (p : Passing) (m : Int) (s : Stock) (hv : p.Ok) (hs : p.StockOk s) (hm : 1 ≤ m ∧ m ≤ 3) : Gives Tryz.prog 16 [.agg (encPassing p), .agg (encStock s), .int m, .int 0] (.tup [.sl ((resPassResults p m s).map Go.AI.encI), .int (codePassGraph p m s)]) := by
  refine fn_of_run tyOk ztOk mix Tryz.func16 rfl (by decide) Tryz.ntmps16 (fun w0 h => ?_)
  have h4 := hv.1.2.1
  repeat' (first
      | (refine j_go ?_; first
        | refine j_op0 rfl rfl rfl rfl ?_ | (refine j_kBin rfl ?_; first | refine j_in rfl rfl ⟨by omega, by omega⟩ rfl rfl ?_) | (refine j_kLen rfl ?_; first | refine j_len rfl rfl rfl rfl rfl rfl ?_) | (refine j_kCall rfl rfl rfl rfl ?_; first | refine jc (c_l06Asked p s m hv hs hm) (LeL.refl _) rfl rfl ?_ | refine jc (c_l00In _ _ _) (LeL.refl _) rfl rfl ?_) | refine j_box rfl rfl rfl rfl rfl rfl ?_)
      | refine j_nil ?_
      | (refine r_go ?_; first | refine run_seq ?_ | refine run_region ?_ | (refine (run_ifn rfl (fun hb => ?_) (fun hb => ?_)) <;> first | (exfalso; omega) | skip) | refine run_skip ?_)
      | refine seqQ_normal ?_)
  all_goals try (exfalso; omega)
  refine j_kCall rfl rfl rfl rfl ?_
  refine jcp h (o_l06Rest p m s hv hs) (List.Perm.refl _) (LeL.refl _) rfl rfl (fun v h1 hR => ?_)
  obtain ⟨rfl, Q, b, rfl, h1, h2⟩ := hR
  cases b with
  | false =>
    have e : resPassResults p m s = [] := by unfold resPassResults resRest; rw [(pg_none (h2 rfl)).1]; rfl
    rw [(pg_none (h2 rfl)).2, e]
    repeat' (first
      | (refine j_go ?_; first
        | refine j_op0 rfl rfl rfl rfl ?_ | (refine j_kBsl rfl ?_; first | refine j_bs0 rfl rfl rfl rfl rfl rfl ?_))
      | refine j_nil ?_
      | (refine r_go ?_; first | refine run_seq ?_ | refine run_region ?_ | refine run_cond_t rfl ?_ | refine run_ret ?_)
      | refine seqQ_normal ?_ | refine seqQ_ret ?_)
    exact end_le (List.Sublist.refl _) (vs := [_, _]) (.cons (.tmp rfl) (.cons (.tmp rfl) .nil)) (Le.tup (LeL.cons (Le.nil 0) (LeL.cons (Le.refl _) LeL.nil))) (.inl rfl)
  | true =>
    obtain ⟨L, nx, hg, hQ⟩ := h1 rfl
    obtain ⟨G, _⟩ := grF_ok hs hg
    have gl := G.le
    have ql := restT_len L nx L.length
    have qok := rest_ok G
    have e : resPassResults p m s = normR (szs Q) := by unfold resPassResults resRest; rw [(pg_some hg).1, hQ]
    rw [← hQ] at ql qok
    rw [(pg_some hg).2, e]
    repeat' (first
      | (refine j_go ?_; first
        | refine j_op0 rfl rfl rfl rfl ?_ | (refine j_kBsl rfl ?_; first | refine j_bs0 rfl rfl rfl rfl rfl rfl ?_))
      | refine j_nil ?_
      | (refine r_go ?_; first | refine run_seq ?_ | refine run_region ?_ | refine run_cond_f rfl ?_ | refine run_block ?_ | refine run_skip ?_)
      | refine seqQ_normal ?_)
    refine run_view (view_none 2 0 rfl) ?_
    refine run_view (view_freeze (g := Go.AI.encI) (z := 1) (ys := []) 0 13 rfl rfl rfl (fun _ => rfl) rfl rfl) ?_
    refine run_loop (fun k : Nat => [(3, .int 0), (11, .sl (Q.map encStock)), (13, .sl ((normR (szs (Q.take k))).map Go.AI.encI)), (14, .int (k : Int))]) (fun _ => h) (fun k => k ≤ Q.length) (fun k => Q.length - k) 0 ⟨rfl, rfl, rfl, rfl, trivial⟩ rfl (Nat.zero_le _) (fun k kl => ?_)
    have nl := normR_len (szs (Q.take k))
    have sl : (szs (Q.take k)).length = k := by unfold szs; rw [List.length_map, List.length_take]; omega
    by_cases hk : k < Q.length
    · obtain ⟨c0, cs, ct⟩ := skin_ok hv (qok _ (List.getElem_mem hk))
      have cS := c_l06Sum _ cs
      rw [ct] at cS
      repeat' (first
      | (refine j_go ?_; first
        | refine j_op0 rfl rfl rfl rfl ?_ | (refine j_kIdx rfl ?_; first | refine j_idx rfl rfl rfl rfl rfl (by omega) rfl rfl rfl ?_) | (refine j_kBin rfl ?_; first | refine j_in rfl rfl ⟨by omega, by omega⟩ rfl rfl ?_) | (refine j_kLen rfl ?_; first | refine j_len rfl rfl rfl rfl rfl rfl ?_) | (refine j_kCall rfl rfl rfl rfl ?_; first | refine jc (cS) (LeL.refl _) rfl rfl ?_ | refine jc (c_l00PutG (normR (szs (Q.take k))) (tot (Q[k].cells.getD 0 [])) (normR_asc _) (by omega)) (LeL.refl _) rfl rfl ?_))
      | refine j_nil ?_
      | (refine r_go ?_; first | refine run_seq ?_ | refine run_region ?_ | (refine (run_if rfl (fun hb => ?_) (fun hb => ?_)) <;> first | (exfalso; omega) | skip) | refine run_block ?_ | refine run_skip ?_)
      | refine seqQ_normal ?_ | refine blockQ_normal ?_)
      exact loopQ_next (k + 1) (by omega) (by omega) rfl ⟨rfl, rfl, by rw [szs_snoc hk]; rfl, Go.AI.nx _, trivial⟩
    · have hke : k = Q.length := by omega
      subst hke
      rw [List.take_length]
      repeat' (first
      | (refine j_go ?_; first
        | refine j_op0 rfl rfl rfl rfl ?_ | (refine j_kLen rfl ?_; first | refine j_len rfl rfl rfl rfl rfl rfl ?_))
      | refine j_nil ?_
      | (refine r_go ?_; first | refine run_seq ?_ | refine run_region ?_ | (refine (run_if rfl (fun hb => ?_) (fun hb => ?_)) <;> first | (exfalso; omega) | skip) | refine run_ret ?_ | refine run_exit ?_)
      | refine seqQ_normal ?_ | refine seqQ_exit ?_ | refine blockQ_eq ?_ | refine loopQ_exit ?_)
      exact end_le (List.Sublist.refl _) (vs := [_, _]) (.cons (.tmp rfl) (.cons (.tmp rfl) .nil)) (Le.refl _) (.inl rfl)
end Go.Proofs.YtbpmmdecaonopaaGreat

/-
  Choices: IsChoice, IsMaximal of the reference and of the program. No condition.
-/
namespace Go.Proofs.YtbpmmdecaonopaaGreat
open Go.AI
set_option maxRecDepth 8000
set_option maxHeartbeats 1600000





end Go.Proofs.YtbpmmdecaonopaaGreat
