/-
  All choices, the reference: only how many, and how long each. No condition.
-/
import Derived.Test.YtkfmjjoalkoncaaGreatZC13
import Derived.Test.YtkfmjjoalkoncaaGreatZSW
import Derived.Test.YtkfmjjoalkoncaaGreatZSV
import Derived.Test.YtkfmjjoalkoncaaGreatZS5h
import Derived.Test.YtkfmjjoalkoncaaGreatZS3f
import Derived.Test.YtkfmjjoalkoncaaGreatZG2
import Derived.KernelRfl
namespace Go.Proofs.YtkfmjjoalkoncaaGreat
open Go.AI
set_option maxRecDepth 8000
set_option maxHeartbeats 1600000
theorem c_l03Before (a b : List Int) (hl : a.length = b.length) : Gives Tryz.prog 42 [.sl (a.map Go.AI.encI), .sl (b.map Go.AI.encI)] (.raw (.bool (dec (less a b)))) := by
  refine fn_of_run tyOk ztOk mix Tryz.func42 rfl (by decide) Tryz.ntmps42 (fun w0 h => ?_)
  refine run_len (t := 0) rfl (fun hl2 => ?_)
  rw [List.length_map] at hl2
  repeat' (first
      | (refine j_go ?_; first
        | refine j_op0 rfl rfl rfl rfl ?_)
      | refine j_nil ?_
      | (refine r_go ?_; first | refine run_seq ?_ | refine run_region ?_ | refine run_block ?_)
      | refine seqQ_normal ?_)
  refine run_loop (fun k : Nat => [(0, .sl (a.map Go.AI.encI)), (1, .sl (b.map Go.AI.encI)), (5, .int (k : Int))]) (fun _ => _) (fun k => k ≤ a.length ∧ (less a b ↔ less (a.drop k) (b.drop k))) (fun k => a.length - k) 0 ⟨rfl, rfl, rfl, trivial⟩ rfl ⟨Nat.zero_le _, by first | (intros; omega) | (simp; done) | rfl | trivial | exact ⟨by simp [sumF], by intros; omega⟩ | exact ⟨by omega, by simp⟩⟩ (fun k ⟨kl, kp⟩ => ?_)
  by_cases hk : k < a.length
  · have hkb : k < b.length := by omega
    have e := less_step hk hkb
    repeat' (first
      | (refine j_go ?_; first
        | refine j_op0 rfl rfl rfl rfl ?_ | (refine j_kIdx rfl ?_; first | refine j_idx rfl rfl rfl rfl rfl (by omega) rfl rfl rfl ?_) | (refine j_kBin rfl ?_; first | refine j_in rfl rfl ⟨by omega, by omega⟩ rfl rfl ?_) | (refine j_kLen rfl ?_; first | refine j_len rfl rfl rfl rfl rfl rfl ?_))
      | refine j_nil ?_
      | (refine r_go ?_; first | refine run_seq ?_ | refine run_region ?_ | (refine (run_if rfl (fun hb => ?_) (fun hb => ?_)) <;> first | (exfalso; omega) | skip) | (refine (run_ifn rfl (fun hb => ?_) (fun hb => ?_)) <;> first | (exfalso; omega) | skip) | refine run_block ?_ | refine run_ret ?_ | refine run_skip ?_ | refine run_regionD (by kernel_rfl) ?_)
      | refine seqQ_normal ?_ | refine seqQ_ret ?_ | refine blockQ_normal ?_ | refine blockQ_ret ?_ | refine loopQ_ret ?_)
    · exact end1 rfl (List.Sublist.refl _) (rbD (by rw [kp, e]; exact ⟨fun q => .inl q, fun q => q.elim id (fun q => by omega)⟩)) (.inl rfl)
    · exact loopQ_nextD (k + 1) ⟨by omega, by rw [kp, e]; exact ⟨fun q => q.elim (fun q => by omega) (fun q => q.2), fun q => .inr ⟨by omega, q⟩⟩⟩ (by omega) (by first | exact List.Sublist.refl _ | exact sub1 | exact sub2 | exact sub3) ⟨rfl, rfl, nx _, trivial⟩
  · have hke : k = a.length := by omega
    subst hke
    have e := less_end (a := a) (b := b) (k := a.length) (by omega) (by omega) (by omega)
    repeat' (first
      | (refine j_go ?_; first
        | refine j_op0 rfl rfl rfl rfl ?_ | (refine j_kLen rfl ?_; first | refine j_len rfl rfl rfl rfl rfl rfl ?_))
      | refine j_nil ?_
      | (refine r_go ?_; first | refine run_seq ?_ | refine run_region ?_ | (refine (run_if rfl (fun hb => ?_) (fun hb => ?_)) <;> first | (exfalso; omega) | skip) | refine run_ret ?_ | refine run_exit ?_)
      | refine seqQ_normal ?_ | refine seqQ_exit ?_ | refine blockQ_eq ?_ | refine loopQ_exit ?_)
    exact end1 rfl (by first | exact List.Sublist.refl _ | exact sub1 | exact sub2 | exact sub3) (rbF (by rw [kp, e]; omega)) (.inl rfl)
open Classical in
/-- The code of all choices, of a right system in a right state. -/
noncomputable def codeM (s : System) (t : State) : Int := if (Big16 s t s.parents.length ∨ Big2 s t s.parents.length) ∨ 300 < (allC s t).length then 3 else 0
theorem codeM_t {s : System} {t : State} (h : (Big16 s t s.parents.length ∨ Big2 s t s.parents.length) ∨ 300 < (allC s t).length) : codeM s t = 3 := by unfold codeM; rw [if_pos h]
theorem codeM_f {s : System} {t : State} (h : ¬ ((Big16 s t s.parents.length ∨ Big2 s t s.parents.length) ∨ 300 < (allC s t).length)) : codeM s t = 0 := by unfold codeM; rw [if_neg h]
theorem o_l03ChoicesW (s : System) (t : State) (hv : s.Ok) (ht : s.StateOk t) (h3 : s.parents.length ≤ 3) : Does Tryz.prog 20 [.ip (encSystem s), .ip (encState t)] []
    (fun v h' => h' = [] ∧ ∃ x, v = .tup [x, .int (codeM s t)]) := by
  refine fn_of_runD tyOk ztOk mix Tryz.func20 rfl (by decide) Tryz.ntmps20 (fun w0 F => ?_)
  change Run _ _ _ _ _ F
  have h6 := hv.1.2.1
  have h16 := hv.2.1
  repeat' (first
      | (refine j_go ?_; first
        | refine j_op0 rfl rfl rfl rfl ?_)
      | refine j_nil ?_
      | (refine r_go ?_; first | refine run_seq ?_ | refine run_region ?_)
      | refine seqQ_normal ?_)
  refine j_kCall rfl rfl rfl rfl ?_
  refine jcp F (o_l03PackingsW s t hv ht) (List.Perm.refl _) (LeL.refl _) rfl rfl (fun v h1 hR => ?_)
  obtain ⟨rfl, R1, R2⟩ := hR
  by_cases hB : Big16 s t s.parents.length ∨ Big2 s t s.parents.length
  · obtain ⟨x, y, rfl⟩ := R2 hB
    rw [codeM_t (.inl hB)]
    repeat' (first
      | (refine j_go ?_; first
        | refine j_op0 rfl rfl rfl rfl ?_ | (refine j_kBsl rfl ?_; first | refine j_bs0 rfl rfl rfl rfl rfl rfl ?_))
      | refine j_nil ?_
      | (refine r_go ?_; first | refine run_seq ?_ | refine run_region ?_ | (refine (run_ifn rfl (fun hb => ?_) (fun hb => ?_)) <;> first | (exfalso; omega) | skip) | refine run_ret ?_)
      | refine seqQ_normal ?_ | refine seqQ_ret ?_)
    exact endD_ret (h1 := []) rfl (.cons (.tmp rfl) (.cons (.tmp rfl) .nil)) (Le.refl _) ⟨rfl, _, rfl⟩ (.inl rfl)
  obtain ⟨P, hP, rfl⟩ := R1 hB
  have hok := cellsL_ok hv ht s.parents.length (Nat.le_refl _) (fun q => hB (.inr q))
  have hcl := cellsL_len s t s.parents.length
  have eA := allC_out s t
  have ePr : prodK (P.map List.length) P.length = ((allC s t).length : Int) := by
    have q := (prod_all h3 (fun q => hB (.inr q))).1
    rw [lensK_cells, List.length_map] at q
    rw [hP.lens, hP.1]; exact q
  have eBd := (prod_all h3 (fun q => hB (.inr q))).2
  generalize hX : cellsL s t s.parents.length = X at hok eA hcl hP
  have hrw := outX_rows s.rules.length X
  have hmo := fun k => outX_mono hok (k := k)
  have cC := c_l03Count P
  rw [ePr] at cC
  by_cases hN : 300 < (allC s t).length
  · rw [codeM_t (.inr hN)]
    repeat' (first
      | (refine j_go ?_; first
        | refine j_op0 rfl rfl rfl rfl ?_ | (refine j_kCall rfl rfl rfl rfl ?_; first | refine jc (cC) (LeL.refl _) rfl rfl ?_) | (refine j_kBsl rfl ?_; first | refine j_bs0 rfl rfl rfl rfl rfl rfl ?_))
      | refine j_nil ?_
      | (refine r_go ?_; first | refine run_seq ?_ | refine run_region ?_ | (refine (run_if rfl (fun hb => ?_) (fun hb => ?_)) <;> first | (exfalso; omega) | skip) | (refine (run_ifn rfl (fun hb => ?_) (fun hb => ?_)) <;> first | (exfalso; omega) | skip) | refine run_ret ?_ | refine run_skip ?_)
      | refine seqQ_normal ?_ | refine seqQ_ret ?_)
    exact endD_ret (h1 := []) rfl (.cons (.tmp rfl) (.cons (.tmp rfl) .nil)) (Le.refl _) ⟨rfl, _, rfl⟩ (.inl rfl)
  rw [codeM_f (fun q => q.elim hB hN)]
  have lR : (X.map Prod.fst).length = X.length := List.length_map _
  have aR : ∀ i (h : i < X.length) (h2 : i < (X.map Prod.fst).length), (X.map Prod.fst)[i] = X[i].1 := fun i h h2 => List.getElem_map _
  generalize X.map Prod.fst = R at lR aR
  have lP := hP.1
  repeat' (first
      | (refine j_go ?_; first
        | refine j_op0 rfl rfl rfl rfl ?_ | (refine j_kLen rfl ?_; first | refine j_len rfl rfl rfl rfl rfl rfl ?_) | (refine j_kCall rfl rfl rfl rfl ?_; first | refine jc (cC) (LeL.refl _) rfl rfl ?_))
      | refine j_nil ?_
      | (refine r_go ?_; first | refine run_seq ?_ | refine run_region ?_ | (refine (run_if rfl (fun hb => ?_) (fun hb => ?_)) <;> first | (exfalso; omega) | skip) | (refine (run_ifn rfl (fun hb => ?_) (fun hb => ?_)) <;> first | (exfalso; omega) | skip) | refine run_skip ?_)
      | refine seqQ_normal ?_)
  refine j_makeI (g := Go.AI.encI) (m := s.rules.length) 0 rfl rfl rfl rfl rfl rfl rfl rfl rfl (by omega) rfl rfl (fun b4 => ?_)
  refine j_view (view_freeze (g := Go.AI.encI) (z := 1) (ys := List.replicate s.rules.length 0) 0 39 (by rw [List.length_replicate]; rfl) rfl rfl (fun _ => rfl) rfl rfl) ?_
  refine j_bslM rfl rfl rfl rfl rfl rfl rfl rfl rfl rfl rfl (fun b5 => ?_)
  repeat' (first
      | (refine j_go ?_; first
        | refine j_op0 rfl rfl rfl rfl ?_)
      | refine j_nil ?_
      | (refine r_go ?_; first | refine run_seq ?_ | refine run_region ?_ | refine run_block ?_)
      | refine seqQ_normal ?_)
  have e0 : outX s.rules.length X 0 = [List.replicate s.rules.length 0] := by unfold outX; rfl
  refine run_loop (fun x : Nat × (Option Nat × Nat) × List (List Int) => [(6, .sl (R.map (encS Go.AI.encI))), (7, .sl (P.map (encS (encS Go.AI.encI)))), (9, .os x.2.1.1 x.2.2.length x.2.1.2), (10, .int (x.1 : Int))])
    (fun x => ⟨x.2.1.1, 24, x.2.1.2 * 1, (x.2.2.map (encS Go.AI.encI)).flatten⟩ :: F) (fun x => x.1 ≤ X.length ∧ x.2.2.length = (outX s.rules.length X x.1).length ∧ ∀ r ∈ x.2.2, r.length = s.rules.length) (fun x => X.length - x.1) (0, (some b5, 1), [List.replicate s.rules.length 0]) ⟨rfl, rfl, rfl, rfl, trivial⟩ rfl
    ⟨Nat.zero_le _, by dsimp only; rw [e0], fun r hr => by dsimp only at hr; rw [List.mem_singleton] at hr; rw [hr, List.length_replicate]⟩ (fun ⟨k, ⟨bo, co⟩, L⟩ ⟨kl, kL, kr⟩ => ?_)
  dsimp only at kl kL kr ⊢
  by_cases hk : k < X.length
  · have hx := hok _ (List.getElem_mem hk)
    have es := outX_succ (n := s.rules.length) hk
    have hmk := hmo k (k + 1) (by omega) (by omega)
    have hme := hmo (k + 1) X.length (by omega) (Nat.le_refl _)
    have hkR : k < R.length := by omega
    have hkP : k < P.length := by omega
    have eR := aR k hk hkR
    have hPk := hP.2 k hkP hk
    rw [es, stepC_len, ← kL] at hmk hme
    rw [← hPk.1] at hmk hme
    rw [← eA] at hme
    obtain ⟨x1, x2, x3, x4, x5, x6⟩ := hx
    rw [← eR] at x1 x2 x5 x6 hPk
    refine run_view (view_freeze (g := encS Go.AI.encI) (z := 1) (ys := L) 0 9 rfl rfl rfl (fun _ => rfl) rfl rfl) ?_
    repeat' (first
      | (refine j_go ?_; first
        | refine j_op0 rfl rfl rfl rfl ?_ | (refine j_kLen rfl ?_; first | refine j_len rfl rfl rfl rfl rfl rfl ?_) | (refine j_kBsl rfl ?_; first | refine j_bs0 rfl rfl rfl rfl rfl rfl ?_))
      | refine j_nil ?_
      | (refine r_go ?_; first | refine run_seq ?_ | refine run_region ?_ | (refine (run_if rfl (fun hb => ?_) (fun hb => ?_)) <;> first | (exfalso; omega) | skip) | refine run_block ?_ | refine run_skip ?_)
      | refine seqQ_normal ?_)
    refine run_view (view_none 24 0 rfl) ?_
    refine run_loop (fun z : Nat × (Option Nat × Nat) × List (List Int) => [(6, .sl (R.map (encS Go.AI.encI))), (7, .sl (P.map (encS (encS Go.AI.encI)))), (9, .sl (L.map (encS Go.AI.encI))), (10, .int (k : Int)), (11, .os z.2.1.1 z.2.2.length z.2.1.2), (12, .int (z.1 : Int))])
      (fun z => ⟨z.2.1.1, 24, z.2.1.2 * 1, (z.2.2.map (encS Go.AI.encI)).flatten⟩ :: F) (fun z => z.1 ≤ L.length ∧ z.2.2.length = z.1 * P[k].length ∧ ∀ r ∈ z.2.2, r.length = s.rules.length) (fun z => L.length - z.1) (0, (none, 0), []) ⟨rfl, rfl, rfl, rfl, rfl, rfl, trivial⟩ rfl
      ⟨Nat.zero_le _, by simp, fun r hr => absurd hr List.not_mem_nil⟩ (fun ⟨j, ⟨on, cn⟩, M⟩ ⟨jl, jL, jr⟩ => ?_)
    dsimp only at jl jL jr ⊢
    by_cases hj : j < L.length
    · have hrj := kr _ (List.getElem_mem hj)
      have hjm := Nat.mul_le_mul_right P[k].length (show j + 1 ≤ L.length by omega)
      rw [Nat.add_mul, Nat.one_mul] at hjm
      repeat' (first
      | (refine j_go ?_; first
        | refine j_op0 rfl rfl rfl rfl ?_ | (refine j_kLen rfl ?_; first | refine j_len rfl rfl rfl rfl rfl rfl ?_))
      | refine j_nil ?_
      | (refine r_go ?_; first | refine run_seq ?_ | refine run_region ?_ | (refine (run_if rfl (fun hb => ?_) (fun hb => ?_)) <;> first | (exfalso; omega) | skip) | refine run_block ?_ | refine run_skip ?_)
      | refine seqQ_normal ?_)
      refine run_loop (fun z : Nat × (Option Nat × Nat) × List (List Int) => [(6, .sl (R.map (encS Go.AI.encI))), (7, .sl (P.map (encS (encS Go.AI.encI)))), (9, .sl (L.map (encS Go.AI.encI))), (10, .int (k : Int)), (11, .os z.2.1.1 z.2.2.length z.2.1.2), (12, .int (j : Int)), (13, .int (z.1 : Int))])
        (fun z => ⟨z.2.1.1, 24, z.2.1.2 * 1, (z.2.2.map (encS Go.AI.encI)).flatten⟩ :: F) (fun z => z.1 ≤ P[k].length ∧ z.2.2.length = j * P[k].length + z.1 ∧ ∀ r ∈ z.2.2, r.length = s.rules.length) (fun z => P[k].length - z.1) (0, (on, cn), M) ⟨rfl, rfl, rfl, rfl, rfl, rfl, rfl, trivial⟩ rfl
        ⟨Nat.zero_le _, by dsimp only; omega, jr⟩ (fun ⟨x, ⟨on, cn⟩, M⟩ ⟨xl, xL, xr⟩ => ?_)
      dsimp only at xl xL xr ⊢
      by_cases hx : x < P[k].length
      · have hne : L[j] ≠ [] := fun q => by
          obtain ⟨i, hi⟩ := List.exists_mem_of_ne_nil _ x5
          have := (x1 i hi).2
          rw [q, List.length_nil] at hrj; omega
        have hpx := hPk.2 _ (List.getElem_mem hx)
        repeat' (first
      | (refine j_go ?_; first
        | refine j_op0 rfl rfl rfl rfl ?_ | (refine j_kIdx rfl ?_; first | refine j_idx rfl rfl rfl rfl rfl (by omega) rfl rfl rfl ?_) | (refine j_kLen rfl ?_; first | refine j_len rfl rfl rfl rfl rfl rfl ?_))
      | refine j_nil ?_
      | (refine r_go ?_; first | refine run_seq ?_ | refine run_region ?_ | (refine (run_if rfl (fun hb => ?_) (fun hb => ?_)) <;> first | (exfalso; omega) | skip) | refine run_block ?_ | refine run_skip ?_)
      | refine seqQ_normal ?_)
        refine j_kCall rfl rfl rfl rfl ?_
        refine jcp _ (o_l00Own L[j] (by omega)) (List.Perm.refl _) (LeL.refl _) rfl rfl (fun v h1 hR => ?_)
        obtain ⟨bc, cc, rfl, rfl⟩ := hR
        have hfl := flat_len (f := Go.AI.encI) (z := 1) (fun _ => rfl) L[j]
        refine j_some 0 rfl (fun q => by rw [q, List.length_nil] at hfl; have := List.length_pos_iff.2 hne; omega) (fun bq hbq => ?_)
        subst hbq
        repeat' (first
      | (refine j_go ?_; first
        | refine j_op0 rfl rfl rfl rfl ?_)
      | refine j_nil ?_
      | (refine r_go ?_; first | refine run_seq ?_ | refine run_region ?_ | refine run_block ?_)
      | refine seqQ_normal ?_)
        refine run_loop (fun r : Nat × List Int => [(6, .sl (R.map (encS Go.AI.encI))), (7, .sl (P.map (encS (encS Go.AI.encI)))), (9, .sl (L.map (encS Go.AI.encI))), (10, .int (k : Int)), (11, .os on M.length cn), (12, .int (j : Int)), (13, .int (x : Int)), (14, .os (some bq) L[j].length cc), (15, .int (r.1 : Int))])
          (fun r => ⟨some bq, 2, cc * 1, (r.2.map Go.AI.encI).flatten⟩ :: ⟨on, 24, cn * 1, (M.map (encS Go.AI.encI)).flatten⟩ :: F) (fun r => r.1 ≤ R[k].length ∧ r.2.length = s.rules.length) (fun r => R[k].length - r.1) (0, L[j]) ⟨rfl, rfl, rfl, rfl, rfl, rfl, rfl, rfl, rfl, trivial⟩ rfl
          ⟨Nat.zero_le _, hrj⟩ (fun ⟨r, own⟩ ⟨rl, ro⟩ => ?_)
        dsimp only at rl ro ⊢
        by_cases hr : r < R[k].length
        · have hi := x1 _ (List.getElem_mem hr)
          repeat' (first
      | (refine j_go ?_; first
        | refine j_op0 rfl rfl rfl rfl ?_ | (refine j_kIdx rfl ?_; first | refine j_idx rfl rfl rfl rfl rfl (by omega) rfl rfl rfl ?_) | (refine j_kLen rfl ?_; first | refine j_len rfl rfl rfl rfl rfl rfl ?_))
      | refine j_nil ?_
      | (refine j_goO ?_; first
        | refine j_op0O rfl rfl rfl rfl ?_ | (refine j_kIdxO rfl ?_; first | refine j_idxO rfl rfl rfl rfl rfl (by omega) rfl rfl rfl ?_ | refine j_midxzO rfl rfl rfl rfl rfl (by first | omega | (simp only [List.length_append, List.length_cons, List.length_nil]; omega)) rfl rfl ?_))
      | (refine r_go ?_; first | refine run_seq ?_ | refine run_region ?_ | (refine (run_if rfl (fun hb => ?_) (fun hb => ?_)) <;> first | (exfalso; omega) | skip) | refine run_block ?_ | refine run_skip ?_ | refine run_opn 21 [⟨0, true, false, 0⟩, ⟨1, true, false, 0⟩, ⟨2, true, false, 0⟩, ⟨3, true, false, 0⟩, ⟨4, true, false, 0⟩, ⟨5, true, false, 0⟩, ⟨6, true, false, 0⟩, ⟨7, true, false, 0⟩, ⟨8, true, false, 0⟩, ⟨9, true, false, 0⟩, ⟨10, true, false, 0⟩, ⟨11, true, false, 0⟩, ⟨12, true, false, 0⟩, ⟨13, true, false, 0⟩, ⟨14, true, false, 0⟩, ⟨15, true, false, 0⟩, ⟨16, true, false, 0⟩, ⟨17, true, false, 0⟩, ⟨18, true, false, 0⟩, ⟨19, false, true, 0⟩] rfl rfl (by kernel_rfl) ?_)
      | refine seqQ_normal ?_)
          refine j_storeEO 0 R[k][r].toNat (g := Go.AI.encI) (L := own) P[k][x][r] rfl rfl rfl rfl rfl rfl rfl rfl rfl rfl (fun _ => rfl) rfl (by omega) (fun _ hk => nomatch hk) ?_
          repeat' (first
      | (refine j_go ?_; first
        | refine j_op0 rfl rfl rfl rfl ?_ | (refine j_kBin rfl ?_; first | refine j_in rfl rfl ⟨by omega, by omega⟩ rfl rfl ?_))
      | refine j_nil ?_
      | refine j_nilO ?_
      | (refine r_go ?_; first | refine run_region ?_)
      | refine seqQ_normal ?_ | refine blockQ_normal ?_)
          exact loopQ_next (r + 1, own.set R[k][r].toNat P[k][x][r]) ⟨by dsimp only; omega, by dsimp only; rw [List.length_set]; exact ro⟩ (by dsimp only; omega) rfl ⟨rfl, rfl, rfl, rfl, rfl, rfl, rfl, rfl, nx _, trivial⟩
        · have hre : r = R[k].length := by omega
          subst hre
          refine run_view (view_freeze (g := Go.AI.encI) (z := 1) (ys := own) 0 14 (by rw [ro, ← hrj]; rfl) rfl rfl (fun _ => rfl) rfl rfl) ?_
          repeat' (first
      | (refine j_go ?_; first
        | refine j_op0 rfl rfl rfl rfl ?_ | (refine j_kIdx rfl ?_; first | refine j_idx rfl rfl rfl rfl rfl (by omega) rfl rfl rfl ?_) | (refine j_kLen rfl ?_; first | refine j_len rfl rfl rfl rfl rfl rfl ?_) | (refine j_kBsl rfl ?_; first | refine j_bsl rfl rfl rfl rfl rfl rfl rfl rfl rfl rfl rfl ?_))
      | refine j_nil ?_
      | (refine r_go ?_; first | refine run_seq ?_ | refine run_region ?_ | (refine (run_if rfl (fun hb => ?_) (fun hb => ?_)) <;> first | (exfalso; omega) | skip) | refine run_exit ?_)
      | refine seqQ_normal ?_ | refine seqQ_exit ?_ | refine blockQ_eq ?_ | refine loopQ_exit ?_)
          refine j_append 0 (g := encS Go.AI.encI) (ys := M) [own] rfl rfl rfl rfl rfl rfl rfl rfl rfl rfl rfl rfl (fun _ => rfl) (fun _ hy => by simp only [List.mem_singleton] at hy; subst hy; rfl) ⟨by simp only [List.length_cons, List.length_nil]; omega, by simp only [List.length_cons, List.length_nil]; omega⟩ rfl rfl (fun on' cn' => ?_)
          repeat' (first
      | (refine j_go ?_; first
        | refine j_op0 rfl rfl rfl rfl ?_ | (refine j_kBin rfl ?_; first | refine j_in rfl rfl ⟨by omega, by omega⟩ rfl rfl ?_))
      | refine j_nil ?_
      | (refine r_go ?_; first | refine run_region ?_)
      | refine seqQ_normal ?_ | refine blockQ_normal ?_)
          exact loopQ_next (x + 1, (on', cn'), M ++ [own]) ⟨by dsimp only; omega, by dsimp only; rw [List.length_append, List.length_singleton]; omega, fun q hq => (List.mem_append.1 hq).elim (xr q) (fun q => by rw [List.mem_singleton] at q; subst q; exact ro)⟩ (by dsimp only; omega) rfl ⟨rfl, rfl, rfl, rfl, rfl, rfl, nx _, trivial⟩
      · have hxe : x = P[k].length := by omega
        subst hxe
        repeat' (first
      | (refine j_go ?_; first
        | refine j_op0 rfl rfl rfl rfl ?_ | (refine j_kIdx rfl ?_; first | refine j_idx rfl rfl rfl rfl rfl (by omega) rfl rfl rfl ?_) | (refine j_kBin rfl ?_; first | refine j_in rfl rfl ⟨by omega, by omega⟩ rfl rfl ?_) | (refine j_kLen rfl ?_; first | refine j_len rfl rfl rfl rfl rfl rfl ?_))
      | refine j_nil ?_
      | (refine r_go ?_; first | refine run_seq ?_ | refine run_region ?_ | (refine (run_if rfl (fun hb => ?_) (fun hb => ?_)) <;> first | (exfalso; omega) | skip) | refine run_exit ?_)
      | refine seqQ_normal ?_ | refine seqQ_exit ?_ | refine blockQ_normal ?_ | refine blockQ_eq ?_ | refine loopQ_exit ?_)
        exact loopQ_next (j + 1, (on, cn), M) ⟨by dsimp only; omega, by dsimp only; rw [Nat.add_mul, Nat.one_mul]; exact xL, xr⟩ (by dsimp only; omega) rfl ⟨rfl, rfl, rfl, rfl, rfl, nx _, trivial⟩
    · have hje : j = L.length := by omega
      subst hje
      repeat' (first
      | (refine j_go ?_; first
        | refine j_op0 rfl rfl rfl rfl ?_ | (refine j_kBin rfl ?_; first | refine j_in rfl rfl ⟨by omega, by omega⟩ rfl rfl ?_) | (refine j_kLen rfl ?_; first | refine j_len rfl rfl rfl rfl rfl rfl ?_))
      | refine j_nil ?_
      | (refine r_go ?_; first | refine run_seq ?_ | refine run_region ?_ | (refine (run_if rfl (fun hb => ?_) (fun hb => ?_)) <;> first | (exfalso; omega) | skip) | refine run_exit ?_)
      | refine seqQ_normal ?_ | refine seqQ_exit ?_ | refine blockQ_normal ?_ | refine blockQ_eq ?_ | refine loopQ_exit ?_)
      exact loopQ_next (k + 1, (on, cn), M) ⟨by dsimp only; omega, by dsimp only; rw [es, stepC_len, ← kL, ← hPk.1]; exact jL, jr⟩ (by dsimp only; omega) rfl ⟨rfl, rfl, rfl, nx _, trivial⟩
  have hke : k = X.length := by omega
  subst hke
  rw [← eA] at kL
  have hnz : L ≠ [] := by
    have q := hmo 0 X.length (Nat.zero_le _) (Nat.le_refl _)
    rw [e0, ← eA, List.length_singleton] at q
    exact fun z => by rw [z, List.length_nil] at kL; omega
  have hfl := flat_len (f := encS Go.AI.encI) (z := 1) (fun _ => rfl) L
  refine run_some 0 rfl (fun q => by rw [q, List.length_nil] at hfl; have := List.length_pos_iff.2 hnz; omega) (fun bq hbq => ?_)
  subst hbq
  repeat' (first
      | (refine j_go ?_; first
        | refine j_op0 rfl rfl rfl rfl ?_ | (refine j_kLen rfl ?_; first | refine j_len rfl rfl rfl rfl rfl rfl ?_))
      | refine j_nil ?_
      | (refine r_go ?_; first | refine run_seq ?_ | refine run_region ?_ | (refine (run_if rfl (fun hb => ?_) (fun hb => ?_)) <;> first | (exfalso; omega) | skip) | refine run_block ?_ | refine run_exit ?_)
      | refine seqQ_normal ?_ | refine seqQ_exit ?_ | refine blockQ_eq ?_ | refine loopQ_exit ?_)
  refine run_loop (fun x : Nat × List (List Int) => [(9, .os (some bq) L.length co), (16, .int (x.1 : Int))])
    (fun x => ⟨some bq, 24, co * 1, (x.2.map (encS Go.AI.encI)).flatten⟩ :: F) (fun x => x.1 ≤ L.length ∧ 1 ≤ x.1 ∧ x.2.length = L.length ∧ ∀ r ∈ x.2, r.length = s.rules.length) (fun x => L.length - x.1) (1, L) ⟨rfl, rfl, trivial⟩ rfl
    ⟨List.length_pos_iff.2 hnz, Nat.le_refl _, rfl, kr⟩ (fun ⟨i, M⟩ ⟨il, i1, iL, ir⟩ => ?_)
  dsimp only at il i1 iL ir ⊢
  by_cases hi : i < L.length
  · repeat' (first
      | (refine j_go ?_; first
        | refine j_op0 rfl rfl rfl rfl ?_ | (refine j_kLen rfl ?_; first | refine j_op rfl rfl rfl rfl ?_))
      | refine j_nil ?_
      | (refine r_go ?_; first | refine run_seq ?_ | refine run_region ?_ | (refine (run_if rfl (fun hb => ?_) (fun hb => ?_)) <;> first | (exfalso; omega) | skip) | refine run_block ?_ | refine run_skip ?_)
      | refine seqQ_normal ?_)
    refine run_loop (fun x : Nat × List (List Int) => [(9, .os (some bq) L.length co), (16, .int (i : Int)), (17, .int (x.1 : Int))])
      (fun x => ⟨some bq, 24, co * 1, (x.2.map (encS Go.AI.encI)).flatten⟩ :: F) (fun x => x.1 ≤ i ∧ x.2.length = L.length ∧ ∀ r ∈ x.2, r.length = s.rules.length) (fun x => x.1) (i, M) ⟨rfl, rfl, rfl, trivial⟩ rfl
      ⟨Nat.le_refl _, iL, ir⟩ (fun ⟨k, M⟩ ⟨kl, kL2, kr2⟩ => ?_)
    dsimp only at kl kL2 kr2 ⊢
    by_cases hk0 : k = 0
    · subst hk0
      repeat' (first
      | (refine j_go ?_; first
        | refine j_op0 rfl rfl rfl rfl ?_ | refine j_off rfl rfl rfl ?_ | (refine j_kBin rfl ?_; first | refine j_in rfl rfl ⟨by omega, by omega⟩ rfl rfl ?_) | (refine j_kGuard rfl ?_; first | (refine (j_if rfl rfl rfl (fun hb => ?_) (fun hb => ?_)) <;> first | (exfalso; omega) | skip)))
      | refine j_nil ?_
      | (refine r_go ?_; first | refine run_seq ?_ | refine run_region ?_ | refine run_cond_f rfl ?_ | refine run_exit ?_ | refine run_regionD (by kernel_rfl) ?_)
      | refine seqQ_normal ?_ | refine seqQ_exit ?_ | refine blockQ_normal ?_ | refine blockQ_eq ?_ | refine loopQ_exit ?_)
      exact loopQ_next (i + 1, M) ⟨by dsimp only; omega, by dsimp only; omega, kL2, kr2⟩ (by dsimp only; omega) rfl ⟨rfl, nx _, trivial⟩
    · have hkM : k < M.length := by omega
      have hk2 : ((k : Int) - 1).toNat < M.length := by omega
      have r1 := kr2 _ (List.getElem_mem hkM)
      have r2 := kr2 _ (List.getElem_mem hk2)
      repeat' (first
      | (refine j_go ?_; first
        | refine j_op0 rfl rfl rfl rfl ?_ | (refine j_kIdx rfl ?_; first | refine j_midx rfl rfl rfl rfl rfl (by first | omega | (simp only [List.length_append, List.length_cons, List.length_nil]; omega)) rfl rfl ?_) | (refine j_kGuard rfl ?_; first | (refine (j_if rfl rfl rfl (fun hb => ?_) (fun hb => ?_)) <;> first | (exfalso; omega) | skip)))
      | (refine r_go ?_; first | refine run_seq ?_ | refine run_regionD (by kernel_rfl) ?_))
      refine j_mloadE 0 k (g := encS Go.AI.encI) (L := M) (z := 1) rfl rfl rfl rfl (fun _ => rfl) rfl hkM (fun _ => rfl) rfl rfl ?_
      repeat' (first
      | (refine j_go ?_; first
        | refine j_op0 rfl rfl rfl rfl ?_ | (refine j_kIdx rfl ?_; first | refine j_midxz rfl rfl rfl rfl rfl (by first | omega | (simp only [List.length_append, List.length_cons, List.length_nil]; omega)) rfl rfl ?_) | (refine j_kBin rfl ?_; first | refine j_in rfl rfl ⟨by omega, by omega⟩ rfl rfl ?_)))
      refine j_mloadE 0 ((k : Int) - 1).toNat (g := encS Go.AI.encI) (L := M) (z := 1) rfl rfl rfl rfl (fun _ => rfl) rfl hk2 (fun _ => rfl) rfl rfl ?_
      repeat' (first
      | (refine j_go ?_; first
        | refine j_op0 rfl rfl rfl rfl ?_ | (refine j_kIdx rfl ?_; first | refine j_midx rfl rfl rfl rfl rfl (by first | omega | (simp only [List.length_append, List.length_cons, List.length_nil]; omega)) rfl rfl ?_) | (refine j_kBin rfl ?_; first | refine j_in rfl rfl ⟨by omega, by omega⟩ rfl rfl ?_) | (refine j_kCall rfl rfl rfl rfl ?_; first | refine jc (c_l03Before M[k] M[((k : Int) - 1).toNat] (by omega)) (LeL.refl _) rfl rfl ?_))
      | refine j_nil ?_
      | (refine r_go ?_; first | refine run_seq ?_ | refine run_region ?_ | (refine (run_if rfl (fun hb => ?_) (fun hb => ?_)) <;> first | (exfalso; omega) | skip) | refine run_block ?_ | refine run_exit ?_ | refine run_skip ?_)
      | refine seqQ_normal ?_ | refine seqQ_exit ?_ | refine blockQ_normal ?_ | refine blockQ_eq ?_ | refine loopQ_exit ?_)
      · refine j_mloadE 0 k (g := encS Go.AI.encI) (L := M) (z := 1) rfl rfl rfl rfl (fun _ => rfl) rfl hkM (fun _ => rfl) rfl rfl ?_
        repeat' (first
      | (refine j_go ?_; first
        | refine j_op0 rfl rfl rfl rfl ?_ | (refine j_kIdx rfl ?_; first | refine j_midxz rfl rfl rfl rfl rfl (by first | omega | (simp only [List.length_append, List.length_cons, List.length_nil]; omega)) rfl rfl ?_) | (refine j_kBin rfl ?_; first | refine j_in rfl rfl ⟨by omega, by omega⟩ rfl rfl ?_))
      | refine j_nil ?_
      | (refine r_go ?_; first | refine run_seq ?_ | refine run_region ?_)
      | refine seqQ_normal ?_)
        refine j_mloadE 0 ((k : Int) - 1).toNat (g := encS Go.AI.encI) (L := M) (z := 1) rfl rfl rfl rfl (fun _ => rfl) rfl hk2 (fun _ => rfl) rfl rfl ?_
        repeat' (first
      | (refine j_go ?_; first
        | (refine j_kIdx rfl ?_; first | refine j_midx rfl rfl rfl rfl rfl (by first | omega | (simp only [List.length_append, List.length_cons, List.length_nil]; omega)) rfl rfl ?_)))
        refine j_storeE 0 k (g := encS Go.AI.encI) (L := M) M[((k : Int) - 1).toNat] rfl rfl rfl rfl rfl rfl rfl rfl rfl (fun _ => rfl) rfl hkM ?_
        repeat' (first
      | (refine j_go ?_; first
        | refine j_op0 rfl rfl rfl rfl ?_ | (refine j_kIdx rfl ?_; first | refine j_midxz rfl rfl rfl rfl rfl (by first | omega | (simp only [List.length_append, List.length_cons, List.length_nil]; omega)) rfl rfl ?_) | (refine j_kBin rfl ?_; first | refine j_in rfl rfl ⟨by omega, by omega⟩ rfl rfl ?_))
      | refine j_nil ?_
      | (refine r_go ?_; first | refine run_region ?_)
      | refine seqQ_normal ?_)
        refine j_storeE 0 ((k : Int) - 1).toNat (g := encS Go.AI.encI) (L := M.set k M[((k : Int) - 1).toNat]) M[k] rfl rfl rfl rfl rfl rfl rfl rfl rfl (fun _ => rfl) rfl (by rw [List.length_set]; exact hk2) ?_
        repeat' (first
      | (refine j_go ?_; first
        | refine j_op0 rfl rfl rfl rfl ?_ | (refine j_kBin rfl ?_; first | refine j_in rfl rfl ⟨by omega, by omega⟩ rfl rfl ?_))
      | refine j_nil ?_
      | (refine r_go ?_; first | refine run_region ?_)
      | refine seqQ_normal ?_ | refine blockQ_normal ?_)
        exact loopQ_next (k - 1, (M.set k M[((k : Int) - 1).toNat]).set ((k : Int) - 1).toNat M[k]) ⟨by dsimp only; omega, by dsimp only; rw [List.length_set, List.length_set]; exact kL2, fun r hr => by
          rcases List.mem_or_eq_of_mem_set hr with q | q
          · rcases List.mem_or_eq_of_mem_set q with q | q
            · exact kr2 r q
            · rw [q]; exact r2
          · rw [q]; exact r1⟩ (by dsimp only; omega) rfl ⟨rfl, rfl, si (by dsimp only; omega), trivial⟩
      · exact loopQ_next (i + 1, M) ⟨by dsimp only; omega, by dsimp only; omega, kL2, kr2⟩ (by dsimp only; omega) rfl ⟨rfl, nx _, trivial⟩
  · have hie : i = L.length := by omega
    subst hie
    repeat' (first
      | (refine j_go ?_; first
        | refine j_op0 rfl rfl rfl rfl ?_ | (refine j_kLen rfl ?_; first | refine j_op rfl rfl rfl rfl ?_))
      | refine j_nil ?_
      | (refine r_go ?_; first | refine run_seq ?_ | refine run_region ?_ | (refine (run_if rfl (fun hb => ?_) (fun hb => ?_)) <;> first | (exfalso; omega) | skip) | refine run_ret ?_ | refine run_exit ?_)
      | refine seqQ_normal ?_ | refine seqQ_exit ?_ | refine blockQ_eq ?_ | refine loopQ_exit ?_)
    refine endD_view (view_sub (h0 := F) (List.Sublist.cons _ (List.Sublist.refl _))) ?_
    exact endD_ret (h1 := []) rfl (.cons (.tmp rfl) (.cons (.tmp rfl) .nil)) (Le.refl _) ⟨rfl, _, rfl⟩ (.inl rfl)
theorem o_sMaxW (s : System) (t : State) (hv : s.Ok) (ht : s.StateOk t) (h3 : s.parents.length ≤ 3) : Does Tryz.prog 7 [.agg (encSystem s), .agg (encState t)] []
    (fun v h' => h' = [] ∧ ∃ x, v = .tup [x, .int (codeM s t)]) := by
  refine fn_of_runD tyOk ztOk mix Tryz.func7 rfl (by decide) Tryz.ntmps7 (fun w0 F => ?_)
  change Run _ _ _ _ _ F
  have cB := c_l03Both s t
  rw [dec_t (show s.Ok ∧ s.StateOk t from ⟨hv, ht⟩)] at cB
  repeat' (first
      | (refine j_go ?_; first
        | refine j_op0 rfl rfl rfl rfl ?_ | (refine j_kCall rfl rfl rfl rfl ?_; first | refine jc (cB) (LeL.refl _) rfl rfl ?_) | refine j_box rfl rfl rfl rfl rfl rfl ?_)
      | refine j_nil ?_
      | (refine r_go ?_; first | refine run_seq ?_ | refine run_region ?_ | refine run_cond_f rfl ?_ | refine run_skip ?_)
      | refine seqQ_normal ?_)
  refine j_kCall rfl rfl rfl rfl ?_
  refine jcp F (o_l03ChoicesW s t hv ht h3) (List.Perm.refl _) (LeL.refl _) rfl rfl (fun v h1 hR => ?_)
  obtain ⟨rfl, x, rfl⟩ := hR
  repeat' (first
      | (refine j_go ?_; first
        | refine j_op0 rfl rfl rfl rfl ?_)
      | refine j_nil ?_
      | (refine r_go ?_; first | refine run_ret ?_)
      | refine seqQ_normal ?_)
  exact endD_ret (h1 := []) rfl (.cons (.tmp rfl) (.cons (.tmp rfl) .nil)) (Le.refl _) ⟨rfl, _, rfl⟩ (.inl rfl)
end Go.Proofs.YtkfmjjoalkoncaaGreat

/-
  Choices: IsMaximal of the reference and of the program. No condition.
-/
namespace Go.Proofs.YtkfmjjoalkoncaaGreat
open Go.AI
set_option maxRecDepth 8000
set_option maxHeartbeats 1600000


def fitsR (s : System) (R : List (List Int)) (x : Int) : Prop := Within (s.rules.getD x.toNat default).need (R.getD (s.rules.getD x.toNat default).cell.toNat [])

theorem c_isMax1 (s : System) (R : List (List Int)) (k : Nat) (hk : k < s.rules.length) (h16 : s.rules.length ≤ 16) (hcc : 0 ≤ s.rules[k].cell) (hcl : s.rules[k].cell.toNat < R.length) (hn : s.rules[k].need.length ≤ R[s.rules[k].cell.toNat].length ∧ s.rules[k].need.length ≤ 1000000) : Gives Tryz.prog 28 [.int (k : Int), .ip (encSystem s), .ip [.sl (R.map (encS Go.AI.encI))]] (.raw (.bool (dec (fitsR s R (k : Int))))) := by
  refine fn_of_run tyOk ztOk mix Tryz.func28 rfl (by decide) Tryz.ntmps28 (fun w0 h => ?_)
  repeat' (first
      | (refine j_go ?_; first
        | refine j_op0 rfl rfl rfl rfl ?_ | (refine j_kIdx rfl ?_; first | refine j_idx rfl rfl rfl rfl rfl (by omega) rfl rfl rfl ?_ | refine j_idxz rfl rfl rfl rfl rfl ⟨by omega, by omega⟩ rfl rfl rfl ?_) | (refine j_kCall rfl rfl rfl rfl ?_; first | refine jc (c_isWithin _ _ hn.1 hn.2) (LeL.refl _) rfl rfl ?_))
      | refine j_nil ?_
      | (refine r_go ?_; first | refine run_seq ?_ | refine run_region ?_ | refine run_ret ?_ | refine run_regionD (by kernel_rfl) ?_)
      | refine seqQ_normal ?_)
  exact end1 rfl (List.Sublist.refl _) (rbD (by unfold fitsR; rw [show ((k : Int)).toNat = k by omega, getD_get hk, getD_get hcl])) (.inl rfl)

theorem c_iIsMaximal (s : System) (t : State) (cs : List Int) : Gives Tryz.prog 10 [.agg (encSystem s), .agg (encState t), .sl (cs.map Go.AI.encI)] (.tup [.raw (.bool (dec ((s.WP t ∧ Cnts s cs) ∧ Most s t cs))), .int (cd2 (s.WP t) (Cnts s cs))]) := by
  refine fn_of_run tyOk ztOk mix Tryz.func10 rfl (by decide) Tryz.ntmps10 (fun w0 h => ?_)
  repeat' (first
      | (refine j_go ?_; first
        | refine j_op0 rfl rfl rfl rfl ?_ | (refine j_kCall rfl rfl rfl rfl ?_; first | refine jc (c_countsCode _ _ _) (LeL.refl _) rfl rfl ?_) | refine j_box rfl rfl rfl rfl rfl rfl ?_)
      | refine j_nil ?_
      | (refine r_go ?_; first | refine run_seq ?_ | refine run_region ?_ | (refine (run_ifn rfl (fun hb => ?_) (fun hb => ?_)) <;> first | (exfalso; omega) | skip) | refine run_ret ?_ | refine run_skip ?_)
      | refine seqQ_normal ?_ | refine seqQ_ret ?_)
  · exact end2 rfl rfl (List.Sublist.refl _) (by rw [dec_f (fun q => hb (cd2_z.2 q.1))]; rfl) (.inl rfl)
  have hz := hb
  have ⟨hv, hc⟩ := cd2_z.1 hb
  have e0 : dec ((s.WP t ∧ Cnts s cs) ∧ Most s t cs) = dec (Most s t cs) := dec_congr ⟨fun q => q.2, fun q => ⟨⟨hv, hc⟩, q⟩⟩
  rw [hz, e0]
  have ct := c_left s t cs hv.1 hv.2 hc
  have cl : ∀ x ∈ idxL s t s.rules.length, Gives Tryz.prog 28 [.int x, .ip (encSystem s), .ip [.sl ((restK s t cs s.rules.length).map (encS Go.AI.encI))]] (.raw (.bool (dec (fitsR s (restK s t cs s.rules.length) x)))) := fun x hx => by
    obtain ⟨k, rfl, _, hk, _⟩ := idxL_mem.1 hx
    obtain ⟨hcl, hn⟩ := rest_at hv.1 hv.2 hc hk
    exact c_isMax1 s _ k hk hv.1.2.1 (hv.1.2.2 k hk).1.1.1 hcl hn
  by_cases hall : AllApp s t cs
  · rw [restI_yes hall] at ct
    repeat' (first
      | (refine j_go ?_; first
        | refine j_op0 rfl rfl rfl rfl ?_ | refine j_off rfl rfl rfl ?_ | (refine j_kCall rfl rfl rfl rfl ?_; first | refine jc (ct) (LeL.refl _) rfl rfl ?_) | (refine j_kStore rfl ?_; first | refine j_store 0 rfl rfl rfl rfl rfl rfl rfl rfl rfl rfl rfl ?_) | (refine j_kGuard rfl ?_; first | (refine (j_if rfl rfl rfl (fun hb => ?_) (fun hb => ?_)) <;> first | (exfalso; omega) | skip)) | refine j_alloc rfl rfl rfl rfl rfl (fun _ => ?_))
      | refine j_nil ?_
      | (refine r_go ?_; first | refine run_seq ?_ | refine run_region ?_ | refine run_ret ?_)
      | refine seqQ_normal ?_)
    · have hch : Ch s t cs := by assumption
      refine j_view (view_freezeP 0 9 rfl rfl) ?_
      repeat' (first
      | (refine j_go ?_; first
        | refine j_op0 rfl rfl rfl rfl ?_ | (refine j_kCall rfl rfl rfl rfl ?_; first | refine jc (c_applicable _ _ hv.1 hv.2) (LeL.refl _) rfl rfl ?_ | refine jc (c_cfI _ _ (fitsR s (restK s t cs s.rules.length)) _ cl) (LeL.refl _) rfl rfl ?_))
      | refine j_nil ?_
      | (refine r_go ?_; first | refine run_ret ?_)
      | refine seqQ_normal ?_)
      exact end2 rfl rfl (List.Sublist.refl _) (by
        have e1 : (dec (Most s t cs)) = !dec (∃ x ∈ idxL s t s.rules.length, fitsR s (restK s t cs s.rules.length) x) := by
          have key : Most s t cs ↔ ¬ ∃ x ∈ idxL s t s.rules.length, fitsR s (restK s t cs s.rules.length) x := by
            constructor
            · rintro ⟨_, q⟩ ⟨x, hx, hw⟩
              obtain ⟨k, rfl, _, hk, ha⟩ := idxL_mem.1 hx
              unfold fitsR at hw
              rw [show ((k : Int)).toNat = k by omega, getD_get hk] at hw
              exact q k hk ha hw
            · intro q
              refine ⟨hch, fun k hk ha hw => q ⟨(k : Int), idxL_mem.2 ⟨k, rfl, hk, hk, ha⟩, ?_⟩⟩
              unfold fitsR
              rw [show ((k : Int)).toNat = k by omega, getD_get hk]
              exact hw
          by_cases hx : ∃ x ∈ idxL s t s.rules.length, fitsR s (restK s t cs s.rules.length) x
          · rw [dec_t hx, dec_f (fun q => (key.1 q) hx)]; rfl
          · rw [dec_f hx, dec_t (key.2 hx)]; rfl
        rw [e1]; rfl) (.inl rfl)
    · exact end2 rfl rfl sub1 (by rw [dec_f (fun q : Most s t cs => absurd q.1 (by assumption))]; rfl) (.inl rfl)
  · have hch : ¬ Ch s t cs := fun q => hall q.1
    rw [restI_no hall] at ct
    repeat' (first
      | (refine j_go ?_; first
        | refine j_op0 rfl rfl rfl rfl ?_ | refine j_off rfl rfl rfl ?_ | (refine j_kCall rfl rfl rfl rfl ?_; first | refine jc (ct) (LeL.refl _) rfl rfl ?_) | (refine j_kStore rfl ?_; first | refine j_store 0 rfl rfl rfl rfl rfl rfl rfl rfl rfl rfl rfl ?_) | (refine j_kGuard rfl ?_; first | (refine (j_if rfl rfl rfl (fun hb => ?_) (fun hb => ?_)) <;> first | (exfalso; omega) | skip)) | refine j_alloc rfl rfl rfl rfl rfl (fun _ => ?_))
      | refine j_nil ?_
      | (refine r_go ?_; first | refine run_seq ?_ | refine run_region ?_ | refine run_ret ?_)
      | refine seqQ_normal ?_)
    · exact absurd (by assumption) hch
    · exact end2 rfl rfl sub1 (by rw [dec_f (fun q : Most s t cs => hch q.1)]; rfl) (.inl rfl)

end Go.Proofs.YtkfmjjoalkoncaaGreat

/-
  Bytes read as data, and the program's own laws of layout. No condition.
-/
namespace Go.Proofs.YtkfmjjoalkoncaaGreat
open Go.AI Go.RowKit
theorem rd_u8 {H : Type} {enc : TypeId × Value → H} {P : Program} {W : World} {t : TypeId} (ht : P.underlying t = some (.int .u8)) : Rd enc P W t encY := fun fuel cs x h => by
  obtain ⟨n, rfl, _, hw⟩ := DataW.trod_int ht h
  have := hw
  simp [Lit.wf, IntKind.min, IntKind.max, IntKind.signed, IntKind.bits] at this
  have e : n = ((UInt8.ofNat n.toNat).toNat : Int) := by
    rw [UInt8.toNat_ofNat']
    omega
  refine ⟨UInt8.ofNat n.toNat, RelL.cons ?_ RelL.nil⟩
  have r : Rel (Im W []) W (.u8 (UInt8.ofNat n.toNat)) (.int .u8 ((UInt8.ofNat n.toNat).toNat : Int)) := .u8 _
  rw [← e] at r
  exact r
theorem own : ownKnob Tryz.prog.godebug = none := by kernel_rfl
theorem laidOut : laidOutB Tryz.prog = true := by kernel_rfl
end Go.Proofs.YtkfmjjoalkoncaaGreat
