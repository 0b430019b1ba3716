/-
  Passing systems read from texts: ReadPassing of the reference. No condition but that the text is not longer than a machine holds.
-/
import Derived.Test.YtmcljepicadjfaaGreatDoorZRt
import Derived.Test.YtmcljepicadjfaaGreatDoorZJN
import Derived.Test.YtmcljepicadjfaaGreatDoorZRs
import Derived.Test.YtmcljepicadjfaaGreatDoorZPSA
import Derived.Test.YtmcljepicadjfaaGreatDoorZT
import Derived.Handed
import Derived.LaidLaws
import Derived.Lib.LaidU8
import Derived.Shelf.Vars
namespace Go.Proofs.YtmcljepicadjfaaGreatDoor
open Go.AI Go.RowKit
set_option maxRecDepth 8000
set_option maxHeartbeats 6400000
theorem memBq {k : Nat × Blk} {i : Nat} {b : Blk} (h : k ∈ [(i, b)]) : k.2 = b := by
  rw [List.mem_singleton] at h; rw [h]
theorem drop_of (l : List UInt8) (k : Nat) : (l.take (l.length : Int).toNat).drop k = l.drop k := by rw [Int.toNat_natCast, List.take_length]
abbrev bB6 (b : Option Nat) (cap : Nat) (l : List Bool) : Blk := ⟨b, 4, cap * 1, (l.map encB).flatten⟩
abbrev rB6 (b : Option Nat) (cap : Nat) (l : List PassRule) : Blk := ⟨b, 75, cap * 3, (l.map encPassRule).flatten⟩
theorem c_sReadPassing (t : List UInt8) (ht : t.length ≤ 1048576) : Gives Tryz.prog 16 [.str t] (.tup [.agg (encPassing (resReadPassing t)), .int (codeReadPassing t)]) := by
  refine fn_of_run tyOk ztOk mix Tryz.func16 rfl (by decide) Tryz.ntmps16 (fun w0 h => ?_)
  have fin : ∀ (c : Int) (b : Nat) (e : Env) (h1 : Heap) (T r : Nat), lk e 2 = some (.op (some b) 0) → lk e 3 = some (.int c) → h1 = ⟨some b, T, r, [.int 0, .os none 0 0, .os none 0 0, .os none 0 0]⟩ :: h → endQ ty Tryz.f16.results (.tup [.agg (encPassing ⟨0, [], [], []⟩), .int c]) h .ret e h1 := fun c b e h1 T r q1 q2 q3 => by
    subst q3
    exact end_view (view_freezeP 0 2 q1 rfl) (end_le (List.Sublist.refl _) (vs := [_, _]) (.cons (.cellI rfl rfl) (.cons (.tmp (by rw [lk_cons_ne _ _ (by decide)]; exact q2)) .nil)) (Le.tup (LeL.cons (Le.agg (LeL.cons (Le.refl _) (LeL.cons (Le.nil 0) (LeL.cons (Le.nil 0) (LeL.cons (Le.nil 0) LeL.nil))))) (LeL.cons (Le.refl _) LeL.nil))) (.inl rfl))
  by_cases hb4 : 4000 < t.length
  case pos =>
    rw [(rp_big hb4).1, (rp_big hb4).2]
    repeat' (first
      | (refine j_go ?_; first
        | refine j_op0 rfl rfl rfl rfl ?_ | (refine j_kLen rfl ?_; first | refine j_op rfl rfl rfl rfl ?_) | (refine j_kStore rfl ?_; first | refine j_storeN 0 rfl rfl rfl rfl rfl rfl rfl rfl rfl rfl rfl ?_) | refine j_build rfl rfl rfl rfl rfl rfl rfl ?_ | refine j_alloc rfl rfl rfl rfl rfl (fun _ => ?_))
      | refine j_nil ?_
      | (refine r_go ?_; first | refine run_seq ?_ | refine run_region ?_ | (refine (run_if rfl (fun hb => ?_) (fun hb => ?_)) <;> first | (exfalso; omega) | skip) | refine run_ret ?_)
      | refine seqQ_normal ?_ | refine seqQ_ret ?_)
    all_goals exact fin 2 _ _ _ _ _ rfl rfl rfl
  have no : ¬ IsPaT t → ∀ e h1, endQ ty Tryz.f16.results (.tup [.agg (encPassing ⟨0, [], [], []⟩), .int 5]) h .ret e h1 → endQ ty Tryz.f16.results (.tup [.agg (encPassing (resReadPassing t)), .int (codeReadPassing t)]) h .ret e h1 := fun hn e h1 q => by
    rw [(rp_no hb4 hn).1, (rp_no hb4 hn).2]; exact q
  have cL := c_l06Lines t ht
  have ln := lnW_len t
  have lw := lnW_mem t
  by_cases h3 : 3 ≤ (lnW t).length
  case neg =>
    repeat' (first
      | (refine j_go ?_; first
        | refine j_op0 rfl rfl rfl rfl ?_ | refine j_off rfl rfl rfl ?_ | (refine j_kLen rfl ?_; first | refine j_len rfl rfl rfl rfl rfl rfl ?_ | refine j_op rfl rfl rfl rfl ?_) | (refine j_kCall rfl rfl rfl rfl ?_; first | refine jc (cL) (LeL.refl _) rfl rfl ?_) | (refine j_kStore rfl ?_; first | refine j_storeN 0 rfl rfl rfl rfl rfl rfl rfl rfl rfl rfl rfl ?_) | (refine j_kGuard rfl ?_; first | (refine (j_if rfl rfl rfl (fun hb => ?_) (fun hb => ?_)) <;> first | (exfalso; omega) | skip) | (refine (j_ifn rfl rfl rfl (fun hb => ?_) (fun hb => ?_)) <;> first | (exfalso; omega) | skip)) | refine j_build rfl rfl rfl rfl rfl rfl rfl ?_ | refine j_alloc rfl rfl rfl rfl rfl (fun _ => ?_))
      | refine j_nil ?_
      | (refine r_go ?_; first | refine run_seq ?_ | refine run_region ?_ | refine run_cond_t rfl ?_ | (refine (run_if rfl (fun hb => ?_) (fun hb => ?_)) <;> first | (exfalso; omega) | skip) | refine run_ret ?_ | refine run_skip ?_)
      | refine seqQ_normal ?_ | refine seqQ_ret ?_)
    all_goals first
      | (refine no (fun q => absurd (isPaT_ln q).1 (by assumption)) _ _ ?_; exact fin 5 _ _ _ _ _ rfl rfl rfl)
      | (refine no (fun q => h3 (isPaT_ln q).2.1) _ _ ?_; exact fin 5 _ _ _ _ _ rfl rfl rfl)
      | (exfalso; omega)
  obtain ⟨l0, l1, l2, ls, el⟩ := three h3
  have W : IsPaT t → ∃ p : Passing, p.Ok ∧ passT p = t ∧ l0 = line0 p ∧ l1 = line1 p ∧ l2 = line2 p ∧ ls = p.rules.map lineR := fun ⟨p, hv, e⟩ => by
    rw [← e, (pass_ln hv).1] at el
    simp only [List.cons.injEq] at el
    exact ⟨p, hv, e, el.1.symm, el.2.1.symm, el.2.2.1.symm, el.2.2.2.symm⟩
  rw [el] at cL ln lw h3
  have w0l := (lw l0 (by simp)).1
  have w1l := (lw l1 (by simp)).1
  have w2l := (lw l2 (by simp)).1
  have lc : (l0 :: l1 :: l2 :: ls).length = ls.length + 3 := rfl
  have lsl : ls.length ≤ 4000 := by simp only [List.length_cons] at ln; omega
  have nol : ¬ (l0.length = 9 ∧ 7 ≤ l1.length ∧ 6 ≤ l2.length) → ¬ IsPaT t := fun hn q => by
    obtain ⟨p, hv, _, e0, e1, e2, _⟩ := W q
    exact hn (by rw [e0, e1, e2]; exact lines_len hv)
  have g0 : ((l0 :: l1 :: l2 :: ls)[Int.toNat 0]'(Nat.zero_lt_succ _)).length = l0.length := rfl
  have g1 : ((l0 :: l1 :: l2 :: ls)[Int.toNat 1]'(Nat.succ_lt_succ (Nat.zero_lt_succ _))).length = l1.length := rfl
  have g2 : ((l0 :: l1 :: l2 :: ls)[Int.toNat 2]'(Nat.succ_lt_succ (Nat.succ_lt_succ (Nat.zero_lt_succ _)))).length = l2.length := rfl
  by_cases hlen : l0.length = 9 ∧ 7 ≤ l1.length ∧ 6 ≤ l2.length
  case neg =>
    repeat' (first
      | (refine j_go ?_; first
        | refine j_op0 rfl rfl rfl rfl ?_ | refine j_off rfl rfl rfl ?_ | (refine j_kIdx rfl ?_; first | refine j_idxz rfl rfl rfl rfl rfl ⟨by omega, by omega⟩ rfl rfl rfl ?_) | (refine j_kLen rfl ?_; first | refine j_len rfl rfl rfl rfl rfl rfl ?_ | refine j_op rfl rfl rfl rfl ?_) | (refine j_kCall rfl rfl rfl rfl ?_; first | refine jc (cL) (LeL.refl _) rfl rfl ?_) | (refine j_kStore rfl ?_; first | refine j_storeN 0 rfl rfl rfl rfl rfl rfl rfl rfl rfl rfl rfl ?_) | (refine j_kGuard rfl ?_; first | (refine (j_if rfl rfl rfl (fun hb => ?_) (fun hb => ?_)) <;> first | (exfalso; omega) | skip) | (refine (j_ifn rfl rfl rfl (fun hb => ?_) (fun hb => ?_)) <;> first | (exfalso; omega) | skip)) | refine j_build rfl rfl rfl rfl rfl rfl rfl ?_ | refine j_alloc rfl rfl rfl rfl rfl (fun _ => ?_))
      | refine j_nil ?_
      | (refine r_go ?_; first | refine run_seq ?_ | refine run_region ?_ | refine run_cond_t rfl ?_ | (refine (run_if rfl (fun hb => ?_) (fun hb => ?_)) <;> first | (exfalso; omega) | skip) | refine run_ret ?_ | refine run_skip ?_)
      | refine seqQ_normal ?_ | refine seqQ_ret ?_)
    all_goals first
      | (exfalso; simp only [List.length_cons] at *; omega)
      | (refine no (nol hlen) _ _ ?_; exact fin 5 _ _ _ _ _ rfl rfl rfl)
      | (refine no (fun q => absurd (isPaT_ln q).1 (by assumption)) _ _ ?_; exact fin 5 _ _ _ _ _ rfl rfl rfl)
  have cD : Gives Tryz.prog 53 [.str ((l0.take (l0.length : Int).toNat).drop (Int.toNat 8))] (.int (digS (l0.drop 8))) := by rw [drop_of]; exact c_l06Digit _ (by simp only [List.length_drop]; omega)
  have cP : Gives Tryz.prog 54 [.str ((l1.take (l1.length : Int).toNat).drop (Int.toNat 6))] (.sl ((parS (l1.drop 6)).map Go.AI.encI)) := by rw [drop_of]; exact c_l06Parents _ (by simp only [List.length_drop]; omega)
  have dI := digS_in (l0.drop 8)
  generalize hK : digS (l0.drop 8) = K at cD dI
  generalize hP : parS (l1.drop 6) = P at cP
  repeat' (first
      | (refine j_go ?_; first
        | refine j_op0 rfl rfl rfl rfl ?_ | refine j_off rfl rfl rfl ?_ | (refine j_kIdx rfl ?_; first | refine j_idxz rfl rfl rfl rfl rfl ⟨by omega, by omega⟩ rfl rfl rfl ?_) | (refine j_kLen rfl ?_; first | refine j_len rfl rfl rfl rfl rfl rfl ?_ | refine j_op rfl rfl rfl rfl ?_) | (refine j_kCall rfl rfl rfl rfl ?_; first | refine jc (cL) (LeL.refl _) rfl rfl ?_) | (refine j_kStore rfl ?_; first | refine j_storeN 0 rfl rfl rfl rfl rfl rfl rfl rfl rfl rfl rfl ?_) | (refine j_kGuard rfl ?_; first | (refine (j_if rfl rfl rfl (fun hb => ?_) (fun hb => ?_)) <;> first | (exfalso; omega) | skip) | (refine (j_ifn rfl rfl rfl (fun hb => ?_) (fun hb => ?_)) <;> first | (exfalso; omega) | skip)) | refine j_build rfl rfl rfl rfl rfl rfl rfl ?_ | refine j_alloc rfl rfl rfl rfl rfl (fun _ => ?_))
      | refine j_nil ?_
      | (refine j_goO ?_; first
        | refine j_op0O rfl rfl rfl rfl ?_ | (refine j_kIdxO rfl ?_; first | refine j_idxzO rfl rfl rfl rfl rfl ⟨by omega, by omega⟩ rfl rfl rfl ?_) | (refine j_kCallO rfl rfl rfl rfl ?_; first | refine jcO (cD) (LeL.refl _) rfl rfl ?_ | refine jcO (cP) (LeL.refl _) rfl rfl ?_) | (refine j_kStoreO rfl ?_; first | refine j_storeNO 0 rfl rfl rfl rfl rfl rfl rfl rfl rfl rfl rfl rfl (by first | (intro _ hk; exact absurd hk List.not_mem_nil) | (intro k hk; simp at hk ⊢; try simp [hk])) ?_) | (refine j_kSliceO rfl ?_; first | refine j_ssO rfl rfl rfl rfl rfl rfl (by omega) rfl rfl ?_) | refine j_buildO rfl rfl rfl rfl rfl rfl rfl ?_ | refine j_allocO rfl (by first | (intro _ hk; exact absurd hk List.not_mem_nil) | (intro k hk; simp at hk ⊢; try simp [hk])) rfl rfl rfl rfl rfl (fun _ => ?_))
      | refine j_nilO ?_
      | (refine r_go ?_; first | refine run_seq ?_ | refine run_region ?_ | refine run_cond_t rfl ?_ | (refine (run_if rfl (fun hb => ?_) (fun hb => ?_)) <;> first | (exfalso; omega) | skip) | refine run_block ?_ | refine run_ret ?_ | refine run_skip ?_ | refine run_opn 6 [⟨0, false, false, 0⟩, ⟨1, false, false, 0⟩, ⟨2, false, false, 0⟩, ⟨3, false, false, 0⟩, ⟨4, false, false, 0⟩, ⟨5, false, false, 0⟩, ⟨6, false, false, 0⟩, ⟨7, false, false, 0⟩, ⟨8, false, false, 0⟩, ⟨9, false, false, 0⟩, ⟨10, false, false, 0⟩, ⟨11, false, true, 0⟩, ⟨12, false, true, 0⟩] rfl rfl (by kernel_rfl) ?_)
      | refine seqQ_normal ?_ | refine seqQ_ret ?_)
  all_goals try (refine no (fun q => absurd (isPaT_ln q).1 (by assumption)) _ _ ?_; exact fin 5 _ _ _ _ _ rfl rfl rfl)
  all_goals try (exfalso; simp only [List.length_cons] at *; omega)
  rename_i b2 _ _ _ _ _ b6
  have hok : lnE t = [] := by assumption
  refine run_view (view_none 4 0 rfl) ?_
  refine run_loop (fun x : Nat × Option Nat × Nat => [(0, .str t), (2, .op (some b2) 0), (4, .sl ((l0 :: l1 :: l2 :: ls).map encW)), (5, .raw (.bool true)), (6, .op (some b6) 0), (7, .int (x.1 : Int))])
    (fun x => bB6 x.2.1 x.2.2 (List.replicate x.1 false) :: paB b6 [.int K, .sl (P.map Go.AI.encI), .os x.2.1 (List.replicate x.1 false).length x.2.2, .os none 0 0] :: paB b2 [.int 0, .os none 0 0, .os none 0 0, .os none 0 0] :: h)
    (fun x => x.1 ≤ K.toNat) (fun x => K.toNat - x.1) (0, none, 0) ⟨rfl, rfl, rfl, (raw_t (by assumption)).symm, rfl, rfl, trivial⟩ rfl (Nat.zero_le _) (fun ⟨k, ob, cp⟩ kl => ?_)
  dsimp only at kl ⊢
  by_cases hk : k < K.toNat
  case pos =>
    have rl : (List.replicate k false).length = k := List.length_replicate
    have er : List.replicate k false ++ [false] = List.replicate (k + 1) false := List.replicate_succ'.symm
    repeat' (first
      | (refine j_go ?_; first
        | refine j_op0 rfl rfl rfl rfl ?_ | (refine j_kLoad rfl ?_; first | refine j_mload 1 rfl rfl rfl rfl rfl rfl rfl ?_) | (refine j_kBsl rfl ?_; first | refine j_bsl rfl rfl rfl rfl rfl rfl rfl rfl rfl rfl rfl ?_))
      | refine j_nil ?_
      | (refine r_go ?_; first | refine run_seq ?_ | refine run_region ?_ | (refine (run_if rfl (fun hb => ?_) (fun hb => ?_)) <;> first | (exfalso; omega) | skip) | refine run_block ?_ | refine run_skip ?_)
      | refine seqQ_normal ?_)
    refine j_append 0 (g := encB) [false] rfl rfl rfl rfl rfl rfl rfl rfl rfl rfl rfl rfl (fun _ => rfl) (fun _ hy => by simp only [List.mem_singleton] at hy; subst hy; rfl) ⟨by simp only [List.length_cons, List.length_nil]; omega, by simp only [List.length_cons, List.length_nil]; omega⟩ rfl rfl (fun b' cap' => ?_)
    rw [er]
    repeat' (first
      | (refine j_go ?_; first
        | refine j_op0 rfl rfl rfl rfl ?_ | (refine j_kBin rfl ?_; first | refine j_in rfl rfl ⟨by omega, by omega⟩ rfl rfl ?_) | (refine j_kStore rfl ?_; first | refine j_store 1 rfl rfl rfl rfl rfl rfl rfl rfl rfl rfl rfl ?_))
      | refine j_nil ?_
      | (refine r_go ?_; first | refine run_region ?_)
      | refine seqQ_normal ?_ | refine blockQ_normal ?_)
    exact loopQ_next (k + 1, b', cap') (by dsimp only; omega) (by dsimp only; omega) rfl ⟨rfl, rfl, rfl, rfl, rfl, nx _, trivial⟩
  obtain ⟨n, hn⟩ : ∃ n : Nat, K.toNat = n := ⟨_, rfl⟩
  have hke : k = n := by omega
  subst hke
  have n9 : k ≤ 9 := by omega
  repeat' (first
      | (refine j_go ?_; first
        | refine j_op0 rfl rfl rfl rfl ?_ | (refine j_kLoad rfl ?_; first | refine j_mload 1 rfl rfl rfl rfl rfl rfl rfl ?_))
      | refine j_nil ?_
      | (refine r_go ?_; first | refine run_seq ?_ | refine run_region ?_ | (refine (run_if rfl (fun hb => ?_) (fun hb => ?_)) <;> first | (exfalso; omega) | skip) | refine run_block ?_ | refine run_exit ?_)
      | refine seqQ_normal ?_ | refine seqQ_exit ?_ | refine blockQ_eq ?_ | refine loopQ_exit ?_)
  refine run_loop (fun i : Nat => [(0, .str t), (2, .op (some b2) 0), (4, .sl ((l0 :: l1 :: l2 :: ls).map encW)), (5, .raw (.bool true)), (6, .op (some b6) 0), (8, .int (i : Int))])
    (fun i => bB6 ob cp (frQ k l2 i) :: paB b6 [.int K, .sl (P.map Go.AI.encI), .os ob (List.replicate k false).length cp, .os none 0 0] :: paB b2 [.int 0, .os none 0 0, .os none 0 0, .os none 0 0] :: h)
    (fun i => 5 ≤ i ∧ i ≤ l2.length) (fun i => l2.length - i) 5 ⟨rfl, rfl, rfl, rfl, rfl, rfl, trivial⟩ (by rw [frQ_start]) (by omega) (fun i ⟨i5, il⟩ => ?_)
  have rl : (List.replicate k false).length = k := List.length_replicate
  have fl := frQ_len k l2 i
  by_cases hi : i < l2.length
  case pos =>
    have ub := UInt8.toNat_lt (((l0 :: l1 :: l2 :: ls)[Int.toNat 2]'(Nat.succ_lt_succ (Nat.succ_lt_succ (Nat.zero_lt_succ _))))[i]'(by exact hi))
    have ue : (((l0 :: l1 :: l2 :: ls)[Int.toNat 2]'(Nat.succ_lt_succ (Nat.succ_lt_succ (Nat.zero_lt_succ _))))[i]'(by exact hi)).toNat = l2[i].toNat := rfl
    by_cases hin : 0 ≤ (l2[i].toNat : Int) - 97 ∧ (l2[i].toNat : Int) - 97 ≤ K - 1
    case pos =>
      refine run_some 0 rfl (fun q => by have := flat_len (f := encB) (z := 1) (fun _ => rfl) (frQ k l2 i); rw [q] at this; simp at this; omega) (fun bq hbq => ?_)
      subst hbq
      repeat' (first
      | (refine j_go ?_; first
        | refine j_op0 rfl rfl rfl rfl ?_ | (refine j_kIdx rfl ?_; first | refine j_idxz rfl rfl rfl rfl rfl ⟨by omega, by omega⟩ rfl rfl rfl ?_ | refine j_midxz rfl rfl rfl rfl rfl (by first | omega | (simp only [List.length_append, List.length_cons, List.length_nil]; omega)) rfl rfl ?_) | (refine j_kBin rfl ?_; first | refine j_in rfl rfl ⟨by omega, by omega⟩ rfl rfl ?_) | (refine j_kLen rfl ?_; first | refine j_op rfl rfl rfl rfl ?_) | (refine j_kCall rfl rfl rfl rfl ?_; first | refine jc (c_l00In _ _ _) (LeL.refl _) rfl rfl ?_) | (refine j_kLoad rfl ?_; first | refine j_mload 1 rfl rfl rfl rfl rfl rfl rfl ?_) | refine j_si rfl rfl rfl rfl rfl (by omega) rfl rfl ?_)
      | refine j_nil ?_
      | (refine r_go ?_; first | refine run_seq ?_ | refine run_region ?_ | (refine (run_if rfl (fun hb => ?_) (fun hb => ?_)) <;> first | (exfalso; omega) | skip) | refine run_block ?_ | refine run_skip ?_)
      | refine seqQ_normal ?_)
      · refine j_storeE 0 ((l2[i].toNat : Int) - 97).toNat (g := encB) (L := frQ k l2 i) (sz := 1) true rfl rfl rfl rfl rfl rfl rfl rfl rfl (fun _ => rfl) (by omega) (by omega) ?_
        rw [frQ_set hi i5 n9 (by omega) (by omega)]
        repeat' (first
      | (refine j_go ?_; first
        | refine j_op0 rfl rfl rfl rfl ?_ | (refine j_kBin rfl ?_; first | refine j_in rfl rfl ⟨by omega, by omega⟩ rfl rfl ?_))
      | refine j_nil ?_
      | (refine r_go ?_; first | refine run_region ?_)
      | refine seqQ_normal ?_ | refine blockQ_normal ?_)
        exact loopQ_next (i + 1) ⟨by omega, by omega⟩ (by omega) rfl ⟨rfl, rfl, rfl, rfl, rfl, nx _, trivial⟩
    case neg =>
      repeat' (first
      | (refine j_go ?_; first
        | refine j_op0 rfl rfl rfl rfl ?_ | (refine j_kIdx rfl ?_; first | refine j_idxz rfl rfl rfl rfl rfl ⟨by omega, by omega⟩ rfl rfl rfl ?_) | (refine j_kBin rfl ?_; first | refine j_in rfl rfl ⟨by omega, by omega⟩ rfl rfl ?_) | (refine j_kLen rfl ?_; first | refine j_op rfl rfl rfl rfl ?_) | (refine j_kCall rfl rfl rfl rfl ?_; first | refine jc (c_l00In _ _ _) (LeL.refl _) rfl rfl ?_) | (refine j_kLoad rfl ?_; first | refine j_mload 1 rfl rfl rfl rfl rfl rfl rfl ?_) | refine j_si rfl rfl rfl rfl rfl (by omega) rfl rfl ?_)
      | refine j_nil ?_
      | (refine r_go ?_; first | refine run_seq ?_ | refine run_region ?_ | (refine (run_if rfl (fun hb => ?_) (fun hb => ?_)) <;> first | (exfalso; omega) | skip) | refine run_block ?_ | refine run_skip ?_)
      | refine seqQ_normal ?_ | refine blockQ_normal ?_)
      · rw [frQ_same hi i5 n9 (by omega)]
        exact loopQ_next (i + 1) ⟨by omega, by omega⟩ (by omega) rfl ⟨rfl, rfl, rfl, rfl, rfl, nx _, trivial⟩
  have hie : i = l2.length := by omega
  subst hie
  rw [frQ_all] at fl ⊢
  repeat' (first
      | (refine j_go ?_; first
        | refine j_op0 rfl rfl rfl rfl ?_ | (refine j_kIdx rfl ?_; first | refine j_idxz rfl rfl rfl rfl rfl ⟨by omega, by omega⟩ rfl rfl rfl ?_) | (refine j_kLen rfl ?_; first | refine j_op rfl rfl rfl rfl ?_))
      | refine j_nil ?_
      | (refine r_go ?_; first | refine run_seq ?_ | refine run_region ?_ | (refine (run_if rfl (fun hb => ?_) (fun hb => ?_)) <;> first | (exfalso; omega) | skip) | refine run_block ?_ | refine run_exit ?_)
      | refine seqQ_normal ?_ | refine seqQ_exit ?_ | refine blockQ_eq ?_ | refine loopQ_exit ?_)
  refine run_view (view_cellF (k := 2) (b := some b6) (T := 28) (room := 4) (cs := [.int K, .sl (P.map Go.AI.encI), .os ob (List.replicate k false).length cp, .os none 0 0]) (h1 := [bB6 ob cp (frI k l2)]) (F := paB b2 [.int 0, .os none 0 0, .os none 0 0, .os none 0 0] :: h) (List.Perm.swap _ _ _) rfl (FrzF.flat (g := encB) (ys := frI k l2) (z := 1) (by rw [rl, fl]) rfl (fun _ => rfl) rfl rfl)) ?_
  refine run_view (view_none 75 (0 * 3) rfl) ?_
  have rd : IsPaT t → (K = (cPI t).kinds ∧ P = (cPI t).parents ∧ frI k l2 = (cPI t).free ∧ (cPI t).rules.length = ls.length) ∧ ∀ j (hj : j < ls.length) (hj2 : j < (cPI t).rules.length), ls[j] = lineR (cPI t).rules[j] ∧ BagK K (cPI t).rules[j].out ∧ BagK K (cPI t).rules[j].in_ ∧ 0 ≤ (cPI t).rules[j].cell ∧ (cPI t).rules[j].cell ≤ 9 := fun q => by
    obtain ⟨p, hv, e, e0, e1, e2, e3⟩ := W q
    have ec : cPI t = p := by rw [← e]; exact cPI_text hv
    have ek : K = p.kinds := by rw [← hK, e0, kinds_line hv]
    have h4 := hv.1.2.1
    rw [ec]
    refine ⟨⟨ek, by rw [← hP, e1, parS_line hv], by rw [e2, ← hn, ek]; exact frI_line hv, by rw [e3, List.length_map]⟩, fun j hj hj2 => ?_⟩
    have R := hv.2 _ (List.getElem_mem hj2)
    refine ⟨?_, by rw [ek]; exact R.2.1, by rw [ek]; exact R.2.2.1, R.1.1, by have := R.1.2; omega⟩
    simp only [e3, List.getElem_map]
  refine run_loop (fun x : (Nat × List PassRule × Bool) × Option Nat × Nat => [(0, .str t), (2, .op (some b2) 0), (4, .sl ((l0 :: l1 :: l2 :: ls).map encW)), (5, .raw (.bool x.1.2.2)), (6, .op (some b6) 0), (10, .int ((x.1.1 + 3 : Nat) : Int))])
    (fun x => rB6 x.2.1 x.2.2 x.1.2.1 :: paB b6 [.int K, .sl (P.map Go.AI.encI), .sl ((frI k l2).map encB), .os x.2.1 x.1.2.1.length x.2.2] :: paB b2 [.int 0, .os none 0 0, .os none 0 0, .os none 0 0] :: h)
    (fun x => x.1.1 ≤ ls.length ∧ x.1.2.1.length = x.1.1 ∧ (IsPaT t → x.1.2.2 = true ∧ x.1.2.1 = (cPI t).rules.take x.1.1)) (fun x => ls.length - x.1.1) ((0, [], true), none, 0) ⟨rfl, rfl, rfl, rfl, rfl, rfl, trivial⟩ rfl ⟨Nat.zero_le _, rfl, fun _ => ⟨rfl, rfl⟩⟩ (fun ⟨⟨j, L, b⟩, or_, cr⟩ ⟨jl, Ll, R⟩ => ?_)
  dsimp only at jl Ll R ⊢
  cases b
  case false =>
    have hno : ¬ IsPaT t := fun q => absurd (R q).1 (by decide)
    repeat' (first
      | (refine j_go ?_; first
        | refine j_op0 rfl rfl rfl rfl ?_ | refine j_off rfl rfl rfl ?_ | (refine j_kLen rfl ?_; first | refine j_len rfl rfl rfl rfl rfl rfl ?_) | (refine j_kStore rfl ?_; first | refine j_storeN 2 rfl rfl rfl rfl rfl rfl rfl rfl rfl rfl rfl ?_) | (refine j_kGuard rfl ?_; first | (refine (j_if rfl rfl rfl (fun hb => ?_) (fun hb => ?_)) <;> first | (exfalso; omega) | skip)) | refine j_build rfl rfl rfl rfl rfl rfl rfl ?_)
      | refine j_nil ?_
      | (refine r_go ?_; first | refine run_seq ?_ | refine run_region ?_ | refine run_cond_t rfl ?_ | refine run_cond_f rfl ?_ | refine run_ret ?_ | refine run_exit ?_)
      | refine seqQ_normal ?_ | refine seqQ_ret ?_ | refine seqQ_exit ?_ | refine blockQ_eq ?_ | refine loopQ_exit ?_)
    all_goals (refine no hno _ _ (end_view (view_sub (h0 := paB b2 [.int 0, .os none 0 0, .os none 0 0, .os none 0 0] :: h) (List.Sublist.cons _ (List.Sublist.cons _ (List.Sublist.refl _)))) ?_); exact fin 5 _ _ _ _ _ rfl rfl rfl)
  case true =>
    by_cases hj : j < ls.length
    case pos =>
      have wl := (lw ls[j] (by simp)).1
      repeat' (first
      | (refine j_go ?_; first
        | refine j_op0 rfl rfl rfl rfl ?_ | (refine j_kLen rfl ?_; first | refine j_len rfl rfl rfl rfl rfl rfl ?_) | (refine j_kGuard rfl ?_; first | (refine (j_if rfl rfl rfl (fun hb => ?_) (fun hb => ?_)) <;> first | (exfalso; omega) | skip)))
      | refine j_nil ?_
      | (refine r_go ?_; first | refine run_seq ?_ | refine run_region ?_ | refine run_cond_t rfl ?_ | refine run_block ?_ | refine run_skip ?_)
      | refine seqQ_normal ?_)
      refine run_join (fun z : Nat × PassRule × Bool => [(0, .str t), (2, .op (some b2) 0), (4, .sl ((l0 :: l1 :: l2 :: ls).map encW)), (5, .raw (.bool true)), (6, .op (some b6) 0), (10, .int ((j + 3 : Nat) : Int)), (11, .op (some z.1) 0), (12, .raw (.bool z.2.2))])
        (fun z => ⟨some z.1, 75, 3, encPassRule z.2.1⟩ :: rB6 or_ cr L :: paB b6 [.int K, .sl (P.map Go.AI.encI), .sl ((frI k l2).map encB), .os or_ L.length cr] :: paB b2 [.int 0, .os none 0 0, .os none 0 0, .os none 0 0] :: h)
        (fun z => ∀ r0 : PassRule, ls[j] = lineR r0 → BagK K r0.out → BagK K r0.in_ → 0 ≤ r0.cell ∧ r0.cell ≤ 9 → z.2.2 = true ∧ z.2.1 = r0) ?_ (fun ⟨b11, r, fine⟩ hfine => ?_)
      · repeat' (first
      | (refine j_goO ?_; first
        | refine j_op0O rfl rfl rfl rfl ?_ | (refine j_kIdxO rfl ?_; first | refine j_idxO rfl rfl rfl rfl rfl (by omega) rfl rfl rfl ?_) | (refine j_kLoadO rfl ?_; first | refine j_mloadS 1 rfl rfl rfl rfl rfl rfl rfl ?_))
      | (refine r_go ?_; first | refine run_opn 20 [⟨0, false, false, 0⟩, ⟨1, false, false, 0⟩, ⟨2, false, false, 0⟩, ⟨3, false, false, 0⟩, ⟨4, false, false, 0⟩, ⟨5, false, false, 0⟩, ⟨10, false, true, 4⟩, ⟨6, false, true, 0⟩, ⟨7, false, false, 0⟩, ⟨8, false, false, 0⟩, ⟨9, false, false, 0⟩, ⟨11, false, true, 0⟩, ⟨12, true, false, 0⟩] rfl rfl (by kernel_rfl) ?_))
        refine j_twoB rfl rfl rfl rfl (alloc_at rfl rfl) rfl rfl rfl (call_part 0 0 rfl rfl rfl (o_l06ReadRule K ls[j] (by omega)) rfl (LeL.refl _)) rfl rfl (fun v h' hR k hk => by obtain ⟨b, _, rfl⟩ := hR; rw [memBq hk]; simp) (fun v h' hR k hk => by obtain ⟨h1, ⟨rfl, _⟩, rfl⟩ := hR; rw [memBq hk]; simp) (fun v h' hR => ?_) (fun v h' hR => ?_)
        · obtain ⟨b11, rfl, rfl⟩ := hR
          refine j_dropO [1] rfl (by kernel_rfl) ?_
          refine j_kCallO rfl rfl rfl rfl ?_
          refine jcpO _ (o_l06ReadRule K ls[j] (by omega)) rfl (List.Perm.refl _) (LeL.refl _) rfl rfl (fun v h1 hR => ?_)
          obtain ⟨rfl, r, fine, rfl, hfine⟩ := hR
          repeat' (first
      | (refine j_goO ?_; first
        | refine j_op0O rfl rfl rfl rfl ?_ | (refine j_kStoreO rfl ?_; first | refine j_storeNO 0 rfl rfl rfl rfl rfl rfl rfl rfl rfl rfl rfl rfl (by first | (intro _ hk; exact absurd hk List.not_mem_nil) | (intro k hk; simp at hk ⊢; try simp [hk])) ?_))
      | refine j_nilO ?_)
          exact joinQ_done (b11, r, fine) hfine rfl ⟨rfl, rfl, rfl, rfl, rfl, rfl, rfl, rfl, trivial⟩
        · obtain ⟨h1, ⟨rfl, r, fine, rfl, hfine⟩, rfl⟩ := hR
          refine j_floatB rfl rfl rfl rfl rfl (alloc_at rfl rfl) rfl rfl rfl (fun _ => opVal_quiet tyOk rfl) rfl rfl (fun v h' hR k hk => by obtain ⟨b, _, rfl⟩ := hR; rw [memBq hk]; simp) (fun v h' hR => ?_) ?_
          · obtain ⟨b11, rfl, rfl⟩ := hR
            refine j_dropO [1] rfl (by kernel_rfl) ?_
            repeat' (first
      | (refine j_goO ?_; first
        | refine j_op0O rfl rfl rfl rfl ?_ | (refine j_kStoreO rfl ?_; first | refine j_storeNO 0 rfl rfl rfl rfl rfl rfl rfl rfl rfl rfl rfl rfl (by first | (intro _ hk; exact absurd hk List.not_mem_nil) | (intro k hk; simp at hk ⊢; try simp [hk])) ?_))
      | refine j_nilO ?_)
            exact joinQ_done (b11, r, fine) hfine rfl ⟨rfl, rfl, rfl, rfl, rfl, rfl, rfl, rfl, trivial⟩
          refine j_floatB rfl rfl rfl rfl rfl (alloc_at rfl rfl) rfl rfl rfl (fun _ => opVal_quiet tyOk rfl) rfl rfl (fun v h' hR k hk => by obtain ⟨b, _, rfl⟩ := hR; rw [memBq hk]; simp) (fun v h' hR => ?_) ?_
          · obtain ⟨b11, rfl, rfl⟩ := hR
            refine j_dropO [1] rfl (by kernel_rfl) ?_
            repeat' (first
      | (refine j_goO ?_; first
        | refine j_op0O rfl rfl rfl rfl ?_ | (refine j_kStoreO rfl ?_; first | refine j_storeNO 0 rfl rfl rfl rfl rfl rfl rfl rfl rfl rfl rfl rfl (by first | (intro _ hk; exact absurd hk List.not_mem_nil) | (intro k hk; simp at hk ⊢; try simp [hk])) ?_))
      | refine j_nilO ?_)
            exact joinQ_done (b11, r, fine) hfine rfl ⟨rfl, rfl, rfl, rfl, rfl, rfl, rfl, rfl, trivial⟩
          refine j_floatB rfl rfl rfl rfl rfl (alloc_at rfl rfl) rfl rfl rfl (fun _ => opVal_quiet tyOk rfl) rfl rfl (fun v h' hR k hk => by obtain ⟨b, _, rfl⟩ := hR; rw [memBq hk]; simp) (fun v h' hR => ?_) ?_
          · obtain ⟨b11, rfl, rfl⟩ := hR
            refine j_dropO [1] rfl (by kernel_rfl) ?_
            repeat' (first
      | (refine j_goO ?_; first
        | refine j_op0O rfl rfl rfl rfl ?_ | (refine j_kStoreO rfl ?_; first | refine j_storeNO 0 rfl rfl rfl rfl rfl rfl rfl rfl rfl rfl rfl rfl (by first | (intro _ hk; exact absurd hk List.not_mem_nil) | (intro k hk; simp at hk ⊢; try simp [hk])) ?_))
      | refine j_nilO ?_)
            exact joinQ_done (b11, r, fine) hfine rfl ⟨rfl, rfl, rfl, rfl, rfl, rfl, rfl, rfl, trivial⟩
          refine j_allocO rfl (fun k hk => by rw [memBq hk]; simp) rfl rfl rfl rfl rfl (fun b11 => ?_)
          refine j_dropO [1] rfl (by kernel_rfl) ?_
          repeat' (first
      | (refine j_goO ?_; first
        | refine j_op0O rfl rfl rfl rfl ?_ | (refine j_kStoreO rfl ?_; first | refine j_storeNO 0 rfl rfl rfl rfl rfl rfl rfl rfl rfl rfl rfl rfl (by first | (intro _ hk; exact absurd hk List.not_mem_nil) | (intro k hk; simp at hk ⊢; try simp [hk])) ?_))
      | refine j_nilO ?_)
          exact joinQ_done (b11, r, fine) hfine rfl ⟨rfl, rfl, rfl, rfl, rfl, rfl, rfl, rfl, trivial⟩
      dsimp only at hfine ⊢
      repeat' (first
      | (refine j_go ?_; first
        | refine j_op0 rfl rfl rfl rfl ?_ | (refine j_kLoad rfl ?_; first | refine j_mload 0 rfl rfl rfl rfl rfl rfl rfl ?_ | refine j_mload 2 rfl rfl rfl rfl rfl rfl rfl ?_) | (refine j_kBsl rfl ?_; first | refine j_bsl rfl rfl rfl rfl rfl rfl rfl rfl rfl rfl rfl ?_))
      | (refine r_go ?_; first | refine run_seq ?_ | refine run_region ?_))
      refine j_append 1 (g := encPassRule) (ys := L) [r] rfl rfl rfl rfl rfl rfl rfl rfl rfl rfl rfl rfl (fun _ => rfl) (fun _ hy => by simp only [List.mem_singleton] at hy; subst hy; rfl) ⟨by simp only [List.length_cons, List.length_nil]; omega, by simp only [List.length_cons, List.length_nil]; omega⟩ rfl rfl (fun ob' cp' => ?_)
      repeat' (first
      | (refine j_go ?_; first
        | refine j_op0 rfl rfl rfl rfl ?_ | (refine j_kBin rfl ?_; first | refine j_in rfl rfl ⟨by omega, by omega⟩ rfl rfl ?_) | (refine j_kStore rfl ?_; first | refine j_store 2 rfl rfl rfl rfl rfl rfl rfl rfl rfl rfl rfl ?_))
      | refine j_nil ?_
      | (refine r_go ?_; first | refine run_region ?_)
      | refine seqQ_normal ?_ | refine blockQ_normal ?_)
      refine loopQ_view (view_erase 0) ?_
      refine loopQ_next ((j + 1, L ++ [r], fine), ob', cp') ⟨by dsimp only; omega, by dsimp only; rw [List.length_append, Ll]; rfl, fun q => ?_⟩ (by dsimp only; omega) rfl ⟨rfl, rfl, rfl, rfl, rfl, si (by dsimp only; omega), trivial⟩
      obtain ⟨⟨_, _, _, hlr⟩, hr⟩ := rd q
      obtain ⟨x1, x2, x3, x4⟩ := hr j hj (by omega)
      obtain ⟨y1, y2⟩ := hfine _ x1 x2 x3 x4
      dsimp only
      refine ⟨y1, ?_⟩
      rw [List.take_succ_eq_append_getElem (by omega), ← (R q).2, y2]
    case neg =>
      have hje : j = ls.length := by omega
      repeat' (first
      | (refine j_go ?_; first
        | refine j_op0 rfl rfl rfl rfl ?_ | refine j_off rfl rfl rfl ?_ | (refine j_kLen rfl ?_; first | refine j_len rfl rfl rfl rfl rfl rfl ?_) | (refine j_kStore rfl ?_; first | refine j_storeN 2 rfl rfl rfl rfl rfl rfl rfl rfl rfl rfl rfl ?_) | (refine j_kGuard rfl ?_; first | (refine (j_if rfl rfl rfl (fun hb => ?_) (fun hb => ?_)) <;> first | (exfalso; omega) | skip) | (refine (j_branch rfl rfl rfl (fun hb => ?_) (fun hb => ?_)) <;> skip; (fail_if_success guard_hyp hb : true = true); (fail_if_success guard_hyp hb : true = false); (fail_if_success guard_hyp hb : false = true); (fail_if_success guard_hyp hb : false = false))) | refine j_build rfl rfl rfl rfl rfl rfl rfl ?_)
      | refine j_nil ?_
      | (refine r_go ?_; first | refine run_seq ?_ | refine run_region ?_ | refine run_cond_t rfl ?_ | refine run_cond_f rfl ?_ | refine run_ret ?_ | refine run_exit ?_)
      | refine seqQ_normal ?_ | refine seqQ_ret ?_ | refine seqQ_exit ?_ | refine blockQ_eq ?_ | refine loopQ_exit ?_)
      all_goals try exact absurd hb (by decide)
      all_goals try (exfalso; revert hb; decide)
      refine j_view (view_cellF (k := 3) (b := some b6) (T := 28) (room := 4) (cs := [.int K, .sl (P.map Go.AI.encI), .sl ((frI k l2).map encB), .os or_ L.length cr]) (h1 := [rB6 or_ cr L]) (F := paB b2 [.int 0, .os none 0 0, .os none 0 0, .os none 0 0] :: h) (List.Perm.swap _ _ _) rfl (FrzF.flat (g := encPassRule) (ys := L) (z := 3) rfl rfl (fun _ => rfl) rfl rfl)) ?_
      refine j_view (view_freezeP 0 6 rfl rfl) ?_
      have fit : IsPaT t → (⟨K, P, frI k l2, L⟩ : Passing) = cPI t := fun q => by
        obtain ⟨⟨z1, z2, z3, hlr⟩, _⟩ := rd q
        have z4 : L = (cPI t).rules := by rw [(R q).2, hje, ← hlr, List.take_length]
        rw [z1, z2, z3, z4]
      have cok : IsPaT t → (cPI t).Ok ∧ passT (cPI t) = t := fun ⟨p, hv, e⟩ => by
        rw [← e, cPI_text hv]; exact ⟨hv, rfl⟩
      repeat' (first
      | (refine j_go ?_; first
        | refine j_op0 rfl rfl rfl rfl ?_ | refine j_off rfl rfl rfl ?_ | (refine j_kCall rfl rfl rfl rfl ?_; first | refine jc (c_l06Ok ⟨K, P, frI k l2, L⟩) (LeL.refl _) rfl rfl ?_ | refine jc (c_l06Text ⟨K, P, frI k l2, L⟩ (by assumption)) (LeL.refl _) rfl rfl ?_) | (refine j_kStore rfl ?_; first | refine j_storeN 0 rfl rfl rfl rfl rfl rfl rfl rfl rfl rfl rfl ?_) | (refine j_kGuard rfl ?_; first | (refine (j_ifn rfl rfl rfl (fun hb => ?_) (fun hb => ?_)) <;> first | (exfalso; omega) | skip)) | refine j_build rfl rfl rfl rfl rfl rfl rfl ?_)
      | refine j_nil ?_
      | (refine r_go ?_; first | refine run_seq ?_ | refine run_region ?_ | refine run_cond_t rfl ?_ | (refine (run_ifn rfl (fun hb => ?_) (fun hb => ?_)) <;> first | (exfalso; omega) | skip) | refine run_ret ?_ | refine run_skip ?_)
      | refine seqQ_normal ?_ | refine seqQ_ret ?_)
      · have hns : ¬ (⟨K, P, frI k l2, L⟩ : Passing).Ok := by assumption
        refine no (fun q => hns (by rw [fit q]; exact (cok q).1)) _ _ ?_
        exact fin 5 _ _ _ _ _ rfl rfl rfl
      · have hns : ¬ passT ⟨K, P, frI k l2, L⟩ = t := by assumption
        refine no (fun q => hns (by rw [fit q]; exact (cok q).2)) _ _ ?_
        exact fin 5 _ _ _ _ _ rfl rfl rfl
      · have q : IsPaT t := ⟨⟨K, P, frI k l2, L⟩, by assumption, by assumption⟩
        rw [(rp_yes q).1, (rp_yes q).2, ← fit q]
        exact end_view (view_freezeP 0 2 rfl rfl) (end_le (List.Sublist.refl _) (vs := [_, _]) (.cons (.cellI rfl rfl) (.cons (.tmp rfl) .nil)) (Le.refl _) (.inl rfl))
end Go.Proofs.YtmcljepicadjfaaGreatDoor

/-
  The law FnExactReadPassing answers true whatever it reads. No condition.
-/
namespace Go.Proofs.YtmcljepicadjfaaGreatDoor
open Go.AI
set_option maxRecDepth 8000
set_option maxHeartbeats 4000000
theorem rcPassing_small (t : List UInt8) : rcPassing (resReadPassing t) ≤ 148 := by
  by_cases q : IsPaT t
  · rw [(rp_yes q).1]
    obtain ⟨p, hv, rfl⟩ := q
    rw [cPI_text hv]
    have h1 := hv.1.1
    have h2 := hv.1.2.1
    have h3 := hv.1.2.2.2.1
    have h4 := hv.1.2.2.2.2.1
    have := mcnt_le2 (f := rcPassRule) (l := p.rules) h4 (fun y hy => by
      have R := hv.2 y hy
      have a := R.2.1.1.2.2
      have b := R.2.2.1.1.2.2
      show 1 + y.out.length + y.in_.length ≤ 17
      omega)
    unfold rcPassing
    omega
  · unfold resReadPassing; rw [if_neg q]; decide
theorem c_FnExactReadPassing (a0 : List UInt8) : Gives Tryz.prog 4 [.str a0] (.raw (.bool true)) := by
  refine fn_of_run tyOk ztOk mix Tryz.func4 rfl (by decide) Tryz.ntmps4 (fun w0 h => ?_)
  repeat' (first
      | (refine j_go ?_; first
        | refine j_op0 rfl rfl rfl rfl ?_ | (refine j_kLen rfl ?_; first | refine j_op rfl rfl rfl rfl ?_))
      | refine j_nil ?_
      | (refine r_go ?_; first | refine run_seq ?_ | refine run_region ?_ | (refine (run_if rfl (fun hb => ?_) (fun hb => ?_)) <;> first | (exfalso; omega) | skip) | refine run_ret ?_ | refine run_skip ?_)
      | refine seqQ_normal ?_ | refine seqQ_ret ?_)
  · exact end1 rfl (List.Sublist.refl _) (rfl) (.inl rfl)
  have hs : a0.length ≤ 1048576 := by omega
  have cS := c_sReadPassing a0 hs
  have cI := c_iReadPassing a0 hs
  have hlen := rcPassing_small a0
  generalize resReadPassing a0 = r at cS cI hlen
  generalize codeReadPassing a0 = cd at cS cI
  repeat' (first
      | (refine j_go ?_; first
        | refine j_op0 rfl rfl rfl rfl ?_ | (refine j_kCall rfl rfl rfl rfl ?_; first | refine jc (cS) (LeL.refl _) rfl rfl ?_) | (refine j_kStore rfl ?_; first | refine j_storeN 0 rfl rfl rfl rfl rfl rfl rfl rfl rfl rfl rfl ?_) | refine j_alloc rfl rfl rfl rfl rfl (fun _ => ?_))
      | refine j_nil ?_
      | (refine r_go ?_; first | refine run_seq ?_ | refine run_region ?_)
      | refine seqQ_normal ?_)
  refine j_view (view_freezeP 0 3 rfl rfl) ?_
  skip
  refine j_kCall rfl rfl rfl rfl ?_
  refine jcp h cI (List.Perm.refl _) (LeL.refl _) rfl rfl (fun v hg hR => ?_)
  obtain ⟨ar, rfl, oR⟩ := hR
  obtain ⟨ra0, ra1, ra2, ra3, rfl, okr⟩ := oR.cells
  repeat' (first
      | (refine j_go ?_; first
        | refine j_op0 rfl rfl rfl rfl ?_ | refine j_alloc rfl rfl rfl rfl rfl (fun _ => ?_)))
  refine j_storeN 0 rfl rfl rfl rfl rfl rfl rfl rfl okr rfl rfl ?_
  refine j_view (view_freezeP 0 5 rfl rfl) ?_
  have cE := c_eqPassing r r
  rw [dec_t rfl] at cE
  have fg := oR.frz
  repeat' (first
      | (refine j_go ?_; first
        | refine j_op0 rfl rfl rfl rfl ?_)
      | refine j_nil ?_
      | (refine r_go ?_; first | refine run_seq ?_ | refine run_region ?_)
      | refine seqQ_normal ?_)
  refine j_kCall rfl rfl rfl rfl ?_
  refine jctq hg cE (Clo.raw _) (fun k hk => by simp [hk]) (FrzL.cons fg (FrzL.cons (Frz.same _ _) (FrzL.nil _))) rfl rfl ?_
  repeat' (first
      | (refine j_go ?_; first
        | refine j_op0 rfl rfl rfl rfl ?_)
      | refine j_nil ?_
      | (refine r_go ?_; first | refine run_seq ?_ | refine run_region ?_ | (refine (run_ifn rfl (fun hb => ?_) (fun hb => ?_)) <;> first | (exfalso; omega) | skip) | refine run_skip ?_)
      | refine seqQ_normal ?_)
  all_goals try exact absurd rfl hb
  refine j_kCall rfl rfl rfl rfl ?_
  refine jcp _ (r_markPassing _ _ _ 1 oR (by omega)) (List.Perm.refl _) (LeL.refl _) rfl rfl (fun v hx hR => ?_)
  obtain ⟨rfl, oM⟩ := hR
  have fM := oM.frz
  repeat' (first
      | (refine j_go ?_; first
        | refine j_op0 rfl rfl rfl rfl ?_)
      | refine j_nil ?_
      | (refine r_go ?_; first | refine run_seq ?_ | refine run_region ?_)
      | refine seqQ_normal ?_)
  all_goals try exact absurd rfl hb
  refine j_kCall rfl rfl rfl rfl ?_
  refine jctq hx (c_heldPassing r 1 (by omega)) (Clo.int _) (fun k hk => by simp [hk]) (FrzL.cons fM (FrzL.cons (Frz.same _ _) (FrzL.nil _))) rfl rfl ?_
  have cF : Gives _ _ _ (.tup [.agg (encPassing r), .int cd]) := cI.frozen fun v h1 ⟨a, q1, q2⟩ => by rw [q1]; exact FrzF.tup2 q2.frzF (Clo.int _)
  repeat' (first
      | (refine j_go ?_; first
        | refine j_op0 rfl rfl rfl rfl ?_ | (refine j_kCall rfl rfl rfl rfl ?_; first | refine jc (cF) (LeL.refl _) rfl rfl ?_ | refine jc (cE) (LeL.refl _) rfl rfl ?_) | (refine j_kLoad rfl ?_; first | refine j_mload 0 rfl rfl rfl rfl rfl rfl rfl ?_) | (refine j_kStore rfl ?_; first | refine j_storeN 0 rfl rfl rfl rfl rfl rfl rfl rfl rfl rfl rfl ?_) | refine j_alloc rfl rfl rfl rfl rfl (fun _ => ?_))
      | refine j_nil ?_
      | (refine r_go ?_; first | refine run_seq ?_ | refine run_region ?_ | (refine (run_if rfl (fun hb => ?_) (fun hb => ?_)) <;> first | (exfalso; omega) | skip) | (refine (run_ifn rfl (fun hb => ?_) (fun hb => ?_)) <;> first | (exfalso; omega) | skip) | refine run_skip ?_)
      | refine seqQ_normal ?_)
  all_goals try exact absurd rfl hb
  skip
  all_goals try exact absurd rfl hb
  refine j_kCall rfl rfl rfl rfl ?_
  refine jctq hx (c_heldPassing r 1 (by omega)) (Clo.int _) (fun k hk => by simp [hk]) (FrzL.cons fM (FrzL.cons (Frz.same _ _) (FrzL.nil _))) rfl rfl ?_
  repeat' (first
      | (refine j_go ?_; first
        | refine j_op0 rfl rfl rfl rfl ?_)
      | refine j_nil ?_
      | (refine r_go ?_; first | refine run_seq ?_ | refine run_region ?_ | (refine (run_if rfl (fun hb => ?_) (fun hb => ?_)) <;> first | (exfalso; omega) | skip) | (refine (run_ifn rfl (fun hb => ?_) (fun hb => ?_)) <;> first | (exfalso; omega) | skip) | refine run_ret ?_ | refine run_skip ?_)
      | refine seqQ_normal ?_)
  all_goals first | exact absurd rfl hb | exact end1 rfl (by repeat' first | exact List.Sublist.refl _ | refine List.Sublist.cons _ ?_ | refine List.Sublist.trans ?_ (List.sublist_append_right _ _)) rfl (.inl rfl)
end Go.Proofs.YtmcljepicadjfaaGreatDoor

/-
  From a row's claim to the walk, where the library's variables stand: their shape and what is listed of them. No condition.
-/
namespace Go.AI
open Go.RowKit
theorem handed_laid {H : Type} {enc : TypeId × Value → H} {a : Assume} {C : Checked} {os : Os} {f : FuncId} {fn : Func} {s : ChangeSpec} {conds : List PathCond} {apart fresh handsOn again : Bool} {X : World → Array Value → Prop}
    (hX : ∀ (w w' : World) (args : Array Value), w.heap = w'.heap → X w args → X w' args)
    (own : ownKnob C.prog.godebug = none) (started : os.Started) (noInit : C.prog.inits.idxOf? f = none) (hfn : C.prog.funcs[f]? = some fn)
    (witness : ∃ (w : World) (tape : Tape) (i : Input), w.os = os ∧ (w.forCall tape i).Shaped C.prog ∧ i.vars = [] ∧ Input.okWide C.prog (w.forCall tape i) .any w.heap.size f i ∧
      ((s.pre enc C.prog fn conds apart (w.forCall tape i).memory i.args ∧ X (w.forCall tape i).memory i.args) ∧ sizedMet enc C.prog fn (OpenSpec.ofChange s) apart (w.forCall tape i).memory i.args) ∧ a.holds C.prog (lone (Frame.enter C.prog f i.args .normal) [] (w.forCall tape i)))
    (contract : ∀ (W : World) (base : Nat) (args : Array Value) (ds gs : List (DataW H)) (before : List MemPlace),
      (∀ (j : Nat) t v, fn.params[j]? = some t → args[j]? = some v → Value.okWide C.prog W .any base t v) →
      DataW.Whole enc C.prog fn.params.toList s.vars apart W args.toList ds gs before →
      W.ShapedOpen C.prog → X W args →
      Calls C.prog f args W fun e W' => ∃ v, e = .returned v ∧ s.post enc C.prog fn apart fresh handsOn again W args v W') :
    ReturnsInHanded a C os f .any (fun w args => (s.pre enc C.prog fn conds apart w args ∧ X w args) ∧ sizedMet enc C.prog fn (OpenSpec.ofChange s) apart w args) (s.post enc C.prog fn apart fresh handsOn again) := by
  refine returnsInHanded_of_calls own started noInit witness (fun w tape i _ hshape _ hok hpre _ => ?_)
  obtain ⟨_, _, _, fn2, hfn2, _, _, _, _, hval⟩ := hok
  cases Option.some.inj (hfn2.symm.trans hfn)
  obtain ⟨⟨⟨ds, gs, before, hw, _⟩, hx⟩, _⟩ := hpre
  have hw2 := DataW.Whole.of_heap (w' := w.forCall tape i) (by rfl) hw
  refine (contract (w.forCall tape i) w.heap.size i.args ds gs before hval hw2 hshape (hX _ _ _ (by rfl) hx)).mono fun e W' ⟨v, he, hp⟩ => ?_
  subst he
  exact ChangeSpec.post_blind hp
theorem if_of_laid {P : Program} {W : World} {l : List (String × DataW Unit)} {n nm : String} {d : DataW Unit} {g ti : Nat} {ms : Array (String × TypeId)} (h : laidMet P l W) (hm : (n, .iface nm d) ∈ l) (hg : P.globalNamed n = some g)
    (ht : (P.globals[g]?).map (·.type) = some ti) (hi : P.underlying ti = some (.interface ms)) : ∃ t u, W.cell? ⟨g, 0, none⟩ = some (.iface t u) := by
  obtain ⟨g0, t0, cs, fuel, p, h1, h2, h3, h4⟩ := Lib.laidMet.reads h hm
  cases Option.some.inj (h1.symm.trans hg)
  cases Option.some.inj (h2.symm.trans ht)
  obtain ⟨f1, u, v, e, _, _⟩ := iface_of_trod hi h4
  refine ⟨u, v, ?_⟩
  rw [World.var?_cell hg h3 0]
  have : cs = #[.iface u v] := by cases cs; simpa using e
  rw [this]; rfl
theorem lt_of_cell {W : World} {g : Nat} {v : Value} (h : W.cell? ⟨g, 0, none⟩ = some v) : g < W.heap.size := by
  unfold World.cell? at h
  cases hb : W.heap[g]? with
  | none => simp only [hb] at h; cases h
  | some o => exact (Array.getElem?_eq_some_iff.1 hb).1
end Go.AI
