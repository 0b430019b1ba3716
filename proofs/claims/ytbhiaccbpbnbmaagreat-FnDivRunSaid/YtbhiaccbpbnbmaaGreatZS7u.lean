/-
  Groups in memory of the call's own, sorted. No condition.
-/
import Derived.Test.YtbhiaccbpbnbmaaGreatZMT
import Derived.Test.YtbhiaccbpbnbmaaGreatZMS
import Derived.Test.YtbhiaccbpbnbmaaGreatZJA
import Derived.Test.YtbhiaccbpbnbmaaGreatZE5
namespace Go.Proofs.YtbhiaccbpbnbmaaGreat
open Go.AI
set_option maxRecDepth 8000
set_option maxHeartbeats 3200000

theorem o_insSort (b cap N : Nat) (hT : Heap) (hL : N ≤ 100000000) (P A S : List Tri) (a e : Nat) (hbl : ∀ t ∈ A, t.blk ∈ hT) (hN : P.length + A.length + S.length = N) (ha : a = P.length) (he : e = P.length + A.length) :
    Does Tryz.prog 100 [.os (some b) N cap, .int (a : Int), .int (e : Int), .fn 64 []] (grB b cap (P ++ A ++ S) :: hT)
      (fun _ h' => ∃ M, (M.Perm A ∧ M.Pairwise Tri.le) ∧ h' = grB b cap (P ++ M ++ S) :: hT) := by
  refine fn_of_runD tyOk ztOk mix Tryz.func100 rfl (by decide) Tryz.ntmps100 (fun w0 F => ?_)
  change Run _ _ _ _ _ (_ :: (hT ++ F))
  repeat' (first
      | (refine j_go ?_; first
        | refine j_op0 rfl rfl rfl rfl ?_ | (refine j_kBin rfl ?_; first | refine j_in rfl rfl ⟨by omega, by omega⟩ rfl rfl ?_))
      | refine j_nil ?_
      | (refine r_go ?_; first | refine run_seq ?_ | refine run_region ?_ | refine run_block ?_)
      | refine seqQ_normal ?_)
  refine run_loop (fun z : Nat × List Tri => [(0, .os (some b) N cap), (1, .int (a : Int)), (2, .int (e : Int)), (3, .fn 64 []), (8, .int ((a + z.1 : Nat) : Int))])
    (fun z => grB b cap (P ++ z.2 ++ (A.drop z.1 ++ S)) :: (hT ++ F)) (fun z => z.2.Perm (A.take z.1) ∧ z.2.Pairwise Tri.le) (fun z => A.length - z.1) (1, A.take 1) ⟨rfl, rfl, rfl, rfl, si (by dsimp only; omega), trivial⟩
    (by dsimp only; rw [show P ++ A.take 1 ++ (A.drop 1 ++ S) = P ++ (A.take 1 ++ A.drop 1) ++ S from by simp only [List.append_assoc], List.take_append_drop]) ⟨List.Perm.refl _, by
      cases A with
      | nil => exact List.Pairwise.nil
      | cons x A => exact List.pairwise_singleton _ _⟩ (fun ⟨i, D⟩ ⟨hp, hs⟩ => ?_)
  dsimp only at hp hs ⊢
  have hl := hp.length_eq
  rw [List.length_take] at hl
  by_cases hi : i < A.length
  · obtain ⟨x, hx⟩ : ∃ x, x = A[i] := ⟨_, rfl⟩
    have blx : x.blk ∈ hT := by rw [hx]; exact hbl _ (List.getElem_mem hi)
    have blD : ∀ j (h : j < D.length), D[j].blk ∈ hT := fun j h => hbl _ (List.mem_of_mem_take (hp.mem_iff.1 (List.getElem_mem h)))
    have hD : D.length = i := by omega
    have e0 : P ++ D ++ (A.drop i ++ S) = P ++ insAt D.length x D ++ (A.drop (i + 1) ++ S) := by
      rw [insAt_all, List.drop_eq_getElem_cons hi, ← hx]; simp only [List.append_assoc, List.cons_append, List.nil_append]
    rw [e0]
    repeat' (first
      | (refine j_go ?_; first
        | refine j_op0 rfl rfl rfl rfl ?_)
      | refine j_nil ?_
      | (refine r_go ?_; first | refine run_seq ?_ | refine run_region ?_ | (refine (run_if rfl (fun hb => ?_) (fun hb => ?_)) <;> first | (exfalso; omega) | skip) | refine run_block ?_ | refine run_skip ?_)
      | refine seqQ_normal ?_)
    refine run_loop (fun q : Nat => [(0, .os (some b) N cap), (1, .int (a : Int)), (2, .int (e : Int)), (3, .fn 64 []), (8, .int ((a + i : Nat) : Int)), (9, .int ((a + q : Nat) : Int))]) (fun q => grB b cap (P ++ insAt q x D ++ (A.drop (i + 1) ++ S)) :: (hT ++ F))
      (fun q => q ≤ D.length ∧ ∀ h : q < D.length, Before x.g (D[q]).g) (fun q => q) D.length ⟨rfl, rfl, rfl, rfl, rfl, si (by omega), trivial⟩ rfl ⟨Nat.le_refl _, fun h => absurd h (Nat.lt_irrefl _)⟩ (fun q ⟨qD, qB⟩ => ?_)
    have fin : (∀ p : 0 < q, ¬ Before x.g (D[q - 1]'(by omega)).g) → (insAt q x D).Perm (A.take (i + 1)) ∧ (insAt q x D).Pairwise Tri.le := fun h => ⟨by
      rw [List.take_succ_eq_append_getElem hi, ← hx]
      exact (insAt_perm q x D).trans ((List.perm_append_singleton x D).symm.trans (hp.append_right [x])), insAt_asc tri_tot hs qD h (fun p => Tri.le_of (qB p))⟩
    by_cases hq : q = 0
    · subst hq
      have fin0 := fin (fun p => absurd p (Nat.lt_irrefl _))
      repeat' (first
      | (refine j_go ?_; first
        | refine j_op0 rfl rfl rfl rfl ?_ | refine j_off rfl rfl rfl ?_ | (refine j_kBin rfl ?_; first | refine j_in rfl rfl ⟨by omega, by omega⟩ rfl rfl ?_) | (refine j_kGuard rfl ?_; first | (refine (j_if rfl rfl rfl (fun hb => ?_) (fun hb => ?_)) <;> first | (exfalso; omega) | skip)))
      | refine j_nil ?_
      | (refine r_go ?_; first | refine run_seq ?_ | refine run_region ?_ | refine run_cond_f rfl ?_ | refine run_exit ?_ | refine run_regionD (by kernel_rfl) ?_)
      | refine seqQ_normal ?_ | refine seqQ_exit ?_ | refine blockQ_normal ?_ | refine blockQ_eq ?_ | refine loopQ_exit ?_)
      exact loopQ_next (i + 1, insAt 0 x D) fin0 (by dsimp only; omega) rfl ⟨rfl, rfl, rfl, rfl, nx _, trivial⟩
    · obtain ⟨q, rfl⟩ : ∃ r, q = r + 1 := ⟨q - 1, by omega⟩
      have hqD : q < D.length := by omega
      have ul : (P ++ D.take q).length = a + q := by rw [List.length_append, List.length_take]; omega
      have dl : (A.drop (i + 1)).length = A.length - (i + 1) := List.length_drop
      have ll : ((P ++ D.take q) ++ D[q] :: x :: (D.drop (q + 1) ++ (A.drop (i + 1) ++ S))).length = N := by rw [← dn_form P x _ hqD, List.length_append, List.length_append, insAt_len, List.length_append]; omega
      have e1 := at_U1 (U := P ++ D.take q) (x := D[q]) (y := x) (V := D.drop (q + 1) ++ (A.drop (i + 1) ++ S)) (j := a + q + 1) (by omega) (by rw [ll]; omega)
      have e0 := at_U (U := P ++ D.take q) (x := D[q]) (V := x :: (D.drop (q + 1) ++ (A.drop (i + 1) ++ S))) (j := a + q) (by omega) (by rw [ll]; omega)
      have e2 : (((P ++ D.take q) ++ D[q] :: x :: (D.drop (q + 1) ++ (A.drop (i + 1) ++ S))).set (a + q + 1) D[q]).set (a + q) x = P ++ insAt q x D ++ (A.drop (i + 1) ++ S) := by rw [← ul, swap_nb', up_form P x _ hqD]
      have c2 := c_compareGroups x.g (D[q]).g
      rw [dn_form P x _ hqD]
      repeat' (first
      | (refine j_go ?_; first
        | refine j_op0 rfl rfl rfl rfl ?_ | (refine j_kIdx rfl ?_; first | refine j_midx rfl rfl rfl rfl rfl (by first | omega | (simp only [List.length_append, List.length_cons, List.length_nil]; omega)) rfl rfl ?_) | (refine j_kGuard rfl ?_; first | (refine (j_if rfl rfl rfl (fun hb => ?_) (fun hb => ?_)) <;> first | (exfalso; omega) | skip)))
      | (refine r_go ?_; first | refine run_seq ?_ | refine run_regionD (by kernel_rfl) ?_))
      refine j_ldT 0 (a + q + 1) (L := (P ++ D.take q) ++ D[q] :: x :: (D.drop (q + 1) ++ (A.drop (i + 1) ++ S))) rfl rfl rfl rfl (by first | rfl | omega) (by rw [ll]; omega) e1 (fun _ _ => loadSt rfl rfl) rfl rfl ?_
      repeat' (first
      | (refine j_go ?_; first
        | refine j_op0 rfl rfl rfl rfl ?_ | (refine j_kIdx rfl ?_; first | refine j_midxz rfl rfl rfl rfl rfl (by first | omega | (simp only [List.length_append, List.length_cons, List.length_nil]; omega)) rfl rfl ?_) | (refine j_kBin rfl ?_; first | refine j_in rfl rfl ⟨by omega, by omega⟩ rfl rfl ?_)))
      refine j_ldT 0 (a + q) (L := (P ++ D.take q) ++ D[q] :: x :: (D.drop (q + 1) ++ (A.drop (i + 1) ++ S))) rfl rfl rfl rfl (by first | rfl | omega) (by rw [ll]; omega) e0 (fun _ _ => loadSt rfl rfl) rfl rfl ?_
      skip
      by_cases hbf : Before x.g (D[q]).g
      · rw [cmp3_l hbf] at c2
        refine j_kCall rfl rfl rfl rfl ?_
        refine jctq hT c2 (Clo.int _) (fun k hk => List.mem_cons_of_mem _ (List.mem_append_left _ hk)) (fz_cmp blx (blD _ hqD)) rfl rfl ?_
        repeat' (first
      | (refine j_go ?_; first
        | refine j_op0 rfl rfl rfl rfl ?_)
      | refine j_nil ?_
      | (refine j_goO ?_; first
        | refine j_op0O rfl rfl rfl rfl ?_ | (refine j_kIdxO rfl ?_; first | refine j_midxzO rfl rfl rfl rfl rfl (by first | omega | (simp only [List.length_append, List.length_cons, List.length_nil]; omega)) rfl rfl ?_) | (refine j_kBinO rfl ?_; first | refine j_inO rfl rfl ⟨by omega, by omega⟩ rfl rfl ?_))
      | (refine r_go ?_; first | refine run_seq ?_ | (refine (run_if rfl (fun hb => ?_) (fun hb => ?_)) <;> first | (exfalso; omega) | skip) | refine run_block ?_ | refine run_skip ?_ | refine run_opn 6 [⟨0, true, false, 0⟩, ⟨1, true, false, 0⟩, ⟨2, false, false, 0⟩, ⟨3, false, false, 0⟩, ⟨4, false, false, 0⟩, ⟨5, true, false, 0⟩, ⟨6, true, false, 0⟩, ⟨7, true, false, 0⟩, ⟨8, true, false, 0⟩, ⟨9, true, false, 0⟩, ⟨10, true, false, 0⟩, ⟨11, true, false, 0⟩, ⟨12, true, false, 0⟩, ⟨13, true, false, 0⟩, ⟨14, true, false, 0⟩, ⟨15, false, true, 0⟩, ⟨16, true, false, 0⟩, ⟨17, false, true, 0⟩] rfl rfl (by kernel_rfl) ?_)
      | refine seqQ_normal ?_)
        refine j_ldTO 0 (a + q) (L := (P ++ D.take q) ++ D[q] :: x :: (D.drop (q + 1) ++ (A.drop (i + 1) ++ S))) rfl rfl rfl rfl rfl (by first | rfl | omega) (by rw [ll]; omega) e0 (fun _ _ => loadSt rfl rfl) rfl rfl ?_
        repeat' (first
      | (refine j_goO ?_; first
        | refine j_op0O rfl rfl rfl rfl ?_ | (refine j_kIdxO rfl ?_; first | refine j_midxO rfl rfl rfl rfl rfl (by first | omega | (simp only [List.length_append, List.length_cons, List.length_nil]; omega)) rfl rfl ?_)))
        refine j_ldTO 0 (a + q + 1) (L := (P ++ D.take q) ++ D[q] :: x :: (D.drop (q + 1) ++ (A.drop (i + 1) ++ S))) rfl rfl rfl rfl rfl (by first | rfl | omega) (by rw [ll]; omega) e1 (fun _ _ => loadSt rfl rfl) rfl rfl ?_
        repeat' (first
      | (refine j_goO ?_; first
        | (refine j_kIdxO rfl ?_; first | refine j_midxO rfl rfl rfl rfl rfl (by first | omega | (simp only [List.length_append, List.length_cons, List.length_nil]; omega)) rfl rfl ?_)))
        refine j_storeEO 0 (a + q + 1) (g := Tri.cs) D[q] rfl rfl rfl rfl rfl rfl rfl rfl rfl rfl (fun _ => rfl) (by first | rfl | omega) (by rw [ll]; omega) (fun _ hk => nomatch hk) ?_
        repeat' (first
      | (refine j_goO ?_; first
        | (refine j_kIdxO rfl ?_; first | refine j_midxzO rfl rfl rfl rfl rfl (by first | omega | (simp only [List.length_append, List.length_cons, List.length_nil]; omega)) rfl rfl ?_)))
        refine j_storeEO 0 (a + q) (g := Tri.cs) x rfl rfl rfl rfl rfl rfl rfl rfl rfl rfl (fun _ => rfl) (by first | rfl | omega) (by rw [List.length_set, ll]; omega) (fun _ hk => nomatch hk) ?_
        rw [e2]
        repeat' (first
      | (refine j_go ?_; first
        | refine j_op0 rfl rfl rfl rfl ?_ | (refine j_kBin rfl ?_; first | refine j_in rfl rfl ⟨by omega, by omega⟩ rfl rfl ?_))
      | refine j_nil ?_
      | refine j_nilO ?_
      | (refine r_go ?_; first | refine run_region ?_)
      | refine seqQ_normal ?_ | refine blockQ_normal ?_)
        exact loopQ_next q ⟨by omega, fun _ => hbf⟩ (by omega) rfl ⟨rfl, rfl, rfl, rfl, rfl, si (by omega), trivial⟩
      · have h0 := cmp3_ge (q := Before (D[q]).g x.g).2 hbf
        have finq := fin (fun _ => hbf)
        rw [← dn_form P x _ hqD]
        generalize cmp3 (Before x.g (D[q]).g) (Before (D[q]).g x.g) = cc at c2 h0
        refine j_kCall rfl rfl rfl rfl ?_
        refine jctq hT c2 (Clo.int _) (fun k hk => List.mem_cons_of_mem _ (List.mem_append_left _ hk)) (fz_cmp blx (blD _ hqD)) rfl rfl ?_
        repeat' (first
      | (refine j_go ?_; first
        | refine j_op0 rfl rfl rfl rfl ?_ | (refine j_kBin rfl ?_; first | refine j_in rfl rfl ⟨by omega, by omega⟩ rfl rfl ?_))
      | refine j_nil ?_
      | (refine r_go ?_; first | refine run_region ?_ | (refine (run_if rfl (fun hb => ?_) (fun hb => ?_)) <;> first | (exfalso; omega) | skip) | refine run_exit ?_)
      | refine seqQ_normal ?_ | refine seqQ_exit ?_ | refine blockQ_normal ?_ | refine blockQ_eq ?_ | refine loopQ_exit ?_)
        exact loopQ_next (i + 1, insAt (q + 1) x D) finq (by dsimp only; omega) rfl ⟨rfl, rfl, rfl, rfl, nx _, trivial⟩
  · have e1 : A.drop i = [] := List.drop_eq_nil_of_le (by omega)
    have e2 : A.take i = A := List.take_of_length_le (by omega)
    rw [e2] at hp
    rw [e1, List.nil_append]
    repeat' (first
      | (refine j_go ?_; first
        | refine j_op0 rfl rfl rfl rfl ?_)
      | refine j_nil ?_
      | (refine r_go ?_; first | refine run_seq ?_ | refine run_region ?_ | (refine (run_if rfl (fun hb => ?_) (fun hb => ?_)) <;> first | (exfalso; omega) | skip) | refine run_exit ?_)
      | refine seqQ_normal ?_ | refine seqQ_exit ?_ | refine blockQ_eq ?_ | refine loopQ_exit ?_)
    exact endD_ret (h1 := _ :: hT) rfl .nil (Le.refl _) ⟨D, ⟨hp, hs⟩, rfl⟩ (.inr rfl)

/-! ### Blocks of so many groups -/
def SB (bs z : Nat) (D : List Tri) : Prop := ∀ q, q < z → ((D.drop (q * bs)).take bs).Pairwise Tri.le
theorem SB.zero (bs : Nat) (D : List Tri) : SB bs 0 D := fun q h => absurd h (Nat.not_lt_zero _)
theorem SB.snoc {bs z : Nat} {D M : List Tri} (h : SB bs z D) (hD : D.length = z * bs) (hM : M.Pairwise Tri.le) (hl : M.length ≤ bs) : SB bs (z + 1) (D ++ M) := fun q hq => by
  rcases Nat.lt_or_eq_of_le (Nat.le_of_lt_succ hq) with r | rfl
  · have h1 : (q + 1) * bs ≤ z * bs := Nat.mul_le_mul_right bs r
    rw [Nat.succ_mul] at h1
    rw [List.drop_append_of_le_length (by omega), List.take_append_of_le_length (by rw [List.length_drop]; omega)]
    exact h q r
  · rw [← hD, List.drop_left, List.take_of_length_le hl]; exact hM
theorem SB.all {bs z : Nat} {D : List Tri} (h : SB bs z D) (hD : D.length ≤ z * bs) : Blocks Tri.le bs D := fun q => by
  by_cases r : q < z
  · exact h q r
  · have h1 : z * bs ≤ q * bs := Nat.mul_le_mul_right bs (by omega)
    rw [List.drop_eq_nil_of_le (by omega), List.take_nil]; exact List.Pairwise.nil
theorem o_stable (b cap : Nat) (hT : Heap) (L : List Tri) (hL : L.length ≤ 100000000) (hbl : ∀ t ∈ L, t.blk ∈ hT) :
    Does Tryz.prog 88 [.os (some b) L.length cap, .int (L.length : Int), .fn 64 []] (grB b cap L :: hT)
      (fun _ h' => ∃ M, (M.Perm L ∧ M.Pairwise Tri.le) ∧ h' = grB b cap M :: hT) := by
  refine fn_of_runD tyOk ztOk mix Tryz.func88 rfl (by decide) Tryz.ntmps88 (fun w0 F => ?_)
  change Run _ _ _ _ _ (_ :: (hT ++ F))
  repeat' (first
      | (refine j_go ?_; first
        | refine j_op0 rfl rfl rfl rfl ?_)
      | refine j_nil ?_
      | (refine r_go ?_; first | refine run_seq ?_ | refine run_region ?_ | refine run_block ?_)
      | refine seqQ_normal ?_)
  refine run_loop (fun z : Nat × List Tri => [(0, .os (some b) L.length cap), (1, .int (L.length : Int)), (2, .fn 64 []), (6, .int 20), (7, .int ((z.1 * 20 : Nat) : Int)), (8, .int ((z.1 * 20 + 20 : Nat) : Int))])
    (fun z => grB b cap (z.2 ++ L.drop (z.1 * 20)) :: (hT ++ F)) (fun z => z.1 * 20 ≤ L.length ∧ z.2.Perm (L.take (z.1 * 20)) ∧ SB 20 z.1 z.2) (fun z => L.length - z.1 * 20) (0, []) ⟨rfl, rfl, rfl, rfl, rfl, rfl, trivial⟩ rfl ⟨Nat.zero_le _, List.Perm.refl _, SB.zero _ _⟩ (fun ⟨z, D⟩ ⟨zl, hp, hs⟩ => ?_)
  dsimp only at zl hp hs ⊢
  have hl := hp.length_eq
  rw [List.length_take] at hl
  have dl : (L.drop (z * 20)).length = L.length - z * 20 := List.length_drop
  by_cases hz : z * 20 + 20 ≤ L.length
  · have tl : ((L.drop (z * 20)).take 20).length = 20 := by rw [List.length_take]; omega
    have cI := o_insSort b cap L.length hT hL D ((L.drop (z * 20)).take 20) (L.drop (z * 20 + 20)) (z * 20) (z * 20 + 20) (fun t ht => hbl t (List.mem_of_mem_drop (List.mem_of_mem_take ht))) (by rw [tl, List.length_drop]; omega) (by omega) (by omega)
    have e1 : D ++ (L.drop (z * 20)).take 20 ++ L.drop (z * 20 + 20) = D ++ L.drop (z * 20) := by rw [← List.drop_drop, List.append_assoc, List.take_append_drop]
    rw [e1] at cI
    repeat' (first
      | (refine j_go ?_; first
        | refine j_op0 rfl rfl rfl rfl ?_)
      | refine j_nil ?_
      | (refine r_go ?_; first | refine run_seq ?_ | refine run_region ?_ | (refine (run_if rfl (fun hb => ?_) (fun hb => ?_)) <;> first | (exfalso; omega) | skip) | refine run_block ?_ | refine run_skip ?_)
      | refine seqQ_normal ?_)
    refine j_kCall rfl rfl rfl rfl ?_
    refine jcp F cI (List.Perm.refl _) (LeL.refl _) rfl rfl (fun v h1 hR => ?_)
    obtain ⟨M, ⟨p1, s1⟩, rfl⟩ := hR
    repeat' (first
      | (refine j_go ?_; first
        | refine j_op0 rfl rfl rfl rfl ?_ | (refine j_kBin rfl ?_; first | refine j_in rfl rfl ⟨by omega, by omega⟩ rfl rfl ?_))
      | refine j_nil ?_
      | (refine r_go ?_; first | refine run_seq ?_ | refine run_region ?_)
      | refine seqQ_normal ?_ | refine blockQ_normal ?_)
    have lM := p1.length_eq
    exact loopQ_next (z + 1, D ++ M) ⟨by dsimp only; omega, by
      dsimp only
      rw [show (z + 1) * 20 = z * 20 + 20 from by omega, List.take_add]
      exact hp.append p1, hs.snoc (by omega) s1 (by omega)⟩ (by dsimp only; omega) (by dsimp only; rw [show (z + 1) * 20 = z * 20 + 20 from by omega]; rfl) ⟨rfl, rfl, rfl, rfl, si (by dsimp only; omega), si (by dsimp only; omega), trivial⟩
  have cI := o_insSort b cap L.length hT hL D (L.drop (z * 20)) [] (z * 20) L.length (fun t ht => hbl t (List.mem_of_mem_drop ht)) (by rw [dl, List.length_nil]; omega) (by omega) (by omega)
  rw [List.append_nil] at cI
  repeat' (first
      | (refine j_go ?_; first
        | refine j_op0 rfl rfl rfl rfl ?_)
      | refine j_nil ?_
      | (refine r_go ?_; first | refine run_seq ?_ | refine run_region ?_ | (refine (run_if rfl (fun hb => ?_) (fun hb => ?_)) <;> first | (exfalso; omega) | skip) | refine run_exit ?_)
      | refine seqQ_normal ?_ | refine seqQ_exit ?_ | refine blockQ_eq ?_ | refine loopQ_exit ?_)
  refine j_kCall rfl rfl rfl rfl ?_
  refine jcp F cI (List.Perm.refl _) (LeL.refl _) rfl rfl (fun v h1 hR => ?_)
  obtain ⟨M, ⟨p1, s1⟩, rfl⟩ := hR
  rw [List.append_nil]
  have lM := p1.length_eq
  have pL : (D ++ M).Perm L := by
    have := hp.append p1
    rw [List.take_append_drop] at this; exact this
  have bL : Blocks Tri.le 20 (D ++ M) := (hs.snoc (by omega) s1 (by omega)).all (by rw [List.length_append]; omega)
  generalize D ++ M = L1 at pL bL
  repeat' (first
      | refine j_nil ?_
      | (refine r_go ?_; first | refine run_block ?_)
      | refine seqQ_normal ?_)
  refine run_loop (fun z : Nat × List Tri => [(0, .os (some b) L.length cap), (1, .int (L.length : Int)), (2, .fn 64 []), (6, .int (z.1 : Int))])
    (fun z => grB b cap z.2 :: (hT ++ F)) (fun z => 1 ≤ z.1 ∧ z.1 ≤ 200000000 ∧ z.2.Perm L ∧ Blocks Tri.le z.1 z.2) (fun z => L.length - z.1) (20, L1) ⟨rfl, rfl, rfl, rfl, trivial⟩ rfl ⟨by dsimp only; omega, by dsimp only; omega, pL, bL⟩ (fun ⟨bs, L2⟩ ⟨b1, b2, p2, s2⟩ => ?_)
  dsimp only at b1 b2 p2 s2 ⊢
  have l2 := p2.length_eq
  have hbl2 : ∀ t ∈ L2, t.blk ∈ hT := fun t ht => hbl t (p2.mem_iff.1 ht)
  by_cases hbs : bs < L.length
  case neg =>
    repeat' (first
      | (refine j_go ?_; first
        | refine j_op0 rfl rfl rfl rfl ?_)
      | refine j_nil ?_
      | (refine r_go ?_; first | refine run_seq ?_ | refine run_region ?_ | (refine (run_if rfl (fun hb => ?_) (fun hb => ?_)) <;> first | (exfalso; omega) | skip) | refine run_exit ?_)
      | refine seqQ_normal ?_ | refine seqQ_exit ?_ | refine blockQ_eq ?_ | refine loopQ_exit ?_)
    exact endD_ret (h1 := _ :: hT) rfl .nil (Le.refl _) ⟨L2, ⟨p2, s2.one (by omega)⟩, rfl⟩ (.inr rfl)
  obtain ⟨w, hw⟩ : ∃ w, w = 2 * bs := ⟨_, rfl⟩
  repeat' (first
      | (refine j_go ?_; first
        | refine j_op0 rfl rfl rfl rfl ?_ | (refine j_kBin rfl ?_; first | refine j_in rfl rfl ⟨by omega, by omega⟩ rfl rfl ?_))
      | refine j_nil ?_
      | (refine r_go ?_; first | refine run_seq ?_ | refine run_region ?_ | (refine (run_if rfl (fun hb => ?_) (fun hb => ?_)) <;> first | (exfalso; omega) | skip) | refine run_block ?_ | refine run_skip ?_)
      | refine seqQ_normal ?_)
  refine run_loop (fun x : Nat × Nat × List Tri => [(0, .os (some b) L.length cap), (1, .int (L.length : Int)), (2, .fn 64 []), (6, .int (bs : Int)), (7, .int (x.1 : Int)), (8, .int ((x.1 + w : Nat) : Int))])
    (fun x => grB b cap (x.2.2 ++ L2.drop x.1) :: (hT ++ F)) (fun x => x.1 = x.2.1 * w ∧ x.1 ≤ L.length ∧ x.2.2.Perm (L2.take x.1) ∧ SB w x.2.1 x.2.2) (fun x => L.length - x.1) (0, 0, []) ⟨rfl, rfl, rfl, rfl, rfl, si (by dsimp only; omega), trivial⟩ rfl ⟨by dsimp only; rw [Nat.zero_mul], Nat.zero_le _, List.Perm.refl _, SB.zero _ _⟩ (fun ⟨a, z, D⟩ ⟨az, zl, hp, hs⟩ => ?_)
  dsimp only at az zl hp hs ⊢
  have hl := hp.length_eq
  rw [List.length_take] at hl
  have dl : (L2.drop a).length = L2.length - a := List.length_drop
  have e1 : a = (2 * z) * bs := by rw [az, hw, ← Nat.mul_assoc, Nat.mul_comm z 2]
  have e2 : a + bs = (2 * z + 1) * bs := by rw [e1, Nat.add_mul, Nat.one_mul]
  have sA : ((L2.drop a).take bs).Pairwise Tri.le := by rw [e1]; exact s2 (2 * z)
  have sB : ((L2.drop (a + bs)).take bs).Pairwise Tri.le := by rw [e2]; exact s2 (2 * z + 1)
  have eD : L2.drop (a + bs) = (L2.drop a).drop bs := by rw [List.drop_drop]
  by_cases hz : a + w ≤ L.length
  · have tA : ((L2.drop a).take bs).length = bs := by rw [List.length_take]; omega
    have tB : ((L2.drop (a + bs)).take bs).length = bs := by rw [List.length_take, List.length_drop]; omega
    have cM := o_symMerge b cap L.length hT hL (bs + bs) D ((L2.drop a).take bs) ((L2.drop (a + bs)).take bs) (L2.drop (a + w)) a (a + bs) (a + w) (by omega) (by omega) (by omega) sA sB (fun t ht => hbl2 t (by
      rcases List.mem_append.1 ht with q | q
      · exact List.mem_of_mem_drop (List.mem_of_mem_take q)
      · exact List.mem_of_mem_drop (List.mem_of_mem_take q))) (by rw [tA, tB, List.length_drop]; omega) (by omega) (by omega) (by omega)
    have e3 : L2.drop (a + w) = (L2.drop (a + bs)).drop bs := by rw [List.drop_drop]; congr 1; omega
    have e4 : D ++ (L2.drop a).take bs ++ (L2.drop (a + bs)).take bs ++ L2.drop (a + w) = D ++ L2.drop a := by
      rw [e3, List.append_assoc, List.take_append_drop, eD, List.append_assoc, List.take_append_drop]
    rw [e4] at cM
    repeat' (first
      | (refine j_go ?_; first
        | refine j_op0 rfl rfl rfl rfl ?_ | (refine j_kBin rfl ?_; first | refine j_in rfl rfl ⟨by omega, by omega⟩ rfl rfl ?_))
      | refine j_nil ?_
      | (refine r_go ?_; first | refine run_seq ?_ | refine run_region ?_ | (refine (run_if rfl (fun hb => ?_) (fun hb => ?_)) <;> first | (exfalso; omega) | skip) | refine run_block ?_ | refine run_skip ?_)
      | refine seqQ_normal ?_)
    refine j_kCall rfl rfl rfl rfl ?_
    refine jcp F cM (List.Perm.refl _) (LeL.cons (Le.refl _) (LeL.cons (Le.refl _) (LeL.cons (le_eqi (by omega)) (LeL.refl _)))) rfl rfl (fun v h1 hR => ?_)
    obtain ⟨M, ⟨p1, s1⟩, rfl⟩ := hR
    have lM := p1.length_eq
    rw [List.length_append] at lM
    repeat' (first
      | (refine j_go ?_; first
        | refine j_op0 rfl rfl rfl rfl ?_ | (refine j_kBin rfl ?_; first | refine j_in rfl rfl ⟨by omega, by omega⟩ rfl rfl ?_))
      | refine j_nil ?_
      | (refine r_go ?_; first | refine run_seq ?_ | refine run_region ?_)
      | refine seqQ_normal ?_ | refine blockQ_normal ?_)
    exact loopQ_next (a + w, z + 1, D ++ M) ⟨by dsimp only; rw [Nat.succ_mul, az], hz, by
      dsimp only
      rw [List.take_add]
      refine hp.append (p1.trans ?_)
      rw [hw, show 2 * bs = bs + bs from by omega, List.take_add, ← eD], hs.snoc (by omega) s1 (by omega)⟩ (by dsimp only; omega) rfl ⟨rfl, rfl, rfl, rfl, rfl, si (by dsimp only; omega), trivial⟩
  have fin : ∀ M : List Tri, M.Perm (L2.drop a) → M.Pairwise Tri.le → (D ++ M).Perm L ∧ Blocks Tri.le w (D ++ M) := fun M p s => by
    have lM := p.length_eq
    refine ⟨?_, (hs.snoc (by omega) s (by omega)).all (by rw [List.length_append, Nat.succ_mul]; omega)⟩
    have := hp.append p
    rw [List.take_append_drop] at this; exact this.trans p2
  repeat' (first
      | (refine j_go ?_; first
        | refine j_op0 rfl rfl rfl rfl ?_ | (refine j_kBin rfl ?_; first | refine j_in rfl rfl ⟨by omega, by omega⟩ rfl rfl ?_))
      | refine j_nil ?_
      | (refine r_go ?_; first | refine run_seq ?_ | refine run_region ?_ | (refine (run_if rfl (fun hb => ?_) (fun hb => ?_)) <;> first | (exfalso; omega) | skip) | refine run_exit ?_ | refine run_skip ?_)
      | refine seqQ_normal ?_ | refine seqQ_exit ?_ | refine blockQ_normal ?_ | refine blockQ_eq ?_ | refine loopQ_exit ?_)
  · have hm : a + bs < L.length := by omega
    have tA : ((L2.drop a).take bs).length = bs := by rw [List.length_take]; omega
    have tB : (L2.drop (a + bs)).length = L2.length - (a + bs) := List.length_drop
    have sB' : (L2.drop (a + bs)).Pairwise Tri.le := by
      rw [List.take_of_length_le (by omega)] at sB; exact sB
    have cM := o_symMerge b cap L.length hT hL (L.length + 1) D ((L2.drop a).take bs) (L2.drop (a + bs)) [] a (a + bs) L.length (by omega) (by omega) (by omega) sA sB' (fun t ht => hbl2 t (by
      rcases List.mem_append.1 ht with q | q
      · exact List.mem_of_mem_drop (List.mem_of_mem_take q)
      · exact List.mem_of_mem_drop q)) (by rw [tA, tB, List.length_nil]; omega) (by omega) (by omega) (by omega)
    have e4 : D ++ (L2.drop a).take bs ++ L2.drop (a + bs) ++ [] = D ++ L2.drop a := by
      rw [List.append_nil, List.append_assoc, eD, List.take_append_drop]
    rw [e4] at cM
    refine j_kCall rfl rfl rfl rfl ?_
    refine jcp F cM (List.Perm.refl _) (LeL.cons (Le.refl _) (LeL.cons (Le.refl _) (LeL.cons (le_eqi (by omega)) (LeL.refl _)))) rfl rfl (fun v h1 hR => ?_)
    obtain ⟨M, ⟨p1, s1⟩, rfl⟩ := hR
    rw [List.append_nil]
    rw [eD, List.take_append_drop] at p1
    have := fin M p1 s1
    repeat' (first
      | (refine j_go ?_; first
        | refine j_op0 rfl rfl rfl rfl ?_ | (refine j_kBin rfl ?_; first | refine j_in rfl rfl ⟨by omega, by omega⟩ rfl rfl ?_))
      | refine j_nil ?_
      | (refine r_go ?_; first | refine run_region ?_)
      | refine seqQ_normal ?_ | refine blockQ_normal ?_)
    exact loopQ_next (w, D ++ M) ⟨by dsimp only; omega, by dsimp only; omega, this⟩ (by dsimp only; omega) rfl ⟨rfl, rfl, rfl, si (by dsimp only; omega), trivial⟩
  · have := fin (L2.drop a) (List.Perm.refl _) (by
      rw [List.take_of_length_le (by omega)] at sA; exact sA)
    exact loopQ_next (w, D ++ L2.drop a) ⟨by dsimp only; omega, by dsimp only; omega, this⟩ (by dsimp only; omega) rfl ⟨rfl, rfl, rfl, si (by dsimp only; omega), trivial⟩
end Go.Proofs.YtbhiaccbpbnbmaaGreat

/-
  Groups with equal ones brought together: there is but one such list in order. Plain; no condition.
-/
namespace Go.Proofs.YtbhiaccbpbnbmaaGreat
open Go.AI
set_option maxRecDepth 8000
set_option maxHeartbeats 1600000

theorem less_tri : ∀ {a b : List Int}, ¬ less a b → ¬ less b a → a = b
  | [], [], _, _ => rfl
  | [], _ :: _, h, _ => absurd h (by simp [less])
  | _ :: _, [], _, h => absurd h (by simp [less])
  | x :: a, y :: b, h, q => by
    simp only [less, not_or, not_and] at h q
    have e : x = y := by omega
    rw [e, less_tri (h.2 e) (q.2 e.symm)]
/-- Two groups are of one kind. -/
def SameK (a b : Group) : Prop := a.charge = b.charge ∧ a.contents = b.contents
theorem bef_tri {a b : Group} (h : ¬ Before a b) (q : ¬ Before b a) : SameK a b := by
  unfold Before at h q
  have e : a.charge = b.charge := by
    have h1 : ¬ a.charge < b.charge := fun r => h (.inl r)
    have h2 : ¬ b.charge < a.charge := fun r => q (.inl r)
    omega
  exact ⟨e, less_tri (fun r => h (.inr ⟨e, r⟩)) (fun r => q (.inr ⟨e.symm, r⟩))⟩
theorem bef_trans {a b c : Group} (h : Before a b) (q : Before b c) : Before a c := (bef_neg (b := c) h).elim id fun r => absurd r (bef_asym q)
theorem bef_irr {a b : Group} (h : Before a b) : ¬ SameK a b := fun q => by
  have e : ∀ c : Group, Before c b ↔ Before c a := fun c => by unfold Before; rw [q.1, q.2]
  have h2 := (e a).1 h
  exact bef_asym h2 h2
theorem bef_k {a b c : Group} (q : SameK a b) : (Before a c ↔ Before b c) ∧ (Before c a ↔ Before c b) := by
  unfold Before; rw [q.1, q.2]; exact ⟨Iff.rfl, Iff.rfl⟩

theorem sumF_ap2 {α : Type} (f : α → Int) : ∀ a b : List α, sumF f (a ++ b) = sumF f a + sumF f b
  | [], b => by simp [sumF]
  | x :: a, b => by simp only [List.cons_append, sumF]; rw [sumF_ap2 f a b]; omega
theorem sumF_perm {α : Type} (f : α → Int) {a b : List α} (h : a.Perm b) : sumF f a = sumF f b := by
  induction h with
  | nil => rfl
  | cons x _ ih => simp only [sumF]; rw [ih]
  | swap x y l => simp only [sumF]; omega
  | trans _ _ i1 i2 => exact i1.trans i2
open Classical in
/-- So many cells of a kind a group holds. -/
noncomputable def ofK (k : Group) (g : Group) : Int := if SameK k g then g.count else 0
noncomputable def sumK (k : Group) (l : List Group) : Int := sumF (ofK k) l
/-- Groups in order, each kind once, with all the cells of gs. -/
structure Agg (gs ks : List Group) : Prop where
  asc : ks.Pairwise Before
  pos : ∀ x ∈ ks, 0 < x.count
  eqv : ∀ k, sumK k ks = sumK k gs
  sum : sumF Group.count ks = sumF Group.count gs
theorem Agg.nil : Agg [] [] := ⟨List.Pairwise.nil, fun _ h => absurd h (by simp), fun _ => rfl, rfl⟩
theorem Agg.perm {gs gs' ks : List Group} (h : Agg gs ks) (p : gs.Perm gs') : Agg gs' ks := ⟨h.asc, h.pos, fun k => (h.eqv k).trans (sumF_perm _ p), h.sum.trans (sumF_perm _ p)⟩
theorem ofK_pos {k g : Group} (h : SameK k g) : ofK k g = g.count := if_pos h
theorem ofK_neg {k g : Group} (h : ¬ SameK k g) : ofK k g = 0 := if_neg h
theorem sumK_none {k : Group} : ∀ {l : List Group}, (∀ x ∈ l, ¬ SameK k x) → sumK k l = 0
  | [], _ => rfl
  | x :: l, h => by
    have := sumK_none (k := k) (l := l) (fun y hy => h y (List.mem_cons_of_mem _ hy))
    unfold sumK at this ⊢
    simp only [sumF]
    rw [this, ofK_neg (h x List.mem_cons_self)]; rfl
theorem sumK_pos {k : Group} : ∀ {l : List Group}, (∀ x ∈ l, 0 < x.count) → ∀ x ∈ l, SameK k x → 0 < sumK k l
  | [], _, _, hx, _ => absurd hx (by simp)
  | y :: l, h, x, hx, q => by
    have hn : 0 ≤ sumF (ofK k) l := sumF_nn _ _ fun z hz => by
      by_cases r : SameK k z
      · rw [ofK_pos r]; have := h z (List.mem_cons_of_mem _ hz); omega
      · rw [ofK_neg r]; omega
    have hy : 0 ≤ ofK k y := by
      by_cases r : SameK k y
      · rw [ofK_pos r]; have := h y List.mem_cons_self; omega
      · rw [ofK_neg r]; omega
    unfold sumK; simp only [sumF]
    rcases List.mem_cons.1 hx with rfl | hx
    · rw [ofK_pos q] at *; have := h x List.mem_cons_self; omega
    · have := sumK_pos (k := k) (l := l) (fun z hz => h z (List.mem_cons_of_mem _ hz)) x hx q
      unfold sumK at this; omega
theorem asc_uniq : ∀ {a b : List Group}, a.Pairwise Before → b.Pairwise Before → (∀ x ∈ a, 0 < x.count) → (∀ x ∈ b, 0 < x.count) → (∀ k, sumK k a = sumK k b) → a = b
  | [], [], _, _, _, _, _ => rfl
  | [], y :: b, _, _, _, pb, h => by
    have h1 := sumK_pos pb y List.mem_cons_self ⟨rfl, rfl⟩
    rw [← h y] at h1
    exact absurd h1 (by simp [sumK, sumF])
  | x :: a, [], _, _, pa, _, h => by
    have h1 := sumK_pos pa x List.mem_cons_self ⟨rfl, rfl⟩
    rw [h x] at h1
    exact absurd h1 (by simp [sumK, sumF])
  | x :: a, y :: b, sa, sb, pa, pb, h => by
    rw [List.pairwise_cons] at sa sb
    have hx : ¬ Before y x ∨ True := .inr trivial
    have f1 : ∀ {u : Group} {l : List Group}, ¬ (∃ z ∈ l, SameK u z) → sumK u l = 0 := fun hn => sumK_none fun z hz q => hn ⟨z, hz, q⟩
    have k1 : ¬ Before x y := fun q => by
      have h1 := sumK_pos pa x List.mem_cons_self ⟨rfl, rfl⟩
      rw [h x, sumK_none (fun z hz r => ?_)] at h1
      · exact absurd h1 (Int.lt_irrefl _)
      · rcases List.mem_cons.1 hz with rfl | hz
        · exact bef_irr q r
        · exact bef_irr (bef_trans q (sb.1 z hz)) r
    have k2 : ¬ Before y x := fun q => by
      have h1 := sumK_pos pb y List.mem_cons_self ⟨rfl, rfl⟩
      rw [← h y, sumK_none (fun z hz r => ?_)] at h1
      · exact absurd h1 (Int.lt_irrefl _)
      · rcases List.mem_cons.1 hz with rfl | hz
        · exact bef_irr q r
        · exact bef_irr (bef_trans q (sa.1 z hz)) r
    have hk := bef_tri k1 k2
    have e1 : sumK x (x :: a) = x.count := by
      have := sumK_none (k := x) (l := a) (fun z hz => bef_irr (sa.1 z hz))
      unfold sumK at this ⊢
      simp only [sumF]; rw [this, ofK_pos ⟨rfl, rfl⟩]; omega
    have e2 : sumK x (y :: b) = y.count := by
      have := sumK_none (k := x) (l := b) (fun z hz => bef_irr ((bef_k hk).1.2 (sb.1 z hz)))
      unfold sumK at this ⊢
      simp only [sumF]; rw [this, ofK_pos hk]; omega
    have e3 : x = y := by
      have := h x
      rw [e1, e2] at this
      obtain ⟨xc, xl, xn⟩ := x
      obtain ⟨yc, yl, yn⟩ := y
      obtain ⟨q1, q2⟩ := hk
      dsimp only at q1 q2 this
      rw [q1, q2, this]
    subst e3
    rw [asc_uniq sa.2 sb.2 (fun z hz => pa z (List.mem_cons_of_mem _ hz)) (fun z hz => pb z (List.mem_cons_of_mem _ hz)) fun k => by
      have := h k
      unfold sumK at this ⊢
      simp only [sumF] at this; omega]
theorem Agg.uniq {gs a b : List Group} (h : Agg gs a) (q : Agg gs b) : a = b := asc_uniq h.asc q.asc h.pos q.pos fun k => (h.eqv k).trans (q.eqv k).symm
/-- One more group: within a group of its kind, or by itself. -/
theorem Agg.put {gs U V : List Group} {g : Group} (h : Agg gs (U ++ V)) (hg : 0 < g.count) (h1 : ∀ x ∈ U, Before x g) (h2 : ∀ x ∈ V, Before g x) : Agg (gs ++ [g]) (U ++ g :: V) where
  asc := by
    have := List.pairwise_append.1 h.asc
    refine List.pairwise_append.2 ⟨this.1, List.pairwise_cons.2 ⟨h2, this.2.1⟩, fun a ha b hb => ?_⟩
    rcases List.mem_cons.1 hb with rfl | hb
    · exact h1 a ha
    · exact this.2.2 a ha b hb
  pos x hx := by
    rcases List.mem_append.1 hx with q | q
    · exact h.pos x (List.mem_append_left _ q)
    · rcases List.mem_cons.1 q with rfl | q
      · exact hg
      · exact h.pos x (List.mem_append_right _ q)
  eqv k := by
    have := h.eqv k
    unfold sumK at this ⊢
    rw [sumF_ap2] at this
    rw [sumF_ap2, sumF_ap2]; simp only [sumF]; omega
  sum := by
    have := h.sum
    rw [sumF_ap2] at this
    rw [sumF_ap2, sumF_ap2]; simp only [sumF]; omega
theorem Agg.add {gs U V : List Group} {u g u' : Group} (h : Agg gs (U ++ u :: V)) (hg : 0 < g.count) (hk : SameK u g) (hk' : SameK u u') (hc : u'.count = u.count + g.count) : Agg (gs ++ [g]) (U ++ u' :: V) where
  asc := by
    have := List.pairwise_append.1 h.asc
    have t2 := List.pairwise_cons.1 this.2.1
    refine List.pairwise_append.2 ⟨this.1, List.pairwise_cons.2 ⟨fun x hx => (bef_k hk').1.1 (t2.1 x hx), t2.2⟩, fun a ha b hb => ?_⟩
    rcases List.mem_cons.1 hb with rfl | hb
    · exact (bef_k hk').2.1 (this.2.2 a ha u List.mem_cons_self)
    · exact this.2.2 a ha b (List.mem_cons_of_mem _ hb)
  pos x hx := by
    rcases List.mem_append.1 hx with q | q
    · exact h.pos x (List.mem_append_left _ q)
    · rcases List.mem_cons.1 q with rfl | q
      · have := h.pos u (List.mem_append_right _ List.mem_cons_self); omega
      · exact h.pos x (List.mem_append_right _ (List.mem_cons_of_mem _ q))
  eqv k := by
    have := h.eqv k
    have e : ofK k u' = ofK k u + ofK k g := by
      by_cases q : SameK k u
      · rw [ofK_pos q, ofK_pos ⟨q.1.trans hk.1, q.2.trans hk.2⟩, ofK_pos ⟨q.1.trans hk'.1, q.2.trans hk'.2⟩, hc]
      · rw [ofK_neg q, ofK_neg (fun r => q ⟨r.1.trans hk.1.symm, r.2.trans hk.2.symm⟩), ofK_neg (fun r => q ⟨r.1.trans hk'.1.symm, r.2.trans hk'.2.symm⟩)]; rfl
    unfold sumK at this ⊢
    rw [sumF_ap2] at this
    rw [sumF_ap2, sumF_ap2]; simp only [sumF] at this ⊢; omega
  sum := by
    have := h.sum
    rw [sumF_ap2] at this
    rw [sumF_ap2, sumF_ap2]; simp only [sumF] at this ⊢; omega
theorem insP_bef {gs : List Group} {g : Group} {i : Nat} (h : i < gs.length) (hi : i < insP gs g) : Before gs[i] g := by
  unfold insP at hi
  have := List.not_of_lt_findIdx hi
  by_cases q : Before gs[i] g
  · exact q
  · rw [dec_t q] at this; simp at this
theorem insP_not {gs : List Group} {g : Group} (h : insP gs g < gs.length) : ¬ Before gs[insP gs g] g := by
  have := List.findIdx_getElem (xs := gs) (p := fun x => dec (¬ Before x g)) (w := h)
  exact dec_iff.1 this
theorem Agg.ins {gs ks : List Group} {g : Group} (h : Agg gs ks) (hg : 0 < g.count) (hc : g.charge ≤ 1) : Agg (gs ++ [g]) (insM ks g) := by
  have hp := insP_le ks g
  have h1 : ∀ x ∈ ks.take (insP ks g), Before x g := fun x hx => by
    obtain ⟨i, hi, rfl⟩ := List.getElem_of_mem hx
    rw [List.length_take] at hi
    rw [List.getElem_take]
    exact insP_bef (by omega) (by omega)
  by_cases q : insP ks g < ks.length
  · have e : ks = ks.take (insP ks g) ++ ks[insP ks g] :: ks.drop (insP ks g + 1) := by rw [← List.drop_eq_getElem_cons q, List.take_append_drop]
    have hn := insP_not q
    unfold insM
    rw [getD_get q]
    by_cases hk : SameK ks[insP ks g] g
    · have hk2 := hk
      unfold SameK at hk2
      rw [if_pos hk2, List.set_eq_take_append_cons_drop, if_pos q]
      have h0 : Agg gs (ks.take (insP ks g) ++ ks[insP ks g] :: ks.drop (insP ks g + 1)) := by rw [← e]; exact h
      exact h0.add hg hk ⟨rfl, rfl⟩ rfl
    · have hk2 := hk
      unfold SameK at hk2
      rw [if_neg hk2]
      have hb : Before g ks[insP ks g] := Classical.byContradiction fun r => hk (bef_tri hn r)
      have h0 := h
      rw [← List.take_append_drop (insP ks g) ks] at h0
      refine h0.put hg h1 fun x hx => ?_
      rw [List.drop_eq_getElem_cons q] at hx
      rcases List.mem_cons.1 hx with rfl | hx
      · exact hb
      · have s := h.asc
        rw [e] at s
        exact bef_trans hb ((List.pairwise_cons.1 (List.pairwise_append.1 s).2.1).1 x hx)
  · have e2 : ks.getD (insP ks g) ⟨5, [], 0⟩ = ⟨5, [], 0⟩ := by rw [List.getD_eq_getElem?_getD, List.getElem?_eq_none (by omega)]; rfl
    unfold insM
    rw [e2, if_neg (fun r => by have := r.1; dsimp only at this; omega)]
    have h0 := h
    rw [← List.take_append_drop (insP ks g) ks] at h0
    refine h0.put hg h1 fun x hx => ?_
    rw [List.drop_eq_nil_of_le (by omega)] at hx
    exact absurd hx (by simp)
end Go.Proofs.YtbhiaccbpbnbmaaGreat

/-
  A step of a colony: the reference lets a group act. No condition.
-/
namespace Go.Proofs.YtbhiaccbpbnbmaaGreat
open Go.AI
set_option maxRecDepth 8000
set_option maxHeartbeats 1600000

theorem c_l00Min (a b : Int) : Gives Tryz.prog 78 [.int a, .int b] (.int (min a b)) := by
  refine fn_of_run tyOk ztOk mix Tryz.func78 rfl (by decide) Tryz.ntmps78 (fun w0 h => ?_)
  repeat' (first
      | (refine j_go ?_; first
        | refine j_op0 rfl rfl rfl rfl ?_)
      | refine j_nil ?_
      | (refine r_go ?_; first | refine run_seq ?_ | refine run_region ?_ | (refine (run_if rfl (fun hb => ?_) (fun hb => ?_)) <;> first | (exfalso; omega) | skip) | refine run_ret ?_ | refine run_skip ?_)
      | refine seqQ_normal ?_ | refine seqQ_ret ?_)
  all_goals exact end1 rfl (List.Sublist.refl _) (ai (by omega)) (.inl rfl)
end Go.Proofs.YtbhiaccbpbnbmaaGreat

/-
  Colonies at rest: what the reference computes. No condition.
-/
namespace Go.Proofs.YtbhiaccbpbnbmaaGreat
open Go.AI
set_option maxRecDepth 8000
set_option maxHeartbeats 1600000

theorem memB2 {k : Nat × Blk} {i j : Nat} {b : Blk} (h : k ∈ [(i, b), (j, b)]) : k.2 = b := by
  rcases List.mem_cons.1 h with rfl | h
  · rfl
  · rw [List.mem_singleton] at h; rw [h]
end Go.Proofs.YtbhiaccbpbnbmaaGreat
