/-
  Groups in memory of the call's own, sorted. No condition.
-/
import Derived.Test.YtandldhceabdiaaZMT
import Derived.Test.YtandldhceabdiaaZMS
import Derived.Test.YtandldhceabdiaaZG0
import Derived.Test.YtandldhceabdiaaZE2
import Derived.Test.YtandldhceabdiaaZS7e
import Derived.Test.YtandldhceabdiaaZGr
namespace Go.Proofs.Ytandldhceabdiaa
open Go.AI
set_option maxRecDepth 8000
set_option maxHeartbeats 3200000

theorem o_insSort (b cap N : Nat) (hT : Heap) (hL : N ≤ 100000000) (P A S : List Tri) (a e : Nat) (hbl : ∀ t ∈ A, t.blk ∈ hT) (hN : P.length + A.length + S.length = N) (ha : a = P.length) (he : e = P.length + A.length) :
    Does Try.prog 232 [.os (some b) N cap, .int (a : Int), .int (e : Int), .fn 155 []] (grB b cap (P ++ A ++ S) :: hT)
      (fun _ h' => ∃ M, (M.Perm A ∧ M.Pairwise Tri.le) ∧ h' = grB b cap (P ++ M ++ S) :: hT) := by
  refine fn_of_runD tyOk ztOk mix Try.func232 rfl (by decide) Try.ntmps232 (fun w0 F => ?_)
  change Run _ _ _ _ _ (_ :: (hT ++ F))
  repeat' (first
      | (refine j_go ?_; first
        | refine j_op0 rfl rfl rfl rfl ?_ | (refine j_kBin rfl ?_; first | refine j_in rfl rfl ⟨by omega, by omega⟩ rfl rfl ?_))
      | refine j_nil ?_
      | (refine r_go ?_; first | refine run_seq ?_ | refine run_region ?_ | refine run_block ?_)
      | refine seqQ_normal ?_)
  refine run_loop (fun z : Nat × List Tri => [(0, .os (some b) N cap), (1, .int (a : Int)), (2, .int (e : Int)), (3, .fn 155 []), (8, .int ((a + z.1 : Nat) : Int))])
    (fun z => grB b cap (P ++ z.2 ++ (A.drop z.1 ++ S)) :: (hT ++ F)) (fun z => z.2.Perm (A.take z.1) ∧ z.2.Pairwise Tri.le) (fun z => A.length - z.1) (1, A.take 1) ⟨rfl, rfl, rfl, rfl, si (by dsimp only; omega), trivial⟩
    (by dsimp only; rw [show P ++ A.take 1 ++ (A.drop 1 ++ S) = P ++ (A.take 1 ++ A.drop 1) ++ S from by simp only [List.append_assoc], List.take_append_drop]) ⟨List.Perm.refl _, by
      cases A with
      | nil => exact List.Pairwise.nil
      | cons x A => exact List.pairwise_singleton _ _⟩ (fun ⟨i, D⟩ ⟨hp, hs⟩ => ?_)
  dsimp only at hp hs ⊢
  have hl := hp.length_eq
  rw [List.length_take] at hl
  by_cases hi : i < A.length
  · obtain ⟨x, hx⟩ : ∃ x, x = A[i] := ⟨_, rfl⟩
    have blx : x.blk ∈ hT := by rw [hx]; exact hbl _ (List.getElem_mem hi)
    have blD : ∀ j (h : j < D.length), D[j].blk ∈ hT := fun j h => hbl _ (List.mem_of_mem_take (hp.mem_iff.1 (List.getElem_mem h)))
    have hD : D.length = i := by omega
    have e0 : P ++ D ++ (A.drop i ++ S) = P ++ insAt D.length x D ++ (A.drop (i + 1) ++ S) := by
      rw [insAt_all, List.drop_eq_getElem_cons hi, ← hx]; simp only [List.append_assoc, List.cons_append, List.nil_append]
    rw [e0]
    repeat' (first
      | (refine j_go ?_; first
        | refine j_op0 rfl rfl rfl rfl ?_)
      | refine j_nil ?_
      | (refine r_go ?_; first | refine run_seq ?_ | refine run_region ?_ | (refine (run_if rfl (fun hb => ?_) (fun hb => ?_)) <;> first | (exfalso; omega) | skip) | refine run_block ?_ | refine run_skip ?_)
      | refine seqQ_normal ?_)
    refine run_loop (fun q : Nat => [(0, .os (some b) N cap), (1, .int (a : Int)), (2, .int (e : Int)), (3, .fn 155 []), (8, .int ((a + i : Nat) : Int)), (9, .int ((a + q : Nat) : Int))]) (fun q => grB b cap (P ++ insAt q x D ++ (A.drop (i + 1) ++ S)) :: (hT ++ F))
      (fun q => q ≤ D.length ∧ ∀ h : q < D.length, Before x.g (D[q]).g) (fun q => q) D.length ⟨rfl, rfl, rfl, rfl, rfl, si (by omega), trivial⟩ rfl ⟨Nat.le_refl _, fun h => absurd h (Nat.lt_irrefl _)⟩ (fun q ⟨qD, qB⟩ => ?_)
    have fin : (∀ p : 0 < q, ¬ Before x.g (D[q - 1]'(by omega)).g) → (insAt q x D).Perm (A.take (i + 1)) ∧ (insAt q x D).Pairwise Tri.le := fun h => ⟨by
      rw [List.take_succ_eq_append_getElem hi, ← hx]
      exact (insAt_perm q x D).trans ((List.perm_append_singleton x D).symm.trans (hp.append_right [x])), insAt_asc tri_tot hs qD h (fun p => Tri.le_of (qB p))⟩
    by_cases hq : q = 0
    · subst hq
      have fin0 := fin (fun p => absurd p (Nat.lt_irrefl _))
      repeat' (first
      | (refine j_go ?_; first
        | refine j_op0 rfl rfl rfl rfl ?_ | refine j_off rfl rfl rfl ?_ | (refine j_kBin rfl ?_; first | refine j_in rfl rfl ⟨by omega, by omega⟩ rfl rfl ?_) | (refine j_kGuard rfl ?_; first | (refine (j_if rfl rfl rfl (fun hb => ?_) (fun hb => ?_)) <;> first | (exfalso; omega) | skip)))
      | refine j_nil ?_
      | (refine r_go ?_; first | refine run_seq ?_ | refine run_region ?_ | refine run_cond_f rfl ?_ | refine run_exit ?_ | refine run_regionD (by kernel_rfl) ?_)
      | refine seqQ_normal ?_ | refine seqQ_exit ?_ | refine blockQ_normal ?_ | refine blockQ_eq ?_ | refine loopQ_exit ?_)
      exact loopQ_next (i + 1, insAt 0 x D) fin0 (by dsimp only; omega) rfl ⟨rfl, rfl, rfl, rfl, nx _, trivial⟩
    · obtain ⟨q, rfl⟩ : ∃ r, q = r + 1 := ⟨q - 1, by omega⟩
      have hqD : q < D.length := by omega
      have ul : (P ++ D.take q).length = a + q := by rw [List.length_append, List.length_take]; omega
      have dl : (A.drop (i + 1)).length = A.length - (i + 1) := List.length_drop
      have ll : ((P ++ D.take q) ++ D[q] :: x :: (D.drop (q + 1) ++ (A.drop (i + 1) ++ S))).length = N := by rw [← dn_form P x _ hqD, List.length_append, List.length_append, insAt_len, List.length_append]; omega
      have e1 := at_U1 (U := P ++ D.take q) (x := D[q]) (y := x) (V := D.drop (q + 1) ++ (A.drop (i + 1) ++ S)) (j := a + q + 1) (by omega) (by rw [ll]; omega)
      have e0 := at_U (U := P ++ D.take q) (x := D[q]) (V := x :: (D.drop (q + 1) ++ (A.drop (i + 1) ++ S))) (j := a + q) (by omega) (by rw [ll]; omega)
      have e2 : (((P ++ D.take q) ++ D[q] :: x :: (D.drop (q + 1) ++ (A.drop (i + 1) ++ S))).set (a + q + 1) D[q]).set (a + q) x = P ++ insAt q x D ++ (A.drop (i + 1) ++ S) := by rw [← ul, swap_nb', up_form P x _ hqD]
      have c2 := c_compareGroups x.g (D[q]).g
      rw [dn_form P x _ hqD]
      repeat' (first
      | (refine j_go ?_; first
        | refine j_op0 rfl rfl rfl rfl ?_ | (refine j_kIdx rfl ?_; first | refine j_midx rfl rfl rfl rfl rfl (by first | omega | (simp only [List.length_append, List.length_cons, List.length_nil]; omega)) rfl rfl ?_) | (refine j_kGuard rfl ?_; first | (refine (j_if rfl rfl rfl (fun hb => ?_) (fun hb => ?_)) <;> first | (exfalso; omega) | skip)))
      | (refine r_go ?_; first | refine run_seq ?_ | refine run_regionD (by kernel_rfl) ?_))
      refine j_ldT 0 (a + q + 1) (L := (P ++ D.take q) ++ D[q] :: x :: (D.drop (q + 1) ++ (A.drop (i + 1) ++ S))) rfl rfl rfl rfl (by first | rfl | omega) (by rw [ll]; omega) e1 (fun _ _ => loadSt rfl rfl) rfl rfl ?_
      repeat' (first
      | (refine j_go ?_; first
        | refine j_op0 rfl rfl rfl rfl ?_ | (refine j_kIdx rfl ?_; first | refine j_midxz rfl rfl rfl rfl rfl (by first | omega | (simp only [List.length_append, List.length_cons, List.length_nil]; omega)) rfl rfl ?_) | (refine j_kBin rfl ?_; first | refine j_in rfl rfl ⟨by omega, by omega⟩ rfl rfl ?_)))
      refine j_ldT 0 (a + q) (L := (P ++ D.take q) ++ D[q] :: x :: (D.drop (q + 1) ++ (A.drop (i + 1) ++ S))) rfl rfl rfl rfl (by first | rfl | omega) (by rw [ll]; omega) e0 (fun _ _ => loadSt rfl rfl) rfl rfl ?_
      skip
      by_cases hbf : Before x.g (D[q]).g
      · rw [cmp3_l hbf] at c2
        refine j_kCall rfl rfl rfl rfl ?_
        refine jctq hT c2 (Clo.int _) (fun k hk => List.mem_cons_of_mem _ (List.mem_append_left _ hk)) (fz_cmp blx (blD _ hqD)) rfl rfl ?_
        repeat' (first
      | (refine j_go ?_; first
        | refine j_op0 rfl rfl rfl rfl ?_)
      | refine j_nil ?_
      | (refine j_goO ?_; first
        | refine j_op0O rfl rfl rfl rfl ?_ | (refine j_kIdxO rfl ?_; first | refine j_midxzO rfl rfl rfl rfl rfl (by first | omega | (simp only [List.length_append, List.length_cons, List.length_nil]; omega)) rfl rfl ?_) | (refine j_kBinO rfl ?_; first | refine j_inO rfl rfl ⟨by omega, by omega⟩ rfl rfl ?_))
      | (refine r_go ?_; first | refine run_seq ?_ | (refine (run_if rfl (fun hb => ?_) (fun hb => ?_)) <;> first | (exfalso; omega) | skip) | refine run_block ?_ | refine run_skip ?_ | refine run_opn 6 [⟨0, true, false, 0⟩, ⟨1, true, false, 0⟩, ⟨2, false, false, 0⟩, ⟨3, false, false, 0⟩, ⟨4, false, false, 0⟩, ⟨5, true, false, 0⟩, ⟨6, true, false, 0⟩, ⟨7, true, false, 0⟩, ⟨8, true, false, 0⟩, ⟨9, true, false, 0⟩, ⟨10, true, false, 0⟩, ⟨11, true, false, 0⟩, ⟨12, true, false, 0⟩, ⟨13, true, false, 0⟩, ⟨14, true, false, 0⟩, ⟨15, false, true, 0⟩, ⟨16, true, false, 0⟩, ⟨17, false, true, 0⟩] rfl rfl (by kernel_rfl) ?_)
      | refine seqQ_normal ?_)
        refine j_ldTO 0 (a + q) (L := (P ++ D.take q) ++ D[q] :: x :: (D.drop (q + 1) ++ (A.drop (i + 1) ++ S))) rfl rfl rfl rfl rfl (by first | rfl | omega) (by rw [ll]; omega) e0 (fun _ _ => loadSt rfl rfl) rfl rfl ?_
        repeat' (first
      | (refine j_goO ?_; first
        | refine j_op0O rfl rfl rfl rfl ?_ | (refine j_kIdxO rfl ?_; first | refine j_midxO rfl rfl rfl rfl rfl (by first | omega | (simp only [List.length_append, List.length_cons, List.length_nil]; omega)) rfl rfl ?_)))
        refine j_ldTO 0 (a + q + 1) (L := (P ++ D.take q) ++ D[q] :: x :: (D.drop (q + 1) ++ (A.drop (i + 1) ++ S))) rfl rfl rfl rfl rfl (by first | rfl | omega) (by rw [ll]; omega) e1 (fun _ _ => loadSt rfl rfl) rfl rfl ?_
        repeat' (first
      | (refine j_goO ?_; first
        | (refine j_kIdxO rfl ?_; first | refine j_midxO rfl rfl rfl rfl rfl (by first | omega | (simp only [List.length_append, List.length_cons, List.length_nil]; omega)) rfl rfl ?_)))
        refine j_storeEO 0 (a + q + 1) (g := Tri.cs) D[q] rfl rfl rfl rfl rfl rfl rfl rfl rfl rfl (fun _ => rfl) (by first | rfl | omega) (by rw [ll]; omega) (fun _ hk => nomatch hk) ?_
        repeat' (first
      | (refine j_goO ?_; first
        | (refine j_kIdxO rfl ?_; first | refine j_midxzO rfl rfl rfl rfl rfl (by first | omega | (simp only [List.length_append, List.length_cons, List.length_nil]; omega)) rfl rfl ?_)))
        refine j_storeEO 0 (a + q) (g := Tri.cs) x rfl rfl rfl rfl rfl rfl rfl rfl rfl rfl (fun _ => rfl) (by first | rfl | omega) (by rw [List.length_set, ll]; omega) (fun _ hk => nomatch hk) ?_
        rw [e2]
        repeat' (first
      | (refine j_go ?_; first
        | refine j_op0 rfl rfl rfl rfl ?_ | (refine j_kBin rfl ?_; first | refine j_in rfl rfl ⟨by omega, by omega⟩ rfl rfl ?_))
      | refine j_nil ?_
      | refine j_nilO ?_
      | (refine r_go ?_; first | refine run_region ?_)
      | refine seqQ_normal ?_ | refine blockQ_normal ?_)
        exact loopQ_next q ⟨by omega, fun _ => hbf⟩ (by omega) rfl ⟨rfl, rfl, rfl, rfl, rfl, si (by omega), trivial⟩
      · have h0 := cmp3_ge (q := Before (D[q]).g x.g).2 hbf
        have finq := fin (fun _ => hbf)
        rw [← dn_form P x _ hqD]
        generalize cmp3 (Before x.g (D[q]).g) (Before (D[q]).g x.g) = cc at c2 h0
        refine j_kCall rfl rfl rfl rfl ?_
        refine jctq hT c2 (Clo.int _) (fun k hk => List.mem_cons_of_mem _ (List.mem_append_left _ hk)) (fz_cmp blx (blD _ hqD)) rfl rfl ?_
        repeat' (first
      | (refine j_go ?_; first
        | refine j_op0 rfl rfl rfl rfl ?_ | (refine j_kBin rfl ?_; first | refine j_in rfl rfl ⟨by omega, by omega⟩ rfl rfl ?_))
      | refine j_nil ?_
      | (refine r_go ?_; first | refine run_region ?_ | (refine (run_if rfl (fun hb => ?_) (fun hb => ?_)) <;> first | (exfalso; omega) | skip) | refine run_exit ?_)
      | refine seqQ_normal ?_ | refine seqQ_exit ?_ | refine blockQ_normal ?_ | refine blockQ_eq ?_ | refine loopQ_exit ?_)
        exact loopQ_next (i + 1, insAt (q + 1) x D) finq (by dsimp only; omega) rfl ⟨rfl, rfl, rfl, rfl, nx _, trivial⟩
  · have e1 : A.drop i = [] := List.drop_eq_nil_of_le (by omega)
    have e2 : A.take i = A := List.take_of_length_le (by omega)
    rw [e2] at hp
    rw [e1, List.nil_append]
    repeat' (first
      | (refine j_go ?_; first
        | refine j_op0 rfl rfl rfl rfl ?_)
      | refine j_nil ?_
      | (refine r_go ?_; first | refine run_seq ?_ | refine run_region ?_ | (refine (run_if rfl (fun hb => ?_) (fun hb => ?_)) <;> first | (exfalso; omega) | skip) | refine run_exit ?_)
      | refine seqQ_normal ?_ | refine seqQ_exit ?_ | refine blockQ_eq ?_ | refine loopQ_exit ?_)
    exact endD_ret (h1 := _ :: hT) rfl .nil (Le.refl _) ⟨D, ⟨hp, hs⟩, rfl⟩ (.inr rfl)

/-! ### Blocks of so many groups -/
def SB (bs z : Nat) (D : List Tri) : Prop := ∀ q, q < z → ((D.drop (q * bs)).take bs).Pairwise Tri.le
theorem SB.zero (bs : Nat) (D : List Tri) : SB bs 0 D := fun q h => absurd h (Nat.not_lt_zero _)
theorem SB.snoc {bs z : Nat} {D M : List Tri} (h : SB bs z D) (hD : D.length = z * bs) (hM : M.Pairwise Tri.le) (hl : M.length ≤ bs) : SB bs (z + 1) (D ++ M) := fun q hq => by
  rcases Nat.lt_or_eq_of_le (Nat.le_of_lt_succ hq) with r | rfl
  · have h1 : (q + 1) * bs ≤ z * bs := Nat.mul_le_mul_right bs r
    rw [Nat.succ_mul] at h1
    rw [List.drop_append_of_le_length (by omega), List.take_append_of_le_length (by rw [List.length_drop]; omega)]
    exact h q r
  · rw [← hD, List.drop_left, List.take_of_length_le hl]; exact hM
theorem SB.all {bs z : Nat} {D : List Tri} (h : SB bs z D) (hD : D.length ≤ z * bs) : Blocks Tri.le bs D := fun q => by
  by_cases r : q < z
  · exact h q r
  · have h1 : z * bs ≤ q * bs := Nat.mul_le_mul_right bs (by omega)
    rw [List.drop_eq_nil_of_le (by omega), List.take_nil]; exact List.Pairwise.nil
theorem o_stable (b cap : Nat) (hT : Heap) (L : List Tri) (hL : L.length ≤ 100000000) (hbl : ∀ t ∈ L, t.blk ∈ hT) :
    Does Try.prog 195 [.os (some b) L.length cap, .int (L.length : Int), .fn 155 []] (grB b cap L :: hT)
      (fun _ h' => ∃ M, (M.Perm L ∧ M.Pairwise Tri.le) ∧ h' = grB b cap M :: hT) := by
  refine fn_of_runD tyOk ztOk mix Try.func195 rfl (by decide) Try.ntmps195 (fun w0 F => ?_)
  change Run _ _ _ _ _ (_ :: (hT ++ F))
  repeat' (first
      | (refine j_go ?_; first
        | refine j_op0 rfl rfl rfl rfl ?_)
      | refine j_nil ?_
      | (refine r_go ?_; first | refine run_seq ?_ | refine run_region ?_ | refine run_block ?_)
      | refine seqQ_normal ?_)
  refine run_loop (fun z : Nat × List Tri => [(0, .os (some b) L.length cap), (1, .int (L.length : Int)), (2, .fn 155 []), (6, .int 20), (7, .int ((z.1 * 20 : Nat) : Int)), (8, .int ((z.1 * 20 + 20 : Nat) : Int))])
    (fun z => grB b cap (z.2 ++ L.drop (z.1 * 20)) :: (hT ++ F)) (fun z => z.1 * 20 ≤ L.length ∧ z.2.Perm (L.take (z.1 * 20)) ∧ SB 20 z.1 z.2) (fun z => L.length - z.1 * 20) (0, []) ⟨rfl, rfl, rfl, rfl, rfl, rfl, trivial⟩ rfl ⟨Nat.zero_le _, List.Perm.refl _, SB.zero _ _⟩ (fun ⟨z, D⟩ ⟨zl, hp, hs⟩ => ?_)
  dsimp only at zl hp hs ⊢
  have hl := hp.length_eq
  rw [List.length_take] at hl
  have dl : (L.drop (z * 20)).length = L.length - z * 20 := List.length_drop
  by_cases hz : z * 20 + 20 ≤ L.length
  · have tl : ((L.drop (z * 20)).take 20).length = 20 := by rw [List.length_take]; omega
    have cI := o_insSort b cap L.length hT hL D ((L.drop (z * 20)).take 20) (L.drop (z * 20 + 20)) (z * 20) (z * 20 + 20) (fun t ht => hbl t (List.mem_of_mem_drop (List.mem_of_mem_take ht))) (by rw [tl, List.length_drop]; omega) (by omega) (by omega)
    have e1 : D ++ (L.drop (z * 20)).take 20 ++ L.drop (z * 20 + 20) = D ++ L.drop (z * 20) := by rw [← List.drop_drop, List.append_assoc, List.take_append_drop]
    rw [e1] at cI
    repeat' (first
      | (refine j_go ?_; first
        | refine j_op0 rfl rfl rfl rfl ?_)
      | refine j_nil ?_
      | (refine r_go ?_; first | refine run_seq ?_ | refine run_region ?_ | (refine (run_if rfl (fun hb => ?_) (fun hb => ?_)) <;> first | (exfalso; omega) | skip) | refine run_block ?_ | refine run_skip ?_)
      | refine seqQ_normal ?_)
    refine j_kCall rfl rfl rfl rfl ?_
    refine jcp F cI (List.Perm.refl _) (LeL.refl _) rfl rfl (fun v h1 hR => ?_)
    obtain ⟨M, ⟨p1, s1⟩, rfl⟩ := hR
    repeat' (first
      | (refine j_go ?_; first
        | refine j_op0 rfl rfl rfl rfl ?_ | (refine j_kBin rfl ?_; first | refine j_in rfl rfl ⟨by omega, by omega⟩ rfl rfl ?_))
      | refine j_nil ?_
      | (refine r_go ?_; first | refine run_seq ?_ | refine run_region ?_)
      | refine seqQ_normal ?_ | refine blockQ_normal ?_)
    have lM := p1.length_eq
    exact loopQ_next (z + 1, D ++ M) ⟨by dsimp only; omega, by
      dsimp only
      rw [show (z + 1) * 20 = z * 20 + 20 from by omega, List.take_add]
      exact hp.append p1, hs.snoc (by omega) s1 (by omega)⟩ (by dsimp only; omega) (by dsimp only; rw [show (z + 1) * 20 = z * 20 + 20 from by omega]; rfl) ⟨rfl, rfl, rfl, rfl, si (by dsimp only; omega), si (by dsimp only; omega), trivial⟩
  have cI := o_insSort b cap L.length hT hL D (L.drop (z * 20)) [] (z * 20) L.length (fun t ht => hbl t (List.mem_of_mem_drop ht)) (by rw [dl, List.length_nil]; omega) (by omega) (by omega)
  rw [List.append_nil] at cI
  repeat' (first
      | (refine j_go ?_; first
        | refine j_op0 rfl rfl rfl rfl ?_)
      | refine j_nil ?_
      | (refine r_go ?_; first | refine run_seq ?_ | refine run_region ?_ | (refine (run_if rfl (fun hb => ?_) (fun hb => ?_)) <;> first | (exfalso; omega) | skip) | refine run_exit ?_)
      | refine seqQ_normal ?_ | refine seqQ_exit ?_ | refine blockQ_eq ?_ | refine loopQ_exit ?_)
  refine j_kCall rfl rfl rfl rfl ?_
  refine jcp F cI (List.Perm.refl _) (LeL.refl _) rfl rfl (fun v h1 hR => ?_)
  obtain ⟨M, ⟨p1, s1⟩, rfl⟩ := hR
  rw [List.append_nil]
  have lM := p1.length_eq
  have pL : (D ++ M).Perm L := by
    have := hp.append p1
    rw [List.take_append_drop] at this; exact this
  have bL : Blocks Tri.le 20 (D ++ M) := (hs.snoc (by omega) s1 (by omega)).all (by rw [List.length_append]; omega)
  generalize D ++ M = L1 at pL bL
  repeat' (first
      | refine j_nil ?_
      | (refine r_go ?_; first | refine run_block ?_)
      | refine seqQ_normal ?_)
  refine run_loop (fun z : Nat × List Tri => [(0, .os (some b) L.length cap), (1, .int (L.length : Int)), (2, .fn 155 []), (6, .int (z.1 : Int))])
    (fun z => grB b cap z.2 :: (hT ++ F)) (fun z => 1 ≤ z.1 ∧ z.1 ≤ 200000000 ∧ z.2.Perm L ∧ Blocks Tri.le z.1 z.2) (fun z => L.length - z.1) (20, L1) ⟨rfl, rfl, rfl, rfl, trivial⟩ rfl ⟨by dsimp only; omega, by dsimp only; omega, pL, bL⟩ (fun ⟨bs, L2⟩ ⟨b1, b2, p2, s2⟩ => ?_)
  dsimp only at b1 b2 p2 s2 ⊢
  have l2 := p2.length_eq
  have hbl2 : ∀ t ∈ L2, t.blk ∈ hT := fun t ht => hbl t (p2.mem_iff.1 ht)
  by_cases hbs : bs < L.length
  case neg =>
    repeat' (first
      | (refine j_go ?_; first
        | refine j_op0 rfl rfl rfl rfl ?_)
      | refine j_nil ?_
      | (refine r_go ?_; first | refine run_seq ?_ | refine run_region ?_ | (refine (run_if rfl (fun hb => ?_) (fun hb => ?_)) <;> first | (exfalso; omega) | skip) | refine run_exit ?_)
      | refine seqQ_normal ?_ | refine seqQ_exit ?_ | refine blockQ_eq ?_ | refine loopQ_exit ?_)
    exact endD_ret (h1 := _ :: hT) rfl .nil (Le.refl _) ⟨L2, ⟨p2, s2.one (by omega)⟩, rfl⟩ (.inr rfl)
  obtain ⟨w, hw⟩ : ∃ w, w = 2 * bs := ⟨_, rfl⟩
  repeat' (first
      | (refine j_go ?_; first
        | refine j_op0 rfl rfl rfl rfl ?_ | (refine j_kBin rfl ?_; first | refine j_in rfl rfl ⟨by omega, by omega⟩ rfl rfl ?_))
      | refine j_nil ?_
      | (refine r_go ?_; first | refine run_seq ?_ | refine run_region ?_ | (refine (run_if rfl (fun hb => ?_) (fun hb => ?_)) <;> first | (exfalso; omega) | skip) | refine run_block ?_ | refine run_skip ?_)
      | refine seqQ_normal ?_)
  refine run_loop (fun x : Nat × Nat × List Tri => [(0, .os (some b) L.length cap), (1, .int (L.length : Int)), (2, .fn 155 []), (6, .int (bs : Int)), (7, .int (x.1 : Int)), (8, .int ((x.1 + w : Nat) : Int))])
    (fun x => grB b cap (x.2.2 ++ L2.drop x.1) :: (hT ++ F)) (fun x => x.1 = x.2.1 * w ∧ x.1 ≤ L.length ∧ x.2.2.Perm (L2.take x.1) ∧ SB w x.2.1 x.2.2) (fun x => L.length - x.1) (0, 0, []) ⟨rfl, rfl, rfl, rfl, rfl, si (by dsimp only; omega), trivial⟩ rfl ⟨by dsimp only; rw [Nat.zero_mul], Nat.zero_le _, List.Perm.refl _, SB.zero _ _⟩ (fun ⟨a, z, D⟩ ⟨az, zl, hp, hs⟩ => ?_)
  dsimp only at az zl hp hs ⊢
  have hl := hp.length_eq
  rw [List.length_take] at hl
  have dl : (L2.drop a).length = L2.length - a := List.length_drop
  have e1 : a = (2 * z) * bs := by rw [az, hw, ← Nat.mul_assoc, Nat.mul_comm z 2]
  have e2 : a + bs = (2 * z + 1) * bs := by rw [e1, Nat.add_mul, Nat.one_mul]
  have sA : ((L2.drop a).take bs).Pairwise Tri.le := by rw [e1]; exact s2 (2 * z)
  have sB : ((L2.drop (a + bs)).take bs).Pairwise Tri.le := by rw [e2]; exact s2 (2 * z + 1)
  have eD : L2.drop (a + bs) = (L2.drop a).drop bs := by rw [List.drop_drop]
  by_cases hz : a + w ≤ L.length
  · have tA : ((L2.drop a).take bs).length = bs := by rw [List.length_take]; omega
    have tB : ((L2.drop (a + bs)).take bs).length = bs := by rw [List.length_take, List.length_drop]; omega
    have cM := o_symMerge b cap L.length hT hL (bs + bs) D ((L2.drop a).take bs) ((L2.drop (a + bs)).take bs) (L2.drop (a + w)) a (a + bs) (a + w) (by omega) (by omega) (by omega) sA sB (fun t ht => hbl2 t (by
      rcases List.mem_append.1 ht with q | q
      · exact List.mem_of_mem_drop (List.mem_of_mem_take q)
      · exact List.mem_of_mem_drop (List.mem_of_mem_take q))) (by rw [tA, tB, List.length_drop]; omega) (by omega) (by omega) (by omega)
    have e3 : L2.drop (a + w) = (L2.drop (a + bs)).drop bs := by rw [List.drop_drop]; congr 1; omega
    have e4 : D ++ (L2.drop a).take bs ++ (L2.drop (a + bs)).take bs ++ L2.drop (a + w) = D ++ L2.drop a := by
      rw [e3, List.append_assoc, List.take_append_drop, eD, List.append_assoc, List.take_append_drop]
    rw [e4] at cM
    repeat' (first
      | (refine j_go ?_; first
        | refine j_op0 rfl rfl rfl rfl ?_ | (refine j_kBin rfl ?_; first | refine j_in rfl rfl ⟨by omega, by omega⟩ rfl rfl ?_))
      | refine j_nil ?_
      | (refine r_go ?_; first | refine run_seq ?_ | refine run_region ?_ | (refine (run_if rfl (fun hb => ?_) (fun hb => ?_)) <;> first | (exfalso; omega) | skip) | refine run_block ?_ | refine run_skip ?_)
      | refine seqQ_normal ?_)
    refine j_kCall rfl rfl rfl rfl ?_
    refine jcp F cM (List.Perm.refl _) (LeL.cons (Le.refl _) (LeL.cons (Le.refl _) (LeL.cons (le_eqi (by omega)) (LeL.refl _)))) rfl rfl (fun v h1 hR => ?_)
    obtain ⟨M, ⟨p1, s1⟩, rfl⟩ := hR
    have lM := p1.length_eq
    rw [List.length_append] at lM
    repeat' (first
      | (refine j_go ?_; first
        | refine j_op0 rfl rfl rfl rfl ?_ | (refine j_kBin rfl ?_; first | refine j_in rfl rfl ⟨by omega, by omega⟩ rfl rfl ?_))
      | refine j_nil ?_
      | (refine r_go ?_; first | refine run_seq ?_ | refine run_region ?_)
      | refine seqQ_normal ?_ | refine blockQ_normal ?_)
    exact loopQ_next (a + w, z + 1, D ++ M) ⟨by dsimp only; rw [Nat.succ_mul, az], hz, by
      dsimp only
      rw [List.take_add]
      refine hp.append (p1.trans ?_)
      rw [hw, show 2 * bs = bs + bs from by omega, List.take_add, ← eD], hs.snoc (by omega) s1 (by omega)⟩ (by dsimp only; omega) rfl ⟨rfl, rfl, rfl, rfl, rfl, si (by dsimp only; omega), trivial⟩
  have fin : ∀ M : List Tri, M.Perm (L2.drop a) → M.Pairwise Tri.le → (D ++ M).Perm L ∧ Blocks Tri.le w (D ++ M) := fun M p s => by
    have lM := p.length_eq
    refine ⟨?_, (hs.snoc (by omega) s (by omega)).all (by rw [List.length_append, Nat.succ_mul]; omega)⟩
    have := hp.append p
    rw [List.take_append_drop] at this; exact this.trans p2
  repeat' (first
      | (refine j_go ?_; first
        | refine j_op0 rfl rfl rfl rfl ?_ | (refine j_kBin rfl ?_; first | refine j_in rfl rfl ⟨by omega, by omega⟩ rfl rfl ?_))
      | refine j_nil ?_
      | (refine r_go ?_; first | refine run_seq ?_ | refine run_region ?_ | (refine (run_if rfl (fun hb => ?_) (fun hb => ?_)) <;> first | (exfalso; omega) | skip) | refine run_exit ?_ | refine run_skip ?_)
      | refine seqQ_normal ?_ | refine seqQ_exit ?_ | refine blockQ_normal ?_ | refine blockQ_eq ?_ | refine loopQ_exit ?_)
  · have hm : a + bs < L.length := by omega
    have tA : ((L2.drop a).take bs).length = bs := by rw [List.length_take]; omega
    have tB : (L2.drop (a + bs)).length = L2.length - (a + bs) := List.length_drop
    have sB' : (L2.drop (a + bs)).Pairwise Tri.le := by
      rw [List.take_of_length_le (by omega)] at sB; exact sB
    have cM := o_symMerge b cap L.length hT hL (L.length + 1) D ((L2.drop a).take bs) (L2.drop (a + bs)) [] a (a + bs) L.length (by omega) (by omega) (by omega) sA sB' (fun t ht => hbl2 t (by
      rcases List.mem_append.1 ht with q | q
      · exact List.mem_of_mem_drop (List.mem_of_mem_take q)
      · exact List.mem_of_mem_drop q)) (by rw [tA, tB, List.length_nil]; omega) (by omega) (by omega) (by omega)
    have e4 : D ++ (L2.drop a).take bs ++ L2.drop (a + bs) ++ [] = D ++ L2.drop a := by
      rw [List.append_nil, List.append_assoc, eD, List.take_append_drop]
    rw [e4] at cM
    refine j_kCall rfl rfl rfl rfl ?_
    refine jcp F cM (List.Perm.refl _) (LeL.cons (Le.refl _) (LeL.cons (Le.refl _) (LeL.cons (le_eqi (by omega)) (LeL.refl _)))) rfl rfl (fun v h1 hR => ?_)
    obtain ⟨M, ⟨p1, s1⟩, rfl⟩ := hR
    rw [List.append_nil]
    rw [eD, List.take_append_drop] at p1
    have := fin M p1 s1
    repeat' (first
      | (refine j_go ?_; first
        | refine j_op0 rfl rfl rfl rfl ?_ | (refine j_kBin rfl ?_; first | refine j_in rfl rfl ⟨by omega, by omega⟩ rfl rfl ?_))
      | refine j_nil ?_
      | (refine r_go ?_; first | refine run_region ?_)
      | refine seqQ_normal ?_ | refine blockQ_normal ?_)
    exact loopQ_next (w, D ++ M) ⟨by dsimp only; omega, by dsimp only; omega, this⟩ (by dsimp only; omega) rfl ⟨rfl, rfl, rfl, si (by dsimp only; omega), trivial⟩
  · have := fin (L2.drop a) (List.Perm.refl _) (by
      rw [List.take_of_length_le (by omega)] at sA; exact sA)
    exact loopQ_next (w, D ++ L2.drop a) ⟨by dsimp only; omega, by dsimp only; omega, this⟩ (by dsimp only; omega) rfl ⟨rfl, rfl, rfl, si (by dsimp only; omega), trivial⟩
end Go.Proofs.Ytandldhceabdiaa

/-
  Colonies: what CountCells and CountObject of the reference and of the program compute. No condition.
-/
namespace Go.Proofs.Ytandldhceabdiaa
open Go.AI
set_option maxRecDepth 8000
set_option maxHeartbeats 1600000



theorem Colony.Ok.cnt {o : Int} {c : Colony} (h : c.Ok o) : ∀ k, 0 ≤ sumF Group.count (c.groups.take k) ∧ sumF Group.count (c.groups.take k) ≤ 5000 := fun k =>
  ⟨sumF_nn _ _ (fun x hx => h.nn x (List.mem_of_mem_take hx)), Int.le_trans (sumF_pre _ _ _ h.nn) h.2.2.2⟩





theorem occ_bnd (x : Int) (l : List Int) : 0 ≤ occ x l ∧ occ x l ≤ l.length := by
  have := occ_take x l l.length (Nat.le_refl _)
  rw [List.take_length] at this; exact this
theorem Colony.Ok.oc {o : Int} {c : Colony} (h : c.Ok o) (x : Int) : (∀ g ∈ c.groups, 0 ≤ g.count * occ x g.contents ∧ g.count * occ x g.contents ≤ 300000) := fun g hg => by
  obtain ⟨i, hi, rfl⟩ := List.getElem_of_mem hg
  have h1 := h.upto hi
  have h2 := (h.2.2.1 i hi).1.2.1.2
  have h3 := occ_bnd x c.groups[i].contents
  have h4 : 0 ≤ c.groups[i].count * occ x c.groups[i].contents := Int.mul_nonneg (by omega) h3.1
  have h5 : c.groups[i].count * occ x c.groups[i].contents ≤ 5000 * 60 := Int.mul_le_mul (by omega) (by omega) h3.1 (by omega)
  omega
def Division.has (d : Division) (x : Int) : Prop := 0 ≤ x ∧ x ≤ d.objects - 1

open Classical in
noncomputable def cdO (p q r : Prop) : Int := if p then (if q then (if r then 0 else 2) else 2) else 1
end Go.Proofs.Ytandldhceabdiaa

/-
  The data of the laws' theme 2, as structures, and the helpers of the laws over them: sizes, copies, comparisons. No condition but that the sizes are at most 1048576.
-/
namespace Go.Proofs.Ytandldhceabdiaa
open Go.AI
set_option maxRecDepth 8000

structure Into where
  cell : Int
  bag : List Int
  deriving DecidableEq, Inhabited
/-- What its size tells of it. -/
structure OkInto (x : Into) : Prop where
  bag : x.bag.length ≤ 1048576
structure Rule where
  cell : Int
  rank : Int
  need : List Int
  have_ : List Int
  lack : List Int
  here : List Int
  out : List Int
  into : List Into
  melts : Bool
  deriving DecidableEq, Inhabited
/-- What its size tells of it. -/
structure OkRule (x : Rule) : Prop where
  need : x.need.length ≤ 1048576
  have_ : x.have_.length ≤ 1048576
  lack : x.lack.length ≤ 1048576
  here : x.here.length ≤ 1048576
  out : x.out.length ≤ 1048576
  into : x.into.length ≤ 1048576 ∧ ∀ r ∈ x.into, OkInto r
structure System where
  kinds : Int
  parents : List Int
  rules : List Rule
  deriving DecidableEq, Inhabited
/-- What its size tells of it. -/
structure OkSystem (x : System) : Prop where
  parents : x.parents.length ≤ 1048576
  rules : x.rules.length ≤ 1048576 ∧ ∀ r ∈ x.rules, OkRule r
structure State where
  alive : List Bool
  bags : List (List Int)
  around : List Int
  deriving DecidableEq, Inhabited
/-- What its size tells of it. -/
structure OkState (x : State) : Prop where
  alive : x.alive.length ≤ 1048576
  bags : x.bags.length ≤ 1048576 ∧ ∀ r ∈ x.bags, r.length ≤ 1048576
  around : x.around.length ≤ 1048576
end Go.Proofs.Ytandldhceabdiaa

/-
  Library functions over lists of rules and of what is put into cells: the first element of a kind. No condition.
-/
namespace Go.Proofs.Ytandldhceabdiaa
open Go.AI
set_option maxRecDepth 8000
set_option maxHeartbeats 1600000


end Go.Proofs.Ytandldhceabdiaa

/-
  Bags: what the small functions on bags of the reference and of the program compute. No condition.
-/
namespace Go.Proofs.Ytandldhceabdiaa
open Go.AI
set_option maxRecDepth 8000
set_option maxHeartbeats 1600000

/-- A bag for so many kinds. -/
def BagK (k : Int) (b : List Int) : Prop := Bag b ∧ (b.length : Int) = k
theorem BagK.bnd {k : Int} {b : List Int} (h : BagK k b) : 0 ≤ tot b ∧ tot b ≤ 8000 := by
  have := h.1.take b.length (Nat.le_refl _)
  have := h.1.2.2
  rw [List.take_length] at *
  unfold tot; omega

/-! #### The frame of a system -/
def System.Frame (s : System) : Prop := (1 ≤ s.kinds ∧ s.kinds ≤ 8) ∧ (1 ≤ s.parents.length ∧ s.parents.length ≤ 6) ∧ s.parents[0]? = some (-1) ∧ ∀ c (h : c < s.parents.length), 1 ≤ c → 0 ≤ s.parents[c] ∧ s.parents[c] ≤ (c : Int) - 1
theorem System.Frame.zero {s : System} (h : s.Frame) : s.parents[0]'(by have := h.2.1; omega) = -1 := by
  have h1 := h.2.2.1
  rw [List.getElem?_eq_getElem (by have := h.2.1; omega)] at h1
  exact Option.some.inj h1

/-- Cell c lies within cell o. -/
inductive Lies (ps : List Int) (o : Int) : Int → Prop
  | here {c p : Int} (h : ps[c.toNat]? = some p) (hp : 0 ≤ p) (e : p = o) : Lies ps o c
  | up {c p : Int} (h : ps[c.toNat]? = some p) (hp : 0 ≤ p) (t : Lies ps o p) : Lies ps o c
end Go.Proofs.Ytandldhceabdiaa

/-
  Rules and systems: what ValidRule and ValidSystem of the reference and of the program compute. No condition.
-/
namespace Go.Proofs.Ytandldhceabdiaa
open Go.AI
set_option maxRecDepth 8000
set_option maxHeartbeats 1600000

def System.IntoOk (s : System) (r : Rule) (x : Into) : Prop := (0 ≤ x.cell ∧ x.cell ≤ (s.parents.length : Int) - 1) ∧ Lies s.parents r.cell x.cell ∧ BagK s.kinds x.bag ∧ ¬ tot x.bag = 0
/-- A rule is right for a system. -/
def System.RuleOk (s : System) (r : Rule) : Prop := (0 ≤ r.cell ∧ r.cell ≤ (s.parents.length : Int) - 1) ∧ (0 ≤ r.rank ∧ r.rank ≤ 9) ∧ ¬ (r.melts = true ∧ r.cell = 0) ∧ (r.into.length : Int) ≤ 3 ∧
  BagK s.kinds r.need ∧ BagK s.kinds r.have_ ∧ BagK s.kinds r.lack ∧ BagK s.kinds r.here ∧ BagK s.kinds r.out ∧ ¬ tot r.need = 0 ∧
  ∀ i (h : i < r.into.length), s.IntoOk r r.into[i] ∧ (0 < i → r.into[i-1].cell < r.into[i].cell)
theorem BagK.bag {k : Int} {b : List Int} (h : BagK k b) : Small b := h.1.small

def Rule.bags (r : Rule) : List (List Int) := [r.need, r.have_, r.lack, r.here, r.out]

end Go.Proofs.Ytandldhceabdiaa

/-
  Systems: what ValidSystem of the reference and of the program compute. No condition.
-/
namespace Go.Proofs.Ytandldhceabdiaa
open Go.AI
set_option maxRecDepth 8000
set_option maxHeartbeats 1600000

/-- How many of some rules each cell has. -/
def cntR (c : Int) (rs : List Rule) : Int := sumF (fun r => one c r.cell) rs
/-- A system is right. -/
def System.Ok (s : System) : Prop := s.Frame ∧ s.rules.length ≤ 16 ∧ ∀ i (h : i < s.rules.length), s.RuleOk s.rules[i] ∧ cntR s.rules[i].cell (s.rules.take (i + 1)) ≤ 8

end Go.Proofs.Ytandldhceabdiaa

/-
  States: what ValidState and ParentNow of the reference and of the program compute. No condition.
-/
namespace Go.Proofs.Ytandldhceabdiaa
open Go.AI
set_option maxRecDepth 8000
set_option maxHeartbeats 1600000

def System.CellOk (s : System) (al : Option Bool) (b : List Int) : Prop := BagK s.kinds b ∧ (al = some true ∨ tot b ≤ 0)
/-- A state is right for a system. -/
def System.StateOk (s : System) (t : State) : Prop := t.alive.length = s.parents.length ∧ t.bags.length = s.parents.length ∧ t.alive[0]? = some true ∧ BagK s.kinds t.around ∧ ∀ i (h : i < t.bags.length), s.CellOk t.alive[i]? t.bags[i]
/-- The parent now of a cell, from p on. -/
def pnowF (ps : List Int) (al : List Bool) : Nat → Int → Int
  | 0, p => p
  | n + 1, p => if 0 ≤ p ∧ al[p.toNat]? = some false then pnowF ps al n (ps.getD p.toNat (-1)) else p
def pnow (s : System) (t : State) (c : Int) : Int := pnowF s.parents t.alive 6 (s.parents.getD c.toNat (-1))
theorem getD_get {α : Type} {l : List α} {i : Nat} {d : α} (h : i < l.length) : l.getD i d = l[i] := by simp [h]
def State.Lives (t : State) (c : Int) : Prop := t.alive[c.toNat]? = some true



end Go.Proofs.Ytandldhceabdiaa

/-
  Steps: which rules are enabled, what the reference and the program compute. No condition.
-/
namespace Go.Proofs.Ytandldhceabdiaa
open Go.AI
set_option maxRecDepth 8000
set_option maxHeartbeats 1600000

def Within (a b : List Int) : Prop := ∀ i (ha : i < a.length) (hb : i < b.length), a[i] ≤ b[i]

def bagOf (t : State) (c : Int) : List Int := t.bags.getD c.toNat []
def IntoNow (s : System) (t : State) (r : Rule) (x : Into) : Prop := t.Lives x.cell ∧ pnow s t x.cell = r.cell
/-- A rule is enabled. -/
def EnP (s : System) (t : State) (r : Rule) : Prop := t.Lives r.cell ∧ Within r.need (bagOf t r.cell) ∧ Within r.have_ (bagOf t r.cell) ∧ ¬ (0 < tot r.lack ∧ Within r.lack (bagOf t r.cell)) ∧ ∀ i (h : i < r.into.length), IntoNow s t r r.into[i]
end Go.Proofs.Ytandldhceabdiaa

/-
  Steps: which rules are applicable, what the reference and the program compute; IsHalted. No condition.
-/
namespace Go.Proofs.Ytandldhceabdiaa
open Go.AI
set_option maxRecDepth 8000
set_option maxHeartbeats 1600000

open Classical in
/-- The greatest rank among those of some rules that are so and that have a cell. -/
noncomputable def bst (init : Int) (en : Rule → Prop) (c : Int) : List Rule → Int
  | [] => init
  | r :: rs => bst (if en r ∧ r.cell = c then max init r.rank else init) en c rs
/-- A rule is applicable. -/
def App (s : System) (t : State) (r : Rule) : Prop := EnP s t r ∧ ∀ x ∈ s.rules, EnP s t x → x.cell = r.cell → x.rank ≤ r.rank
end Go.Proofs.Ytandldhceabdiaa

/-
  Steps: the program's list of applicable rules; IsHalted. No condition.
-/
namespace Go.Proofs.Ytandldhceabdiaa
open Go.AI
set_option maxRecDepth 8000
set_option maxHeartbeats 1600000

end Go.Proofs.Ytandldhceabdiaa

/-
  States: what WeighState of the reference and of the program compute. No condition.
-/
namespace Go.Proofs.Ytandldhceabdiaa
open Go.AI
set_option maxRecDepth 8000
set_option maxHeartbeats 1600000

end Go.Proofs.Ytandldhceabdiaa

/-
  Choices: what is left of the bags; IsChoice. No condition.
-/
namespace Go.Proofs.Ytandldhceabdiaa
open Go.AI
set_option maxRecDepth 8000
set_option maxHeartbeats 1600000

/-- The sum of a list and another one m times. -/
def plusL (a b : List Int) (m : Int) : List Int := List.zipWith (fun x y => x + y * m) a b
/-- What is left of all bags behind the first k counts. -/
def restK (s : System) (t : State) (cs : List Int) : Nat → List (List Int)
  | 0 => t.bags
  | k + 1 => (restK s t cs k).set (s.rules.getD k default).cell.toNat (plusL ((restK s t cs k).getD (s.rules.getD k default).cell.toNat []) (s.rules.getD k default).need (0 - cs.getD k 0))
/-- Counts are a choice. -/
def Ch (s : System) (t : State) (cs : List Int) : Prop := (∀ i (h : i < s.rules.length) (h2 : i < cs.length), 0 < cs[i] → App s t s.rules[i]) ∧ ∀ b ∈ restK s t cs s.rules.length, ∀ x ∈ b, 0 ≤ x
open Classical in
noncomputable def restA (s : System) (t : State) (cs : List Int) : A := if Ch s t cs then .sl ((restK s t cs s.rules.length).map (encS Go.AI.encI)) else .any (fun _ => True)
theorem Le.tup2 {a b c : A} (h : Le a c) : Le (.tup [a, b]) (.tup [c, b]) := fun S w x r => by
  cases r with
  | tup cs vs hl hr =>
    refine .tup _ vs hl (fun j hj hj' => ?_)
    cases j with
    | zero => exact h _ _ _ (hr 0 (by simp) hj')
    | succ j => exact hr (j + 1) (by simpa using hj) hj'
end Go.Proofs.Ytandldhceabdiaa

/-
  Choices: what the program computes of them; IsChoice, IsMaximal. No condition.
-/
namespace Go.Proofs.Ytandldhceabdiaa
open Go.AI
set_option maxRecDepth 8000
set_option maxHeartbeats 1600000

/-- All rules that are counted are applicable. -/
def AllApp (s : System) (t : State) (cs : List Int) : Prop := ∀ i (h : i < s.rules.length) (h2 : i < cs.length), 0 < cs[i] → App s t s.rules[i]
open Classical in
noncomputable def restI (s : System) (t : State) (cs : List Int) : A := if AllApp s t cs then .sl ((restK s t cs s.rules.length).map (encS Go.AI.encI)) else .os none 0 0
end Go.Proofs.Ytandldhceabdiaa
