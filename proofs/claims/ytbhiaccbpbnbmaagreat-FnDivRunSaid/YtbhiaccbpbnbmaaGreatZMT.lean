/-
  Groups in memory of the call's own: two ascending stretches are merged. No condition.
-/
import Derived.Test.YtbhiaccbpbnbmaaGreatZMS
import Derived.Test.YtbhiaccbpbnbmaaGreatZE5
namespace Go.Proofs.YtbhiaccbpbnbmaaGreat
open Go.AI
set_option maxRecDepth 8000
set_option maxHeartbeats 3200000

theorem less_asym : ∀ {a b : List Int}, less a b → ¬ less b a
  | [], [], h => absurd h (by simp [less])
  | [], _ :: _, _ => by simp [less]
  | _ :: _, [], h => absurd h (by simp [less])
  | x :: a, y :: b, h => by
    simp only [less] at h ⊢
    rintro (q | ⟨q, r⟩)
    · rcases h with h | ⟨h, _⟩ <;> omega
    · rcases h with h | ⟨_, h⟩
      · omega
      · exact less_asym h r
theorem less_neg : ∀ {a b c : List Int}, less a c → less a b ∨ less b c
  | [], [], [], h => .inl h
  | [], [], _ :: _, _ => .inr trivial
  | [], _ :: _, _, _ => .inl trivial
  | _ :: _, _, [], h => absurd h (by simp [less])
  | _ :: _, [], _ :: _, _ => .inr trivial
  | x :: a, y :: b, z :: c, h => by
    simp only [less] at h ⊢
    by_cases q : x < y
    · exact .inl (.inl q)
    · by_cases r : y < z
      · exact .inr (.inl r)
      · rcases h with h | ⟨h, k⟩
        · omega
        · rcases less_neg (b := b) k with s | s
          · exact .inl (.inr ⟨by omega, s⟩)
          · exact .inr (.inr ⟨by omega, s⟩)
theorem bef_asym {a b : Group} (h : Before a b) : ¬ Before b a := fun q => by
  rcases h with h | ⟨h, h2⟩ <;> rcases q with q | ⟨q, q2⟩
  · omega
  · omega
  · omega
  · exact less_asym h2 q2
theorem bef_neg {a b c : Group} (h : Before a c) : Before a b ∨ Before b c := by
  unfold Before at *
  by_cases q : a.charge < b.charge
  · exact .inl (.inl q)
  · by_cases r : b.charge < c.charge
    · exact .inr (.inl r)
    · rcases h with h | ⟨h, h2⟩
      · omega
      · rcases less_neg (b := b.contents) h2 with s | s
        · exact .inl (.inr ⟨by omega, s⟩)
        · exact .inr (.inr ⟨by omega, s⟩)
/-- One group need not come behind another one. -/
def Tri.le (t u : Tri) : Prop := ¬ Before u.g t.g
theorem tri_tot : TotO Tri.le where
  tot a b := by
    by_cases h : Before b.g a.g
    · exact .inr (bef_asym h)
    · exact .inl h
  tr a b c h1 h2 := fun h => (bef_neg (b := b.g) h).elim h2 h1
theorem Tri.le_of {t u : Tri} (h : Before t.g u.g) : Tri.le t u := bef_asym h
theorem fz_tri {hT : Heap} {t : Tri} (h : t.blk ∈ hT) : Frz hT (.agg t.cs) (.agg (encGroup t.g)) :=
  Frz.agg (FrzL.cons (Frz.same _ _) (FrzL.cons (Frz.mono (h' := [t.blk]) (fun k hk => by rw [List.mem_singleton] at hk; subst hk; exact h) (Frz.flat (g := Go.AI.encI) (ys := t.g.contents) (z := 1) rfl rfl (fun _ => rfl) rfl rfl)) (FrzL.cons (Frz.same _ _) (FrzL.nil _))))
theorem fz_cmp {hT : Heap} {t u : Tri} (h : t.blk ∈ hT) (h2 : u.blk ∈ hT) : FrzL hT [.agg t.cs, .agg u.cs] [.agg (encGroup t.g), .agg (encGroup u.g)] := FrzL.cons (fz_tri h) (FrzL.cons (fz_tri h2) (FrzL.nil _))
theorem at_A {α : Type} {P A B S : List α} {i : Nat} (hi : i < A.length) {j : Nat} (hj : j = P.length + i) (h : j < (P ++ A ++ B ++ S).length) : (P ++ A ++ B ++ S)[j] = A[i] := by
  subst hj
  have e : (P ++ A ++ B ++ S)[P.length + i]? = some A[i] := by
    rw [List.append_assoc, List.append_assoc, List.getElem?_append_right (by omega), Nat.add_sub_cancel_left, List.getElem?_append_left hi, List.getElem?_eq_getElem hi]
  rw [List.getElem?_eq_getElem h] at e
  exact Option.some.inj e
theorem at_B {α : Type} {P A B S : List α} {i : Nat} (hi : i < B.length) {j : Nat} (hj : j = P.length + A.length + i) (h : j < (P ++ A ++ B ++ S).length) : (P ++ A ++ B ++ S)[j] = B[i] := by
  subst hj
  have e : (P ++ A ++ B ++ S)[P.length + A.length + i]? = some B[i] := by
    rw [List.append_assoc, List.getElem?_append_right (by rw [List.length_append]; omega), List.length_append, Nat.add_sub_cancel_left, List.getElem?_append_left hi, List.getElem?_eq_getElem hi]
  rw [List.getElem?_eq_getElem h] at e
  exact Option.some.inj e
theorem len4 {α : Type} (P A B S : List α) : (P ++ A ++ B ++ S).length = P.length + A.length + B.length + S.length := by simp only [List.length_append]
theorem at_U {α : Type} {U V : List α} {x : α} {j : Nat} (hj : j = U.length) (h : j < (U ++ x :: V).length) : (U ++ x :: V)[j] = x := by
  subst hj
  have e : (U ++ x :: V)[U.length]? = some x := by rw [List.getElem?_append_right (Nat.le_refl _), Nat.sub_self]; rfl
  rw [List.getElem?_eq_getElem h] at e
  exact Option.some.inj e
theorem at_U1 {α : Type} {U V : List α} {x y : α} {j : Nat} (hj : j = U.length + 1) (h : j < (U ++ x :: y :: V).length) : (U ++ x :: y :: V)[j] = y := by
  subst hj
  have e : (U ++ x :: y :: V)[U.length + 1]? = some y := by rw [List.getElem?_append_right (by omega), show U.length + 1 - U.length = 1 from by omega]; rfl
  rw [List.getElem?_eq_getElem h] at e
  exact Option.some.inj e
theorem up_form {α : Type} (P : List α) (x : α) {B : List α} (S : List α) {q : Nat} (hq : q < B.length) : P ++ insAt q x B ++ S = (P ++ B.take q) ++ x :: B[q] :: (B.drop (q + 1) ++ S) := by
  rw [insAt_up x hq]; simp only [List.append_assoc, List.cons_append]
theorem dn_form {α : Type} (P : List α) (x : α) {B : List α} (S : List α) {q : Nat} (hq : q < B.length) : P ++ insAt (q + 1) x B ++ S = (P ++ B.take q) ++ B[q] :: x :: (B.drop (q + 1) ++ S) := by
  rw [insAt_dn x hq]; simp only [List.append_assoc, List.cons_append]

theorem o_symMerge (b cap N : Nat) (hT : Heap) (hL : N ≤ 100000000) : ∀ (k : Nat) (P A B S : List Tri) (a m e : Nat), A.length + B.length ≤ k → 0 < A.length → 0 < B.length → A.Pairwise Tri.le → B.Pairwise Tri.le → (∀ t ∈ A ++ B, t.blk ∈ hT) → P.length + A.length + B.length + S.length = N → a = P.length → m = P.length + A.length → e = P.length + A.length + B.length →
    Does Tryz.prog 101 [.os (some b) N cap, .int (a : Int), .int (m : Int), .int (e : Int), .fn 64 []] (grB b cap (P ++ A ++ B ++ S) :: hT)
      (fun _ h' => ∃ M, (M.Perm (A ++ B) ∧ M.Pairwise Tri.le) ∧ h' = grB b cap (P ++ M ++ S) :: hT) := by
  intro k
  induction k with
  | zero => intro P A B S a m e hk hA; omega
  | succ k ih =>
    intro P A B S a m e hk hA hB sA sB hbl hN ha hm he
    have blA : ∀ i (h : i < A.length), A[i].blk ∈ hT := fun i h => hbl _ (List.mem_append_left _ (List.getElem_mem h))
    have blB : ∀ i (h : i < B.length), B[i].blk ∈ hT := fun i h => hbl _ (List.mem_append_right _ (List.getElem_mem h))
    by_cases hA1 : A.length = 1
    · obtain ⟨x, rfl⟩ := List.length_eq_one_iff.1 hA1
      have blx : x.blk ∈ hT := blA 0 (by simp)
      refine fn_of_runD tyOk ztOk mix Tryz.func101 rfl (by decide) Tryz.ntmps101 (fun w0 F => ?_)
      change Run _ _ _ _ _ (_ :: (hT ++ F))
      repeat' (first
      | (refine j_go ?_; first
        | refine j_op0 rfl rfl rfl rfl ?_ | (refine j_kBin rfl ?_; first | refine j_in rfl rfl ⟨by omega, by omega⟩ rfl rfl ?_))
      | refine j_nil ?_
      | (refine r_go ?_; first | refine run_seq ?_ | refine run_region ?_ | (refine (run_if rfl (fun hb => ?_) (fun hb => ?_)) <;> first | (exfalso; omega) | skip) | refine run_block ?_)
      | refine seqQ_normal ?_)
      refine run_loop (fun z : Nat × Nat => [(0, .os (some b) N cap), (1, .int (a : Int)), (4, .fn 64 []), (10, .int ((m + z.1 : Nat) : Int)), (11, .int ((m + z.2 : Nat) : Int))]) (fun _ => grB b cap (P ++ [x] ++ B ++ S) :: (hT ++ F))
        (fun z => z.1 ≤ z.2 ∧ z.2 ≤ B.length ∧ (∀ (p : 0 < z.1) (q : z.1 - 1 < B.length), Before (B[z.1 - 1]).g x.g) ∧ (∀ q : z.2 < B.length, ¬ Before (B[z.2]).g x.g)) (fun z => z.2 - z.1) (0, B.length) ⟨rfl, rfl, rfl, si (by dsimp only; omega), si (by dsimp only; omega), trivial⟩ rfl
        ⟨Nat.zero_le _, Nat.le_refl _, fun p => absurd p (Nat.lt_irrefl _), fun q => absurd q (Nat.lt_irrefl _)⟩ (fun ⟨i, j⟩ ⟨ij, jl, pi, pj⟩ => ?_)
      dsimp only at ij jl pi pj ⊢
      by_cases hij : i < j
      · have hB2 : (i + j) / 2 < B.length := by omega
        have c2 := c_compareGroups (B[(i + j) / 2]).g x.g
        have eB := at_B (P := P) (A := [x]) (S := S) hB2 (j := m + (i + j) / 2) (by omega) (by rw [len4]; omega)
        have eA := at_A (P := P) (A := [x]) (B := B) (S := S) (i := 0) (by simp) (j := a) (by omega) (by rw [len4]; omega)
        repeat' (first
      | (refine j_go ?_; first
        | refine j_op0 rfl rfl rfl rfl ?_ | (refine j_kBin rfl ?_; first | refine j_in rfl rfl ⟨by omega, by omega⟩ rfl rfl ?_) | refine j_conv rfl rfl rfl rfl rfl (wrap_u64 (by omega) (by omega)) rfl rfl ?_)
      | refine j_nil ?_
      | (refine r_go ?_; first | refine run_seq ?_ | refine run_region ?_ | (refine (run_if rfl (fun hb => ?_) (fun hb => ?_)) <;> first | (exfalso; omega) | skip) | refine run_block ?_ | refine run_skip ?_)
      | refine seqQ_normal ?_)
        refine j_shr1u rfl rfl rfl rfl rfl rfl ?_
        refine j_half (m + (i + j) / 2) rfl rfl rfl rfl rfl (by omega) rfl rfl ?_
        repeat' (first
      | (refine j_go ?_; first
        | refine j_op0 rfl rfl rfl rfl ?_ | (refine j_kIdx rfl ?_; first | refine j_midx rfl rfl rfl rfl rfl (by first | omega | (simp only [List.length_append, List.length_cons, List.length_nil]; omega)) rfl rfl ?_))
      | refine j_nil ?_
      | (refine r_go ?_; first | refine run_seq ?_ | refine run_regionD (by kernel_rfl) ?_)
      | refine seqQ_normal ?_)
        refine j_ldT 0 (m + (i + j) / 2) (L := P ++ [x] ++ B ++ S) rfl rfl rfl rfl (by first | rfl | omega) (by rw [len4]; omega) eB (fun _ _ => loadSt rfl rfl) rfl rfl ?_
        repeat' (first
      | (refine j_go ?_; first
        | refine j_op0 rfl rfl rfl rfl ?_ | (refine j_kIdx rfl ?_; first | refine j_midx rfl rfl rfl rfl rfl (by first | omega | (simp only [List.length_append, List.length_cons, List.length_nil]; omega)) rfl rfl ?_)))
        refine j_ldT 0 a (L := P ++ [x] ++ B ++ S) rfl rfl rfl rfl (by first | rfl | omega) (by rw [len4]; omega) eA (fun _ _ => loadSt rfl rfl) rfl rfl ?_
        skip
        by_cases hbf : Before (B[(i + j) / 2]).g x.g
        · rw [cmp3_l hbf] at c2
          refine j_kCall rfl rfl rfl rfl ?_
          refine jctq hT c2 (Clo.int _) (fun k hk => List.mem_cons_of_mem _ (List.mem_append_left _ hk)) (fz_cmp (blB _ hB2) blx) rfl rfl ?_
          repeat' (first
      | (refine j_go ?_; first
        | refine j_op0 rfl rfl rfl rfl ?_ | (refine j_kBin rfl ?_; first | refine j_in rfl rfl ⟨by omega, by omega⟩ rfl rfl ?_))
      | refine j_nil ?_
      | (refine r_go ?_; first | refine run_region ?_ | (refine (run_if rfl (fun hb => ?_) (fun hb => ?_)) <;> first | (exfalso; omega) | skip))
      | refine seqQ_normal ?_ | refine blockQ_normal ?_)
          exact loopQ_next ((i + j) / 2 + 1, j) ⟨by dsimp only; omega, jl, fun _ _ => hbf, pj⟩ (by dsimp only; omega) rfl ⟨rfl, rfl, rfl, si (by dsimp only; omega), rfl, trivial⟩
        · have h0 := cmp3_ge (q := Before x.g (B[(i + j) / 2]).g).2 hbf
          generalize cmp3 (Before (B[(i + j) / 2]).g x.g) (Before x.g (B[(i + j) / 2]).g) = cc at c2 h0
          refine j_kCall rfl rfl rfl rfl ?_
          refine jctq hT c2 (Clo.int _) (fun k hk => List.mem_cons_of_mem _ (List.mem_append_left _ hk)) (fz_cmp (blB _ hB2) blx) rfl rfl ?_
          repeat' (first
      | (refine j_go ?_; first
        | refine j_op0 rfl rfl rfl rfl ?_)
      | refine j_nil ?_
      | (refine r_go ?_; first | refine run_region ?_ | (refine (run_if rfl (fun hb => ?_) (fun hb => ?_)) <;> first | (exfalso; omega) | skip))
      | refine seqQ_normal ?_ | refine blockQ_normal ?_)
          exact loopQ_next (i, (i + j) / 2) ⟨by dsimp only; omega, by dsimp only; omega, pi, fun _ => hbf⟩ (by dsimp only; omega) rfl ⟨rfl, rfl, rfl, rfl, rfl, trivial⟩
      · obtain rfl : i = j := by omega
        have srt : (insAt i x B).Pairwise Tri.le := insAt_asc tri_tot sB jl (fun p => Tri.le_of (pi p (by omega))) (fun q => pj q)
        repeat' (first
      | (refine j_go ?_; first
        | refine j_op0 rfl rfl rfl rfl ?_)
      | refine j_nil ?_
      | (refine r_go ?_; first | refine run_seq ?_ | refine run_region ?_ | (refine (run_if rfl (fun hb => ?_) (fun hb => ?_)) <;> first | (exfalso; omega) | skip) | refine run_block ?_ | refine run_exit ?_)
      | refine seqQ_normal ?_ | refine seqQ_exit ?_ | refine blockQ_eq ?_ | refine loopQ_exit ?_)
        refine run_loop (fun q : Nat => [(0, .os (some b) N cap), (10, .int ((m + i : Nat) : Int)), (13, .int ((a + q : Nat) : Int))]) (fun q => grB b cap (P ++ insAt q x B ++ S) :: (hT ++ F)) (fun q => q ≤ i) (fun q => i - q) 0 ⟨rfl, rfl, si (by omega), trivial⟩ (by rw [insAt_zero, List.append_assoc P [x] B]; rfl) (Nat.zero_le _) (fun q ql => ?_)
        by_cases hq : q < i
        · have hqB : q < B.length := by omega
          have ul : (P ++ B.take q).length = a + q := by rw [List.length_append, List.length_take]; omega
          have ll : ((P ++ B.take q) ++ x :: B[q] :: (B.drop (q + 1) ++ S)).length = N := by rw [← up_form P x S hqB, List.length_append, List.length_append, insAt_len]; simp only [List.length_singleton] at hN; omega
          have e1 := at_U1 (U := P ++ B.take q) (x := x) (y := B[q]) (V := B.drop (q + 1) ++ S) (j := a + q + 1) (by omega) (by rw [ll]; simp only [List.length_singleton] at hN; omega)
          have e0 := at_U (U := P ++ B.take q) (x := x) (V := B[q] :: (B.drop (q + 1) ++ S)) (j := a + q) (by omega) (by rw [ll]; simp only [List.length_singleton] at hN; omega)
          have e2 : (((P ++ B.take q) ++ x :: B[q] :: (B.drop (q + 1) ++ S)).set (a + q) B[q]).set (a + q + 1) x = P ++ insAt (q + 1) x B ++ S := by rw [← ul, swap_nb, dn_form P x S hqB]
          simp only [List.length_singleton] at hN
          rw [up_form P x S hqB]
          repeat' (first
      | (refine j_go ?_; first
        | refine j_op0 rfl rfl rfl rfl ?_ | (refine j_kBin rfl ?_; first | refine j_in rfl rfl ⟨by omega, by omega⟩ rfl rfl ?_))
      | refine j_nil ?_
      | (refine j_goO ?_; first
        | refine j_op0O rfl rfl rfl rfl ?_ | (refine j_kIdxO rfl ?_; first | refine j_midxO rfl rfl rfl rfl rfl (by first | omega | (simp only [List.length_append, List.length_cons, List.length_nil]; omega)) rfl rfl ?_) | (refine j_kBinO rfl ?_; first | refine j_inO rfl rfl ⟨by omega, by omega⟩ rfl rfl ?_))
      | (refine r_go ?_; first | refine run_seq ?_ | refine run_region ?_ | (refine (run_if rfl (fun hb => ?_) (fun hb => ?_)) <;> first | (exfalso; omega) | skip) | refine run_block ?_ | refine run_skip ?_ | refine run_opn 11 [⟨0, true, false, 0⟩, ⟨1, true, false, 0⟩, ⟨2, false, false, 0⟩, ⟨3, false, false, 0⟩, ⟨4, false, false, 0⟩, ⟨5, true, false, 0⟩, ⟨6, true, false, 0⟩, ⟨7, true, false, 0⟩, ⟨8, true, false, 0⟩, ⟨9, true, false, 0⟩, ⟨10, true, false, 0⟩, ⟨11, true, false, 0⟩, ⟨12, true, false, 0⟩, ⟨13, true, false, 0⟩, ⟨14, true, false, 0⟩, ⟨15, false, true, 0⟩, ⟨16, true, false, 0⟩, ⟨17, false, true, 0⟩] rfl rfl (by kernel_rfl) ?_)
      | refine seqQ_normal ?_)
          refine j_ldTO 0 (a + q + 1) (L := (P ++ B.take q) ++ x :: B[q] :: (B.drop (q + 1) ++ S)) rfl rfl rfl rfl rfl (by first | rfl | omega) (by rw [ll]; omega) e1 (fun _ _ => loadSt rfl rfl) rfl rfl ?_
          repeat' (first
      | (refine j_goO ?_; first
        | refine j_op0O rfl rfl rfl rfl ?_ | (refine j_kIdxO rfl ?_; first | refine j_midxO rfl rfl rfl rfl rfl (by first | omega | (simp only [List.length_append, List.length_cons, List.length_nil]; omega)) rfl rfl ?_)))
          refine j_ldTO 0 (a + q) (L := (P ++ B.take q) ++ x :: B[q] :: (B.drop (q + 1) ++ S)) rfl rfl rfl rfl rfl (by first | rfl | omega) (by rw [ll]; omega) e0 (fun _ _ => loadSt rfl rfl) rfl rfl ?_
          repeat' (first
      | (refine j_goO ?_; first
        | (refine j_kIdxO rfl ?_; first | refine j_midxO rfl rfl rfl rfl rfl (by first | omega | (simp only [List.length_append, List.length_cons, List.length_nil]; omega)) rfl rfl ?_)))
          refine j_storeEO 0 (a + q) (g := Tri.cs) B[q] rfl rfl rfl rfl rfl rfl rfl rfl rfl rfl (fun _ => rfl) (by first | rfl | omega) (by rw [ll]; omega) (fun _ hk => nomatch hk) ?_
          repeat' (first
      | (refine j_goO ?_; first
        | (refine j_kIdxO rfl ?_; first | refine j_midxO rfl rfl rfl rfl rfl (by first | omega | (simp only [List.length_append, List.length_cons, List.length_nil]; omega)) rfl rfl ?_)))
          refine j_storeEO 0 (a + q + 1) (g := Tri.cs) x rfl rfl rfl rfl rfl rfl rfl rfl rfl rfl (fun _ => rfl) (by first | rfl | omega) (by rw [List.length_set, ll]; omega) (fun _ hk => nomatch hk) ?_
          rw [e2]
          repeat' (first
      | (refine j_go ?_; first
        | refine j_op0 rfl rfl rfl rfl ?_ | (refine j_kBin rfl ?_; first | refine j_in rfl rfl ⟨by omega, by omega⟩ rfl rfl ?_))
      | refine j_nil ?_
      | refine j_nilO ?_
      | (refine r_go ?_; first | refine run_region ?_)
      | refine seqQ_normal ?_ | refine blockQ_normal ?_)
          exact loopQ_next (q + 1) (by omega) (by omega) rfl ⟨rfl, rfl, si (by omega), trivial⟩
        · obtain rfl : q = i := by omega
          repeat' (first
      | (refine j_go ?_; first
        | refine j_op0 rfl rfl rfl rfl ?_ | (refine j_kBin rfl ?_; first | refine j_in rfl rfl ⟨by omega, by omega⟩ rfl rfl ?_))
      | refine j_nil ?_
      | (refine r_go ?_; first | refine run_seq ?_ | refine run_region ?_ | (refine (run_if rfl (fun hb => ?_) (fun hb => ?_)) <;> first | (exfalso; omega) | skip) | refine run_ret ?_ | refine run_exit ?_)
      | refine seqQ_normal ?_ | refine seqQ_ret ?_ | refine seqQ_exit ?_ | refine blockQ_eq ?_ | refine loopQ_exit ?_)
          exact endD_ret (h1 := _ :: hT) rfl .nil (Le.refl _) ⟨insAt q x B, ⟨insAt_perm q x B, srt⟩, rfl⟩ (.inl rfl)
    by_cases hB1 : B.length = 1
    · obtain ⟨x, rfl⟩ := List.length_eq_one_iff.1 hB1
      have blx : x.blk ∈ hT := blB 0 (by simp)
      simp only [List.length_singleton] at hN hk he
      refine fn_of_runD tyOk ztOk mix Tryz.func101 rfl (by decide) Tryz.ntmps101 (fun w0 F => ?_)
      change Run _ _ _ _ _ (_ :: (hT ++ F))
      repeat' (first
      | (refine j_go ?_; first
        | refine j_op0 rfl rfl rfl rfl ?_ | (refine j_kBin rfl ?_; first | refine j_in rfl rfl ⟨by omega, by omega⟩ rfl rfl ?_))
      | refine j_nil ?_
      | (refine r_go ?_; first | refine run_seq ?_ | refine run_region ?_ | (refine (run_if rfl (fun hb => ?_) (fun hb => ?_)) <;> first | (exfalso; omega) | skip) | refine run_block ?_ | refine run_skip ?_)
      | refine seqQ_normal ?_)
      refine run_loop (fun z : Nat × Nat => [(0, .os (some b) N cap), (2, .int (m : Int)), (4, .fn 64 []), (14, .int ((a + z.1 : Nat) : Int)), (15, .int ((a + z.2 : Nat) : Int))]) (fun _ => grB b cap (P ++ A ++ [x] ++ S) :: (hT ++ F))
        (fun z => z.1 ≤ z.2 ∧ z.2 ≤ A.length ∧ (∀ (p : 0 < z.1) (q : z.1 - 1 < A.length), ¬ Before x.g (A[z.1 - 1]).g) ∧ (∀ q : z.2 < A.length, Before x.g (A[z.2]).g)) (fun z => z.2 - z.1) (0, A.length) ⟨rfl, rfl, rfl, si (by dsimp only; omega), si (by dsimp only; omega), trivial⟩ rfl
        ⟨Nat.zero_le _, Nat.le_refl _, fun p => absurd p (Nat.lt_irrefl _), fun q => absurd q (Nat.lt_irrefl _)⟩ (fun ⟨i, j⟩ ⟨ij, jl, pi, pj⟩ => ?_)
      dsimp only at ij jl pi pj ⊢
      by_cases hij : i < j
      · have hA2 : (i + j) / 2 < A.length := by omega
        have c2 := c_compareGroups x.g (A[(i + j) / 2]).g
        have eA := at_A (P := P) (B := [x]) (S := S) hA2 (j := a + (i + j) / 2) (by omega) (by rw [len4, List.length_singleton]; omega)
        have eB : (P ++ A ++ [x] ++ S)[m]'(by rw [len4, List.length_singleton]; omega) = x := at_B (P := P) (A := A) (B := [x]) (S := S) (i := 0) (by simp) (j := m) (by omega) _
        repeat' (first
      | (refine j_go ?_; first
        | refine j_op0 rfl rfl rfl rfl ?_ | (refine j_kBin rfl ?_; first | refine j_in rfl rfl ⟨by omega, by omega⟩ rfl rfl ?_) | refine j_conv rfl rfl rfl rfl rfl (wrap_u64 (by omega) (by omega)) rfl rfl ?_)
      | refine j_nil ?_
      | (refine r_go ?_; first | refine run_seq ?_ | refine run_region ?_ | (refine (run_if rfl (fun hb => ?_) (fun hb => ?_)) <;> first | (exfalso; omega) | skip) | refine run_block ?_ | refine run_skip ?_)
      | refine seqQ_normal ?_)
        refine j_shr1u rfl rfl rfl rfl rfl rfl ?_
        refine j_half (a + (i + j) / 2) rfl rfl rfl rfl rfl (by omega) rfl rfl ?_
        repeat' (first
      | (refine j_go ?_; first
        | refine j_op0 rfl rfl rfl rfl ?_ | (refine j_kIdx rfl ?_; first | refine j_midx rfl rfl rfl rfl rfl (by first | omega | (simp only [List.length_append, List.length_cons, List.length_nil]; omega)) rfl rfl ?_))
      | refine j_nil ?_
      | (refine r_go ?_; first | refine run_seq ?_ | refine run_regionD (by kernel_rfl) ?_)
      | refine seqQ_normal ?_)
        refine j_ldT 0 m (L := P ++ A ++ [x] ++ S) rfl rfl rfl rfl (by first | rfl | omega) (by rw [len4, List.length_singleton]; omega) eB (fun _ _ => loadSt rfl rfl) rfl rfl ?_
        repeat' (first
      | (refine j_go ?_; first
        | refine j_op0 rfl rfl rfl rfl ?_ | (refine j_kIdx rfl ?_; first | refine j_midx rfl rfl rfl rfl rfl (by first | omega | (simp only [List.length_append, List.length_cons, List.length_nil]; omega)) rfl rfl ?_)))
        refine j_ldT 0 (a + (i + j) / 2) (L := P ++ A ++ [x] ++ S) rfl rfl rfl rfl (by first | rfl | omega) (by rw [len4, List.length_singleton]; omega) eA (fun _ _ => loadSt rfl rfl) rfl rfl ?_
        skip
        by_cases hbf : Before x.g (A[(i + j) / 2]).g
        · rw [cmp3_l hbf] at c2
          refine j_kCall rfl rfl rfl rfl ?_
          refine jctq hT c2 (Clo.int _) (fun k hk => List.mem_cons_of_mem _ (List.mem_append_left _ hk)) (fz_cmp blx (blA _ hA2)) rfl rfl ?_
          repeat' (first
      | (refine j_go ?_; first
        | refine j_op0 rfl rfl rfl rfl ?_)
      | refine j_nil ?_
      | (refine r_go ?_; first | refine run_region ?_ | (refine (run_ifn rfl (fun hb => ?_) (fun hb => ?_)) <;> first | (exfalso; omega) | skip))
      | refine seqQ_normal ?_ | refine blockQ_normal ?_)
          exact loopQ_next (i, (i + j) / 2) ⟨by dsimp only; omega, by dsimp only; omega, pi, fun _ => hbf⟩ (by dsimp only; omega) rfl ⟨rfl, rfl, rfl, rfl, rfl, trivial⟩
        · have h0 := cmp3_ge (q := Before (A[(i + j) / 2]).g x.g).2 hbf
          generalize cmp3 (Before x.g (A[(i + j) / 2]).g) (Before (A[(i + j) / 2]).g x.g) = cc at c2 h0
          refine j_kCall rfl rfl rfl rfl ?_
          refine jctq hT c2 (Clo.int _) (fun k hk => List.mem_cons_of_mem _ (List.mem_append_left _ hk)) (fz_cmp blx (blA _ hA2)) rfl rfl ?_
          repeat' (first
      | (refine j_go ?_; first
        | refine j_op0 rfl rfl rfl rfl ?_ | (refine j_kBin rfl ?_; first | refine j_in rfl rfl ⟨by omega, by omega⟩ rfl rfl ?_))
      | refine j_nil ?_
      | (refine r_go ?_; first | refine run_region ?_ | (refine (run_ifn rfl (fun hb => ?_) (fun hb => ?_)) <;> first | (exfalso; omega) | skip))
      | refine seqQ_normal ?_ | refine blockQ_normal ?_)
          exact loopQ_next ((i + j) / 2 + 1, j) ⟨by dsimp only; omega, jl, fun _ _ => hbf, pj⟩ (by dsimp only; omega) rfl ⟨rfl, rfl, rfl, si (by dsimp only; omega), rfl, trivial⟩
      · obtain rfl : i = j := by omega
        have srt : (insAt i x A).Pairwise Tri.le := insAt_asc tri_tot sA jl (fun p => pi p (by omega)) (fun q => Tri.le_of (pj q))
        repeat' (first
      | (refine j_go ?_; first
        | refine j_op0 rfl rfl rfl rfl ?_)
      | refine j_nil ?_
      | (refine r_go ?_; first | refine run_seq ?_ | refine run_region ?_ | (refine (run_if rfl (fun hb => ?_) (fun hb => ?_)) <;> first | (exfalso; omega) | skip) | refine run_block ?_ | refine run_exit ?_)
      | refine seqQ_normal ?_ | refine seqQ_exit ?_ | refine blockQ_eq ?_ | refine loopQ_exit ?_)
        refine run_loop (fun q : Nat => [(0, .os (some b) N cap), (14, .int ((a + i : Nat) : Int)), (17, .int ((a + q : Nat) : Int))]) (fun q => grB b cap (P ++ insAt q x A ++ S) :: (hT ++ F)) (fun q => i ≤ q ∧ q ≤ A.length) (fun q => q) A.length ⟨rfl, rfl, si (by omega), trivial⟩ (by rw [insAt_all, ← List.append_assoc P A [x]]) ⟨jl, Nat.le_refl _⟩ (fun q ⟨ql, qA⟩ => ?_)
        by_cases hq : i < q
        · obtain ⟨q, rfl⟩ : ∃ r, q = r + 1 := ⟨q - 1, by omega⟩
          have hqA : q < A.length := by omega
          have ul : (P ++ A.take q).length = a + q := by rw [List.length_append, List.length_take]; omega
          have ll : ((P ++ A.take q) ++ A[q] :: x :: (A.drop (q + 1) ++ S)).length = N := by rw [← dn_form P x S hqA, List.length_append, List.length_append, insAt_len]; omega
          have e1 := at_U1 (U := P ++ A.take q) (x := A[q]) (y := x) (V := A.drop (q + 1) ++ S) (j := a + q + 1) (by omega) (by rw [ll]; omega)
          have e0 := at_U (U := P ++ A.take q) (x := A[q]) (V := x :: (A.drop (q + 1) ++ S)) (j := a + q) (by omega) (by rw [ll]; omega)
          have e2 : (((P ++ A.take q) ++ A[q] :: x :: (A.drop (q + 1) ++ S)).set (a + q + 1) A[q]).set (a + q) x = P ++ insAt q x A ++ S := by rw [← ul, swap_nb', up_form P x S hqA]
          rw [dn_form P x S hqA]
          repeat' (first
      | (refine j_go ?_; first
        | refine j_op0 rfl rfl rfl rfl ?_)
      | refine j_nil ?_
      | (refine j_goO ?_; first
        | refine j_op0O rfl rfl rfl rfl ?_ | (refine j_kIdxO rfl ?_; first | refine j_midxzO rfl rfl rfl rfl rfl (by first | omega | (simp only [List.length_append, List.length_cons, List.length_nil]; omega)) rfl rfl ?_) | (refine j_kBinO rfl ?_; first | refine j_inO rfl rfl ⟨by omega, by omega⟩ rfl rfl ?_))
      | (refine r_go ?_; first | refine run_seq ?_ | refine run_region ?_ | (refine (run_if rfl (fun hb => ?_) (fun hb => ?_)) <;> first | (exfalso; omega) | skip) | refine run_block ?_ | refine run_skip ?_ | refine run_opn 23 [⟨0, true, false, 0⟩, ⟨1, true, false, 0⟩, ⟨2, false, false, 0⟩, ⟨3, false, false, 0⟩, ⟨4, false, false, 0⟩, ⟨5, true, false, 0⟩, ⟨6, true, false, 0⟩, ⟨7, true, false, 0⟩, ⟨8, true, false, 0⟩, ⟨9, true, false, 0⟩, ⟨10, true, false, 0⟩, ⟨11, true, false, 0⟩, ⟨12, true, false, 0⟩, ⟨13, true, false, 0⟩, ⟨14, true, false, 0⟩, ⟨15, false, true, 0⟩, ⟨16, true, false, 0⟩, ⟨17, false, true, 0⟩] rfl rfl (by kernel_rfl) ?_)
      | refine seqQ_normal ?_)
          refine j_ldTO 0 (a + q) (L := (P ++ A.take q) ++ A[q] :: x :: (A.drop (q + 1) ++ S)) rfl rfl rfl rfl rfl (by first | rfl | omega) (by rw [ll]; omega) e0 (fun _ _ => loadSt rfl rfl) rfl rfl ?_
          repeat' (first
      | (refine j_goO ?_; first
        | refine j_op0O rfl rfl rfl rfl ?_ | (refine j_kIdxO rfl ?_; first | refine j_midxO rfl rfl rfl rfl rfl (by first | omega | (simp only [List.length_append, List.length_cons, List.length_nil]; omega)) rfl rfl ?_)))
          refine j_ldTO 0 (a + q + 1) (L := (P ++ A.take q) ++ A[q] :: x :: (A.drop (q + 1) ++ S)) rfl rfl rfl rfl rfl (by first | rfl | omega) (by rw [ll]; omega) e1 (fun _ _ => loadSt rfl rfl) rfl rfl ?_
          repeat' (first
      | (refine j_goO ?_; first
        | (refine j_kIdxO rfl ?_; first | refine j_midxO rfl rfl rfl rfl rfl (by first | omega | (simp only [List.length_append, List.length_cons, List.length_nil]; omega)) rfl rfl ?_)))
          refine j_storeEO 0 (a + q + 1) (g := Tri.cs) A[q] rfl rfl rfl rfl rfl rfl rfl rfl rfl rfl (fun _ => rfl) (by first | rfl | omega) (by rw [ll]; omega) (fun _ hk => nomatch hk) ?_
          repeat' (first
      | (refine j_goO ?_; first
        | (refine j_kIdxO rfl ?_; first | refine j_midxzO rfl rfl rfl rfl rfl (by first | omega | (simp only [List.length_append, List.length_cons, List.length_nil]; omega)) rfl rfl ?_)))
          refine j_storeEO 0 (a + q) (g := Tri.cs) x rfl rfl rfl rfl rfl rfl rfl rfl rfl rfl (fun _ => rfl) (by first | rfl | omega) (by rw [List.length_set, ll]; omega) (fun _ hk => nomatch hk) ?_
          rw [e2]
          repeat' (first
      | (refine j_go ?_; first
        | refine j_op0 rfl rfl rfl rfl ?_ | (refine j_kBin rfl ?_; first | refine j_in rfl rfl ⟨by omega, by omega⟩ rfl rfl ?_))
      | refine j_nil ?_
      | refine j_nilO ?_
      | (refine r_go ?_; first | refine run_region ?_)
      | refine seqQ_normal ?_ | refine blockQ_normal ?_)
          exact loopQ_next q ⟨by omega, by omega⟩ (by omega) rfl ⟨rfl, rfl, si (by omega), trivial⟩
        · obtain rfl : q = i := by omega
          repeat' (first
      | (refine j_go ?_; first
        | refine j_op0 rfl rfl rfl rfl ?_)
      | refine j_nil ?_
      | (refine r_go ?_; first | refine run_seq ?_ | refine run_region ?_ | (refine (run_if rfl (fun hb => ?_) (fun hb => ?_)) <;> first | (exfalso; omega) | skip) | refine run_ret ?_ | refine run_exit ?_)
      | refine seqQ_normal ?_ | refine seqQ_ret ?_ | refine seqQ_exit ?_ | refine blockQ_eq ?_ | refine loopQ_exit ?_)
          exact endD_ret (h1 := _ :: hT) rfl .nil (Le.refl _) ⟨insAt q x A, ⟨(insAt_perm q x A).trans (List.perm_append_singleton x A).symm, srt⟩, rfl⟩ (.inl rfl)
    have hlen : (P ++ A ++ B ++ S).length = N := by rw [len4]; exact hN
    obtain ⟨mid, hmid⟩ : ∃ mid, mid = (a + e) / 2 := ⟨_, rfl⟩
    refine fn_of_runD tyOk ztOk mix Tryz.func101 rfl (by decide) Tryz.ntmps101 (fun w0 F => ?_)
    change Run _ _ _ _ _ (_ :: (hT ++ F))
    repeat' (first
      | (refine j_go ?_; first
        | refine j_op0 rfl rfl rfl rfl ?_ | (refine j_kBin rfl ?_; first | refine j_in rfl rfl ⟨by omega, by omega⟩ rfl rfl ?_))
      | refine j_nil ?_
      | (refine r_go ?_; first | refine run_seq ?_ | refine run_region ?_)
      | refine seqQ_normal ?_)
    refine run_if rfl (fun hb => by exfalso; omega) (fun hb => ?_)
    repeat' (first
      | (refine j_go ?_; first
        | refine j_op0 rfl rfl rfl rfl ?_ | (refine j_kBin rfl ?_; first | refine j_in rfl rfl ⟨by omega, by omega⟩ rfl rfl ?_))
      | refine j_nil ?_
      | (refine r_go ?_; first | refine run_seq ?_ | refine run_region ?_ | refine run_skip ?_)
      | refine seqQ_normal ?_)
    refine run_if rfl (fun hb => by exfalso; omega) (fun hb => ?_)
    repeat' (first
      | (refine j_go ?_; first
        | refine j_op0 rfl rfl rfl rfl ?_ | (refine j_kBin rfl ?_; first | refine j_in rfl rfl ⟨by omega, by omega⟩ rfl rfl ?_) | refine j_conv rfl rfl rfl rfl rfl (wrap_u64 (by omega) (by omega)) rfl rfl ?_)
      | (refine r_go ?_; first | refine run_seq ?_ | refine run_region ?_ | refine run_skip ?_)
      | refine seqQ_normal ?_)
    refine j_shr1u rfl rfl rfl rfl rfl rfl ?_
    refine j_half mid rfl rfl rfl rfl rfl (by omega) rfl rfl ?_
    repeat' (first
      | (refine j_go ?_; first
        | refine j_op0 rfl rfl rfl rfl ?_ | (refine j_kBin rfl ?_; first | refine j_in rfl rfl ⟨by omega, by omega⟩ rfl rfl ?_))
      | refine j_nil ?_
      | (refine r_go ?_; first | refine run_seq ?_ | refine run_region ?_)
      | refine seqQ_normal ?_)
    refine run_join (fun z : Nat × Nat => [(0, .os (some b) N cap), (1, .int (a : Int)), (2, .int (m : Int)), (3, .int (e : Int)), (4, .fn 64 []), (18, .int (mid : Int)), (19, .int ((mid + m : Nat) : Int)), (20, .int (z.1 : Int)), (21, .int (z.2 : Int))])
      (fun _ => grB b cap (P ++ A ++ B ++ S) :: (hT ++ F)) (fun z => (mid < m → z.1 = mid + m - e ∧ z.2 = mid) ∧ (¬ mid < m → z.1 = a ∧ z.2 = m)) ?_ (fun ⟨s0, r0⟩ ⟨z1, z2⟩ => ?_)
    · repeat' (first
      | (refine j_go ?_; first
        | refine j_op0 rfl rfl rfl rfl ?_ | (refine j_kBin rfl ?_; first | refine j_in rfl rfl ⟨by omega, by omega⟩ rfl rfl ?_))
      | refine j_nil ?_
      | (refine r_go ?_; first | refine run_seq ?_ | refine run_region ?_ | (refine (run_if rfl (fun hb => ?_) (fun hb => ?_)) <;> first | (exfalso; omega) | skip))
      | refine seqQ_normal ?_)
      · exact joinQ_done (mid + m - e, mid) ⟨fun _ => ⟨rfl, rfl⟩, fun q => absurd (by omega) q⟩ rfl ⟨rfl, rfl, rfl, rfl, rfl, rfl, si (by omega), si (by dsimp only; omega), rfl, trivial⟩
      · exact joinQ_done (a, m) ⟨fun q => absurd q (by omega), fun _ => ⟨rfl, rfl⟩⟩ rfl ⟨rfl, rfl, rfl, rfl, rfl, rfl, si (by omega), rfl, rfl, trivial⟩
    dsimp only at z1 z2 ⊢
    have hz : a ≤ s0 ∧ s0 ≤ r0 ∧ r0 ≤ m ∧ r0 ≤ mid ∧ mid + m ≤ e + s0 := by
      by_cases q : mid < m
      · have := z1 q; omega
      · have := z2 q; omega
    refine run_seq ?_
    refine run_region ?_
    repeat' (first
      | (refine j_go ?_; first
        | refine j_op0 rfl rfl rfl rfl ?_ | (refine j_kBin rfl ?_; first | refine j_in rfl rfl ⟨by omega, by omega⟩ rfl rfl ?_))
      | refine j_nil ?_)
    refine seqQ_normal ?_
    refine run_seq ?_
    refine run_join (fun s : Nat => [(0, .os (some b) N cap), (1, .int (a : Int)), (2, .int (m : Int)), (3, .int (e : Int)), (4, .fn 64 []), (18, .int (mid : Int)), (19, .int ((mid + m : Nat) : Int)), (20, .int (s : Int))])
      (fun _ => grB b cap (P ++ A ++ B ++ S) :: (hT ++ F)) (fun s => s0 ≤ s ∧ s ≤ r0 ∧ (s0 < s → ∀ (h1 : s - 1 - a < A.length) (h2 : mid + m - s - m < B.length), Tri.le A[s - 1 - a] B[mid + m - s - m]) ∧ (s < r0 → ∀ (h1 : mid + m - 1 - s - m < B.length) (h2 : s - a < A.length), Tri.le B[mid + m - 1 - s - m] A[s - a])) ?_ (fun s hs => ?_)
    · refine run_block ?_
      refine run_loop (fun z : Nat × Nat => [(0, .os (some b) N cap), (1, .int (a : Int)), (2, .int (m : Int)), (3, .int (e : Int)), (4, .fn 64 []), (18, .int (mid : Int)), (19, .int ((mid + m : Nat) : Int)), (20, .int (z.1 : Int)), (21, .int (z.2 : Int)), (22, .int ((mid + m - 1 : Nat) : Int))]) (fun _ => grB b cap (P ++ A ++ B ++ S) :: (hT ++ F))
        (fun z => s0 ≤ z.1 ∧ z.1 ≤ z.2 ∧ z.2 ≤ r0 ∧ (s0 < z.1 → ∀ (h1 : z.1 - 1 - a < A.length) (h2 : mid + m - z.1 - m < B.length), Tri.le A[z.1 - 1 - a] B[mid + m - z.1 - m]) ∧ (z.2 < r0 → ∀ (h1 : mid + m - 1 - z.2 - m < B.length) (h2 : z.2 - a < A.length), Tri.le B[mid + m - 1 - z.2 - m] A[z.2 - a])) (fun z => z.2 - z.1) (s0, r0)
        ⟨rfl, rfl, rfl, rfl, rfl, rfl, rfl, rfl, rfl, si (by omega), trivial⟩ rfl ⟨Nat.le_refl _, hz.2.1, Nat.le_refl _, fun q => absurd q (Nat.lt_irrefl _), fun q => absurd q (Nat.lt_irrefl _)⟩ (fun ⟨s, r⟩ ⟨g1, g2, g3, g4, g5⟩ => ?_)
      dsimp only at g1 g2 g3 g4 g5 ⊢
      by_cases hsr : s < r
      · obtain ⟨c, hc⟩ : ∃ c, c = (s + r) / 2 := ⟨_, rfl⟩
        have hia : c - a < A.length := by omega
        have hib : mid + m - 1 - c - m < B.length := by omega
        have c2 := c_compareGroups (B[mid + m - 1 - c - m]).g (A[c - a]).g
        have eA := at_A (P := P) (B := B) (S := S) hia (j := c) (by omega) (by omega)
        have eB := at_B (P := P) (A := A) (S := S) hib (j := mid + m - 1 - c) (by omega) (by omega)
        repeat' (first
      | (refine j_go ?_; first
        | refine j_op0 rfl rfl rfl rfl ?_ | (refine j_kBin rfl ?_; first | refine j_in rfl rfl ⟨by omega, by omega⟩ rfl rfl ?_) | refine j_conv rfl rfl rfl rfl rfl (wrap_u64 (by omega) (by omega)) rfl rfl ?_)
      | refine j_nil ?_
      | (refine r_go ?_; first | refine run_seq ?_ | refine run_region ?_ | (refine (run_if rfl (fun hb => ?_) (fun hb => ?_)) <;> first | (exfalso; omega) | skip) | refine run_block ?_ | refine run_skip ?_)
      | refine seqQ_normal ?_)
        refine j_shr1u rfl rfl rfl rfl rfl rfl ?_
        refine j_half c rfl rfl rfl rfl rfl (by omega) rfl rfl ?_
        repeat' (first
      | (refine j_go ?_; first
        | refine j_op0 rfl rfl rfl rfl ?_ | (refine j_kIdx rfl ?_; first | refine j_midxz rfl rfl rfl rfl rfl (by first | omega | (simp only [List.length_append, List.length_cons, List.length_nil]; omega)) rfl rfl ?_) | (refine j_kBin rfl ?_; first | refine j_in rfl rfl ⟨by omega, by omega⟩ rfl rfl ?_))
      | refine j_nil ?_
      | (refine r_go ?_; first | refine run_seq ?_ | refine run_regionD (by kernel_rfl) ?_)
      | refine seqQ_normal ?_)
        refine j_ldT 0 (mid + m - 1 - c) (L := P ++ A ++ B ++ S) rfl rfl rfl rfl (by first | rfl | omega) (by omega) eB (fun _ _ => loadSt rfl rfl) rfl rfl ?_
        repeat' (first
      | (refine j_go ?_; first
        | refine j_op0 rfl rfl rfl rfl ?_ | (refine j_kIdx rfl ?_; first | refine j_midx rfl rfl rfl rfl rfl (by first | omega | (simp only [List.length_append, List.length_cons, List.length_nil]; omega)) rfl rfl ?_)))
        refine j_ldT 0 c (L := P ++ A ++ B ++ S) rfl rfl rfl rfl (by first | rfl | omega) (by omega) eA (fun _ _ => loadSt rfl rfl) rfl rfl ?_
        skip
        by_cases hbf : Before (B[mid + m - 1 - c - m]).g (A[c - a]).g
        · rw [cmp3_l hbf] at c2
          refine j_kCall rfl rfl rfl rfl ?_
          refine jctq hT c2 (Clo.int _) (fun k hk => List.mem_cons_of_mem _ (List.mem_append_left _ hk)) (fz_cmp (blB _ hib) (blA _ hia)) rfl rfl ?_
          repeat' (first
      | (refine j_go ?_; first
        | refine j_op0 rfl rfl rfl rfl ?_)
      | refine j_nil ?_
      | (refine r_go ?_; first | refine run_region ?_ | (refine (run_ifn rfl (fun hb => ?_) (fun hb => ?_)) <;> first | (exfalso; omega) | skip))
      | refine seqQ_normal ?_ | refine blockQ_normal ?_)
          exact loopQ_next (s, c) ⟨g1, by dsimp only; omega, by dsimp only; omega, g4, fun _ _ _ => Tri.le_of hbf⟩ (by dsimp only; omega) rfl ⟨rfl, rfl, rfl, rfl, rfl, rfl, rfl, rfl, rfl, rfl, trivial⟩
        · have h0 := cmp3_ge (q := Before (A[c - a]).g (B[mid + m - 1 - c - m]).g).2 hbf
          generalize cmp3 (Before (B[mid + m - 1 - c - m]).g (A[c - a]).g) (Before (A[c - a]).g (B[mid + m - 1 - c - m]).g) = cc at c2 h0
          refine j_kCall rfl rfl rfl rfl ?_
          refine jctq hT c2 (Clo.int _) (fun k hk => List.mem_cons_of_mem _ (List.mem_append_left _ hk)) (fz_cmp (blB _ hib) (blA _ hia)) rfl rfl ?_
          repeat' (first
      | (refine j_go ?_; first
        | refine j_op0 rfl rfl rfl rfl ?_ | (refine j_kBin rfl ?_; first | refine j_in rfl rfl ⟨by omega, by omega⟩ rfl rfl ?_))
      | refine j_nil ?_
      | (refine r_go ?_; first | refine run_region ?_ | (refine (run_ifn rfl (fun hb => ?_) (fun hb => ?_)) <;> first | (exfalso; omega) | skip))
      | refine seqQ_normal ?_ | refine blockQ_normal ?_)
          exact loopQ_next (c + 1, r) ⟨by dsimp only; omega, by dsimp only; omega, g3, fun _ h1 h2 => by
            have e1 : c + 1 - 1 - a = c - a := by omega
            have e2 : mid + m - (c + 1) - m = mid + m - 1 - c - m := by omega
            unfold Tri.le
            simp only [e1, e2]
            exact hbf, g5⟩ (by dsimp only; omega) rfl ⟨rfl, rfl, rfl, rfl, rfl, rfl, rfl, nx _, rfl, rfl, trivial⟩
      · obtain rfl : s = r := by omega
        repeat' (first
      | (refine j_go ?_; first
        | refine j_op0 rfl rfl rfl rfl ?_)
      | refine j_nil ?_
      | (refine r_go ?_; first | refine run_seq ?_ | refine run_region ?_ | (refine (run_if rfl (fun hb => ?_) (fun hb => ?_)) <;> first | (exfalso; omega) | skip) | refine run_exit ?_)
      | refine seqQ_normal ?_ | refine seqQ_exit ?_ | refine blockQ_eq ?_ | refine loopQ_exit ?_)
        exact joinQ_done s ⟨g1, g3, g4, g5⟩ rfl ⟨rfl, rfl, rfl, rfl, rfl, rfl, rfl, rfl, trivial⟩

    obtain ⟨g1, g2, g4, g5⟩ := hs
    obtain ⟨t, ht⟩ : ∃ t, t = s - a := ⟨_, rfl⟩
    obtain ⟨u, hu⟩ : ∃ u, u = mid - s := ⟨_, rfl⟩
    have lA1 : (A.take t).length = t := by rw [List.length_take]; omega
    have lA2 : (A.drop t).length = A.length - t := List.length_drop
    have lB1 : (B.take u).length = u := by rw [List.length_take]; omega
    have lB2 : (B.drop u).length = B.length - u := List.length_drop
    have hx := cross tri_tot sA sB (s := t) (e := u) (by omega) (by omega) (fun p q => by
      have w : s0 < s := by
        by_cases y : mid < m
        · have := z1 y; omega
        · have := z2 y; omega
      have e1 : s - 1 - a = t - 1 := by omega
      have e2 : mid + m - s - m = u := by omega
      have := g4 w (by omega) (by omega)
      simp only [e1, e2] at this
      exact this) (fun p q => by
      have w : s < r0 := by
        by_cases y : mid < m
        · have := z1 y; omega
        · have := z2 y; omega
      have e1 : mid + m - 1 - s - m = u - 1 := by omega
      have e2 : s - a = t := by omega
      have := g5 w (by omega) (by omega)
      simp only [e1, e2] at this
      exact this)
    refine run_seq ?_
    refine run_region ?_
    repeat' (first
      | (refine j_go ?_; first
        | refine j_op0 rfl rfl rfl rfl ?_ | (refine j_kBin rfl ?_; first | refine j_in rfl rfl ⟨by omega, by omega⟩ rfl rfl ?_))
      | refine j_nil ?_)
    refine seqQ_normal ?_
    refine run_seq ?_
    refine run_join (fun _ : Unit => [(0, .os (some b) N cap), (1, .int (a : Int)), (2, .int (m : Int)), (3, .int (e : Int)), (4, .fn 64 []), (18, .int (mid : Int)), (20, .int (s : Int)), (24, .int ((mid + m - s : Nat) : Int))]) (fun _ => grB b cap (P ++ (A.take t ++ B.take u) ++ (A.drop t ++ B.drop u) ++ S) :: (hT ++ F)) (fun _ => True) ?_ (fun _ _ => ?_)
    · by_cases hr : s < m ∧ m < mid + m - s
      · have cR := o_rotate b cap N m (.fn 64 []) hL (P ++ A.take t) (A.drop t) (B.take u) (B.drop u ++ S) (by omega) (by omega) (by rw [List.length_append]; omega) (by rw [List.length_append, List.length_append]; omega) s (mid + m - s) (by rw [List.length_append]; omega) (by omega)
        have e1 : P ++ A.take t ++ A.drop t ++ B.take u ++ (B.drop u ++ S) = P ++ A ++ B ++ S := by
          rw [List.append_assoc P, List.take_append_drop, ← List.append_assoc _ (B.drop u), List.append_assoc (P ++ A), List.take_append_drop]
        have e2 : P ++ A.take t ++ B.take u ++ A.drop t ++ (B.drop u ++ S) = P ++ (A.take t ++ B.take u) ++ (A.drop t ++ B.drop u) ++ S := by simp only [List.append_assoc]
        rw [e1, e2] at cR
        repeat' (first
      | (refine j_go ?_; first
        | refine j_op0 rfl rfl rfl rfl ?_ | (refine j_kGuard rfl ?_; first | (refine (j_if rfl rfl rfl (fun hb => ?_) (fun hb => ?_)) <;> first | (exfalso; omega) | skip)))
      | refine j_nil ?_
      | (refine r_go ?_; first | refine run_seq ?_ | refine run_region ?_ | (refine (run_if rfl (fun hb => ?_) (fun hb => ?_)) <;> first | (exfalso; omega) | skip))
      | refine seqQ_normal ?_)
        refine j_kCall rfl rfl rfl rfl ?_
        refine jcp (hT ++ F) cR (List.Perm.refl _) (LeL.cons (Le.refl _) (LeL.cons (Le.refl _) (LeL.cons (Le.refl _) (LeL.cons (le_eqi (by omega)) (LeL.refl _))))) rfl rfl (fun v h1 hR => ?_)
        subst hR
        repeat' (first
      | refine j_nil ?_)
        exact joinQ_done () trivial rfl ⟨rfl, rfl, rfl, rfl, rfl, rfl, rfl, si (by omega), trivial⟩
      · have e3 : P ++ A ++ B ++ S = P ++ (A.take t ++ B.take u) ++ (A.drop t ++ B.drop u) ++ S := by
          by_cases y : s < m
          · have z : u = 0 := by omega
            have w : P ++ (A.take t ++ B.take u) ++ (A.drop t ++ B.drop u) ++ S = P ++ ((A.take t ++ A.drop t) ++ B) ++ S := by rw [z]; simp only [List.take_zero, List.append_nil, List.drop_zero, List.append_assoc]
            rw [w, List.take_append_drop]; simp only [List.append_assoc]
          · have z : t = A.length := by omega
            have w : P ++ (A.take t ++ B.take u) ++ (A.drop t ++ B.drop u) ++ S = P ++ (A ++ (B.take u ++ B.drop u)) ++ S := by rw [z]; simp only [List.take_length, List.drop_length, List.nil_append, List.append_assoc]
            rw [w, List.take_append_drop]; simp only [List.append_assoc]
        repeat' (first
      | (refine j_go ?_; first
        | refine j_op0 rfl rfl rfl rfl ?_ | refine j_off rfl rfl rfl ?_ | (refine j_kGuard rfl ?_; first | (refine (j_if rfl rfl rfl (fun hb => ?_) (fun hb => ?_)) <;> first | (exfalso; omega) | skip)))
      | refine j_nil ?_
      | (refine r_go ?_; first | refine run_seq ?_ | refine run_region ?_ | refine run_cond_f rfl ?_ | (refine (run_if rfl (fun hb => ?_) (fun hb => ?_)) <;> first | (exfalso; omega) | skip) | refine run_skip ?_)
      | refine seqQ_normal ?_)
        all_goals exact joinQ_done () trivial (by rw [e3]) ⟨rfl, rfl, rfl, rfl, rfl, rfl, rfl, si (by omega), trivial⟩
    refine run_seq ?_
    refine run_join (fun _ : List Tri => [(0, .os (some b) N cap), (1, .int (a : Int)), (2, .int (m : Int)), (3, .int (e : Int)), (4, .fn 64 []), (18, .int (mid : Int)), (24, .int ((mid + m - s : Nat) : Int))]) (fun M1 => grB b cap (P ++ M1 ++ (A.drop t ++ B.drop u) ++ S) :: (hT ++ F)) (fun M1 => M1.Perm (A.take t ++ B.take u) ∧ M1.Pairwise Tri.le) ?_ (fun M1 hM1 => ?_)
    · by_cases hr : a < s ∧ s < mid
      · have cM := ih P (A.take t) (B.take u) ((A.drop t ++ B.drop u) ++ S) a s mid (by omega) (by omega) (by omega) (sA.sublist (List.take_sublist _ _)) (sB.sublist (List.take_sublist _ _)) (fun y hy => hbl y (by
          rcases List.mem_append.1 hy with q | q
          · exact List.mem_append_left _ (List.mem_of_mem_take q)
          · exact List.mem_append_right _ (List.mem_of_mem_take q))) (by rw [List.length_append, List.length_append]; omega) ha (by omega) (by omega)
        have e4 : P ++ A.take t ++ B.take u ++ ((A.drop t ++ B.drop u) ++ S) = P ++ (A.take t ++ B.take u) ++ (A.drop t ++ B.drop u) ++ S := by simp only [List.append_assoc]
        rw [e4] at cM
        repeat' (first
      | (refine j_go ?_; first
        | refine j_op0 rfl rfl rfl rfl ?_ | (refine j_kGuard rfl ?_; first | (refine (j_if rfl rfl rfl (fun hb => ?_) (fun hb => ?_)) <;> first | (exfalso; omega) | skip)))
      | refine j_nil ?_
      | (refine r_go ?_; first | refine run_seq ?_ | refine run_region ?_ | (refine (run_if rfl (fun hb => ?_) (fun hb => ?_)) <;> first | (exfalso; omega) | skip))
      | refine seqQ_normal ?_)
        refine j_kCall rfl rfl rfl rfl ?_
        refine jcp F cM (List.Perm.refl _) (LeL.refl _) rfl rfl (fun v h1 hR => ?_)
        obtain ⟨M1, hM, rfl⟩ := hR
        repeat' (first
      | refine j_nil ?_)
        exact joinQ_done M1 hM (by rw [← List.append_assoc (P ++ M1)]; rfl) ⟨rfl, rfl, rfl, rfl, rfl, rfl, rfl, trivial⟩
      · have srt : (A.take t ++ B.take u).Pairwise Tri.le := by
          by_cases y : a < s
          · rw [show u = 0 from by omega, List.take_zero, List.append_nil]; exact sA.sublist (List.take_sublist _ _)
          · rw [show t = 0 from by omega, List.take_zero, List.nil_append]; exact sB.sublist (List.take_sublist _ _)
        repeat' (first
      | (refine j_go ?_; first
        | refine j_op0 rfl rfl rfl rfl ?_ | refine j_off rfl rfl rfl ?_ | (refine j_kGuard rfl ?_; first | (refine (j_if rfl rfl rfl (fun hb => ?_) (fun hb => ?_)) <;> first | (exfalso; omega) | skip)))
      | refine j_nil ?_
      | (refine r_go ?_; first | refine run_seq ?_ | refine run_region ?_ | refine run_cond_f rfl ?_ | (refine (run_if rfl (fun hb => ?_) (fun hb => ?_)) <;> first | (exfalso; omega) | skip) | refine run_skip ?_)
      | refine seqQ_normal ?_)
        all_goals exact joinQ_done (A.take t ++ B.take u) ⟨List.Perm.refl _, srt⟩ rfl ⟨rfl, rfl, rfl, rfl, rfl, rfl, rfl, trivial⟩

    obtain ⟨p1, s1⟩ := hM1
    have lM1 := p1.length_eq
    rw [List.length_append] at lM1
    by_cases hd : mid < mid + m - s ∧ mid + m - s < e
    · have cM := ih (P ++ M1) (A.drop t) (B.drop u) S mid (mid + m - s) e (by omega) (by omega) (by omega) (sA.sublist (List.drop_sublist _ _)) (sB.sublist (List.drop_sublist _ _)) (fun y hy => hbl y (by
        rcases List.mem_append.1 hy with q | q
        · exact List.mem_append_left _ (List.mem_of_mem_drop q)
        · exact List.mem_append_right _ (List.mem_of_mem_drop q))) (by rw [List.length_append]; omega) (by rw [List.length_append]; omega) (by rw [List.length_append]; omega) (by rw [List.length_append]; omega)
      have e5 : P ++ M1 ++ A.drop t ++ B.drop u ++ S = P ++ M1 ++ (A.drop t ++ B.drop u) ++ S := by simp only [List.append_assoc]
      rw [e5] at cM
      repeat' (first
      | (refine j_go ?_; first
        | refine j_op0 rfl rfl rfl rfl ?_ | (refine j_kGuard rfl ?_; first | (refine (j_if rfl rfl rfl (fun hb => ?_) (fun hb => ?_)) <;> first | (exfalso; omega) | skip)))
      | refine j_nil ?_
      | (refine r_go ?_; first | refine run_seq ?_ | refine run_region ?_ | (refine (run_if rfl (fun hb => ?_) (fun hb => ?_)) <;> first | (exfalso; omega) | skip))
      | refine seqQ_normal ?_)
      refine j_kCall rfl rfl rfl rfl ?_
      refine jcp F cM (List.Perm.refl _) (LeL.refl _) rfl rfl (fun v h1 hR => ?_)
      obtain ⟨M2, ⟨p2, s2⟩, rfl⟩ := hR
      repeat' (first
      | refine j_nil ?_)
      exact endD_ret (h1 := _ :: hT) rfl .nil (Le.refl _) ⟨M1 ++ M2, merge_of hx p1 p2 s1 s2, by rw [← List.append_assoc P M1 M2]⟩ (.inr rfl)
    · have srt : (A.drop t ++ B.drop u).Pairwise Tri.le := by
        by_cases y : mid + m - s < e
        · rw [show t = A.length from by omega, List.drop_length, List.nil_append]; exact sB.sublist (List.drop_sublist _ _)
        · rw [show u = B.length from by omega, List.drop_length, List.append_nil]; exact sA.sublist (List.drop_sublist _ _)
      repeat' (first
      | (refine j_go ?_; first
        | refine j_op0 rfl rfl rfl rfl ?_ | refine j_off rfl rfl rfl ?_ | (refine j_kGuard rfl ?_; first | (refine (j_if rfl rfl rfl (fun hb => ?_) (fun hb => ?_)) <;> first | (exfalso; omega) | skip)))
      | refine j_nil ?_
      | (refine r_go ?_; first | refine run_seq ?_ | refine run_region ?_ | refine run_cond_f rfl ?_ | (refine (run_if rfl (fun hb => ?_) (fun hb => ?_)) <;> first | (exfalso; omega) | skip) | refine run_skip ?_)
      | refine seqQ_normal ?_)
      all_goals exact endD_ret (h1 := _ :: hT) rfl .nil (Le.refl _) ⟨M1 ++ (A.drop t ++ B.drop u), merge_of hx p1 (List.Perm.refl _) s1 srt, by rw [← List.append_assoc P M1]⟩ (.inr rfl)
end Go.Proofs.YtbhiaccbpbnbmaaGreat
