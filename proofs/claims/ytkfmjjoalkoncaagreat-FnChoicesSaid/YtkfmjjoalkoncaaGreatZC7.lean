/-
  Packings: all of them, by the program, each list. No condition.
-/
import Derived.Test.YtkfmjjoalkoncaaGreatZC6
namespace Go.Proofs.YtkfmjjoalkoncaaGreat
open Go.AI
set_option maxRecDepth 8000
set_option maxHeartbeats 3200000

theorem o_packingsX (K : Nat) (bag : List Int) (parts : List (List Int)) (hb0 : Bgk K bag) (hp : ∀ p ∈ parts, Ptk K p) (h8 : parts.length ≤ 8) (h1 : 1 ≤ parts.length) (h16 : tot bag ≤ 16) : Does Tryz.prog 94 [.sl (bag.map Go.AI.encI), .sl (parts.map (encS Go.AI.encI)), .fn 95 [.ip [.sl (parts.map (encS Go.AI.encI))]]] []
    (fun v h' => h' = [] ∧ (packN parts parts bag ≤ 2000 → v = .tup [.sl ((packL parts parts bag).map (encS Go.AI.encI)), .int 0]) ∧ (2000 < packN parts parts bag → ∃ x, v = .tup [x, .int 3])) := by
  refine fn_of_runD tyOk ztOk mix Tryz.func94 rfl (by decide) Tryz.ntmps94 (fun w0 F => ?_)
  change Run _ _ _ _ _ F
  repeat' (first
      | (refine j_go ?_; first
        | refine j_op0 rfl rfl rfl rfl ?_ | (refine j_kCall rfl rfl rfl rfl ?_; first | refine jc (c_bagAndParts K _ _ hb0 hp h8) (LeL.refl _) rfl rfl ?_ | refine jc (c_bagSize _ (Bag.small (Ptk.bagk hb0))) (LeL.refl _) rfl rfl ?_) | refine j_box rfl rfl rfl rfl rfl rfl ?_)
      | refine j_nil ?_
      | (refine r_go ?_; first | refine run_seq ?_ | refine run_region ?_ | (refine (run_if rfl (fun hb => ?_) (fun hb => ?_)) <;> first | (exfalso; omega) | skip) | (refine (run_ifn rfl (fun hb => ?_) (fun hb => ?_)) <;> first | (exfalso; omega) | skip) | refine run_skip ?_)
      | refine seqQ_normal ?_)
  refine run_regionA ?_
  refine ja_weak (e' := [(0, .sl (bag.map Go.AI.encI)), (4, .ip [.sl (parts.map (encS Go.AI.encI))]), (5, .ip [.fn 95 [.ip [.sl (parts.map (encS Go.AI.encI))]]])]) ⟨rfl, rfl, rfl, trivial⟩ (List.Perm.refl _) ?_
  refine ja_pred2 (fun P R hP hR => ?_)
  have fin : ∀ b1 b4 b5 b6 : Nat, R .normal [(21, .agg [.os none 0 0]), (22, .op (some b1) 0), (23, .sl (parts.map (encS Go.AI.encI))), (24, .int parts.length), (25, .os (some b4) parts.length parts.length), (9, .op (some b5) 0), (10, .op (some b6) 0), (0, .sl (bag.map Go.AI.encI)), (4, .ip [.sl (parts.map (encS Go.AI.encI))]), (5, .ip [.fn 95 [.ip [.sl (parts.map (encS Go.AI.encI))]]])] ((⟨some b1, 149, 1, [.os none 0 0]⟩ : Blk) :: (⟨some b4, 2, parts.length * 1, ((List.replicate parts.length (0 : Int)).map Go.AI.encI).flatten⟩ : Blk) :: (⟨some b5, 147, 1, [.op (some b1) 0]⟩ : Blk) :: (⟨some b6, 24, 1, [.os (some b4) parts.length parts.length]⟩ : Blk) :: F) := by
    intro b1 b4 b5 b6
    rw [hR]
    refine seqQ_normal ?_
    refine run_view (view_freezeP 2 9 rfl rfl) ?_
    refine run_view (view_freezeP 2 10 rfl rfl) ?_
    repeat' (first
      | (refine j_go ?_; first
        | refine j_op0 rfl rfl rfl rfl ?_ | (refine j_kLoad rfl ?_; first | refine j_mload 0 rfl rfl rfl rfl rfl rfl rfl ?_) | (refine j_kStore rfl ?_; first | refine j_store 0 rfl rfl rfl rfl rfl rfl rfl rfl rfl rfl rfl ?_) | refine j_alloc rfl rfl rfl rfl rfl (fun _ => ?_))
      | refine j_nil ?_
      | (refine r_go ?_; first | refine run_seq ?_ | refine run_region ?_)
      | refine seqQ_normal ?_)
    rename_i b11
    have H0 : FrX ([] ++ parts) b1 b4 ([] ++ parts).length parts.length b11 [] 0 [] (selfP parts b1 b4 parts.length parts.length b11 :: ([⟨some b1, 149, 1, [.os none 0 0]⟩, ⟨none, 24, 0 * 1, []⟩] ++ [⟨some b4, 2, parts.length * 1, ((List.replicate parts.length (0 : Int)).map Go.AI.encI).flatten⟩])) :=
      ⟨[⟨some b1, 149, 1, [.os none 0 0]⟩, ⟨none, 24, 0 * 1, []⟩], List.replicate parts.length (0 : Int), ⟨none, 0, rfl⟩, ⟨by simp, rfl⟩, rfl⟩
    have cF := o_pkFromX K b1 b4 parts.length b11 parts [] bag [] [] _ hp h8 h1 hb0 (by simp) H0
    rw [List.length_nil, Nat.zero_add] at cF
    refine j_view (view_none 24 0 rfl) ?_
    refine j_kCall rfl rfl rfl rfl ?_
    refine jcp F cF (show List.Perm ((⟨none, 24, 0 * 1, []⟩ : Blk) :: selfP parts b1 b4 parts.length parts.length b11 :: (⟨some b1, 149, 1, [.os none 0 0]⟩ : Blk) :: (⟨some b4, 2, parts.length * 1, ((List.replicate parts.length (0 : Int)).map Go.AI.encI).flatten⟩ : Blk) :: F) (selfP parts b1 b4 parts.length parts.length b11 :: (⟨some b1, 149, 1, [.os none 0 0]⟩ : Blk) :: (⟨none, 24, 0 * 1, []⟩ : Blk) :: (⟨some b4, 2, parts.length * 1, ((List.replicate parts.length (0 : Int)).map Go.AI.encI).flatten⟩ : Blk) :: F) from by classical exact List.perm_iff_count.2 fun _ => by simp only [List.count_cons]; omega) (LeL.cons (le_iN rfl) (LeL.refl _)) rfl rfl (fun v h3 hR3 => ?_)
    obtain ⟨rfl, L', hl', hx', hL, c', q, hcl, rfl⟩ := hR3
    repeat' (first
      | (refine j_go ?_; first
        | refine j_op0 rfl rfl rfl rfl ?_)
      | refine j_nil ?_
      | (refine r_go ?_; first | refine run_seq ?_ | refine run_region ?_)
      | refine seqQ_normal ?_)
    refine j_kCall rfl rfl rfl rfl ?_
    refine jcp (selfP ([] ++ parts) b1 b4 ([] ++ parts).length parts.length b11 :: ([⟨some b4, 2, parts.length * 1, (c'.map Go.AI.encI).flatten⟩] ++ F)) (o_listResX b1 L' hL q) (by
      change List.Perm (selfP ([] ++ parts) b1 b4 ([] ++ parts).length parts.length b11 :: (hL ++ [⟨some b4, 2, parts.length * 1, (c'.map Go.AI.encI).flatten⟩] ++ F)) _
      rw [List.append_assoc]
      exact List.perm_middle.symm) (LeL.refl _) rfl rfl (fun v h4 hR4 => ?_)
    obtain ⟨rfl, r1, r2⟩ := hR4
    have e0 : packN ([] ++ parts) parts bag = packN parts parts bag := rfl
    rw [e0] at hl' hx'
    by_cases hN : packN parts parts bag ≤ 2000
    · have eL : L' = packL parts parts bag := by
        have := hx' hN
        simpa using this
      have eV := r1 (by omega)
      rw [eL] at eV
      subst eV
      repeat' (first
      | (refine j_go ?_; first
        | refine j_op0 rfl rfl rfl rfl ?_)
      | refine j_nil ?_
      | (refine r_go ?_; first | refine run_ret ?_)
      | refine seqQ_normal ?_)
      refine endD_view (view_sub (h0 := F) (List.Sublist.cons _ (List.Sublist.cons _ (List.Sublist.refl _)))) ?_
      exact endD_ret (h1 := []) rfl (.cons (.tmp rfl) (.cons (.tmp rfl) .nil)) (Le.refl _) ⟨rfl, fun _ => rfl, fun q => by omega⟩ (.inl rfl)
    · obtain ⟨x, rfl⟩ := r2 (by omega)
      repeat' (first
      | (refine j_go ?_; first
        | refine j_op0 rfl rfl rfl rfl ?_)
      | refine j_nil ?_
      | (refine r_go ?_; first | refine run_ret ?_)
      | refine seqQ_normal ?_)
      refine endD_view (view_sub (h0 := F) (List.Sublist.cons _ (List.Sublist.cons _ (List.Sublist.refl _)))) ?_
      exact endD_ret (h1 := []) rfl (.cons (.tmp rfl) (.cons (.tmp rfl) .nil)) (Le.refl _) ⟨rfl, fun q => absurd q hN, fun _ => ⟨x, rfl⟩⟩ (.inl rfl)
  have D012345678 : ∀ b1 b4 b5 b6 : Nat, P [true, true, true, true, true, true, true, true, true] [(21, .agg [.os none 0 0]), (22, .op (some b1) 0), (23, .sl (parts.map (encS Go.AI.encI))), (24, .int parts.length), (25, .os (some b4) parts.length parts.length), (9, .op (some b5) 0), (10, .op (some b6) 0), (0, .sl (bag.map Go.AI.encI)), (4, .ip [.sl (parts.map (encS Go.AI.encI))]), (5, .ip [.fn 95 [.ip [.sl (parts.map (encS Go.AI.encI))]]])] ((⟨some b1, 149, 1, [.os none 0 0]⟩ : Blk) :: (⟨some b4, 2, parts.length * 1, ((List.replicate parts.length (0 : Int)).map Go.AI.encI).flatten⟩ : Blk) :: (⟨some b5, 147, 1, [.op (some b1) 0]⟩ : Blk) :: (⟨some b6, 24, 1, [.os (some b4) parts.length parts.length]⟩ : Blk) :: F) := by
    intro b1 b4 b5 b6
    rw [hP]
    refine ja_done (by kernel_rfl) ?_
    have q := fin b1 b4 b5 b6
    rw [hR] at q
    exact q
  have D01234567 : ∀ b1 b4 b5 b6 : Nat, P [true, true, true, true, true, true, true, true, false] [(21, .agg [.os none 0 0]), (22, .op (some b1) 0), (23, .sl (parts.map (encS Go.AI.encI))), (24, .int parts.length), (25, .os (some b4) parts.length parts.length), (9, .op (some b5) 0), (10, .op (some b6) 0), (0, .sl (bag.map Go.AI.encI)), (4, .ip [.sl (parts.map (encS Go.AI.encI))]), (5, .ip [.fn 95 [.ip [.sl (parts.map (encS Go.AI.encI))]]])] ((⟨some b1, 149, 1, [.os none 0 0]⟩ : Blk) :: (⟨some b4, 2, parts.length * 1, ((List.replicate parts.length (0 : Int)).map Go.AI.encI).flatten⟩ : Blk) :: (⟨some b5, 147, 1, [.op (some b1) 0]⟩ : Blk) :: (⟨some b6, 24, 1, [.os none 0 0]⟩ : Blk) :: F) := by
    intro b1 b4 b5 b6
    rw [hP]
    refine ja_step (rs := [8]) (by kernel_rfl) (by simp) (fun i hi => ?_)
    simp only [List.mem_cons, List.not_mem_nil, or_false] at hi
    rcases hi with rfl
    · refine ⟨_, rfl, ?_⟩
      refine j_storeN 3 rfl rfl rfl rfl rfl rfl rfl rfl rfl rfl rfl ?_
      refine j_nil ⟨rfl, ?_⟩
      have q := D012345678 b1 b4 b5 b6
      rw [hP] at q
      exact ja_weak (by exact ⟨rfl, rfl, rfl, rfl, rfl, rfl, rfl, rfl, rfl, rfl, trivial⟩) (List.Perm.refl _) q
  have D0123456 : ∀ b1 b4 b5 b6 : Nat, P [true, true, true, true, true, true, true, false, false] [(21, .agg [.os none 0 0]), (22, .op (some b1) 0), (23, .sl (parts.map (encS Go.AI.encI))), (24, .int parts.length), (25, .os (some b4) parts.length parts.length), (9, .op (some b5) 0), (10, .op (some b6) 0), (0, .sl (bag.map Go.AI.encI)), (4, .ip [.sl (parts.map (encS Go.AI.encI))]), (5, .ip [.fn 95 [.ip [.sl (parts.map (encS Go.AI.encI))]]])] ((⟨some b1, 149, 1, [.os none 0 0]⟩ : Blk) :: (⟨some b4, 2, parts.length * 1, ((List.replicate parts.length (0 : Int)).map Go.AI.encI).flatten⟩ : Blk) :: (⟨some b5, 147, 1, [.op none 0]⟩ : Blk) :: (⟨some b6, 24, 1, [.os none 0 0]⟩ : Blk) :: F) := by
    intro b1 b4 b5 b6
    rw [hP]
    refine ja_step (rs := [7]) (by kernel_rfl) (by simp) (fun i hi => ?_)
    simp only [List.mem_cons, List.not_mem_nil, or_false] at hi
    rcases hi with rfl
    · refine ⟨_, rfl, ?_⟩
      refine j_storeN 2 rfl rfl rfl rfl rfl rfl rfl rfl rfl rfl rfl ?_
      refine j_nil ⟨rfl, ?_⟩
      have q := D01234567 b1 b4 b5 b6
      rw [hP] at q
      exact ja_weak (by exact ⟨rfl, rfl, rfl, rfl, rfl, rfl, rfl, rfl, rfl, rfl, trivial⟩) (List.Perm.refl _) q
  have D0123567 : ∀ b1 b5 b6 : Nat, P [true, true, true, true, false, true, true, true, false] [(21, .agg [.os none 0 0]), (22, .op (some b1) 0), (23, .sl (parts.map (encS Go.AI.encI))), (24, .int parts.length), (9, .op (some b5) 0), (10, .op (some b6) 0), (0, .sl (bag.map Go.AI.encI)), (4, .ip [.sl (parts.map (encS Go.AI.encI))]), (5, .ip [.fn 95 [.ip [.sl (parts.map (encS Go.AI.encI))]]])] ((⟨some b1, 149, 1, [.os none 0 0]⟩ : Blk) :: (⟨some b5, 147, 1, [.op (some b1) 0]⟩ : Blk) :: (⟨some b6, 24, 1, [.os none 0 0]⟩ : Blk) :: F) := by
    intro b1 b5 b6
    rw [hP]
    refine ja_step (rs := [4]) (by kernel_rfl) (by simp) (fun i hi => ?_)
    simp only [List.mem_cons, List.not_mem_nil, or_false] at hi
    rcases hi with rfl
    · refine ⟨_, rfl, ?_⟩
      refine j_makeI (g := Go.AI.encI) (m := parts.length) 0 rfl rfl rfl rfl rfl rfl rfl rfl rfl (by omega) rfl rfl (fun b4 => ?_)
      refine j_nil ⟨rfl, ?_⟩
      have q := D01234567 b1 b4 b5 b6
      rw [hP] at q
      exact ja_weak (by exact ⟨rfl, rfl, rfl, rfl, rfl, rfl, rfl, rfl, rfl, rfl, trivial⟩) (show List.Perm ((⟨some b4, 2, parts.length * 1, ((List.replicate parts.length (0 : Int)).map Go.AI.encI).flatten⟩ : Blk) :: (⟨some b1, 149, 1, [.os none 0 0]⟩ : Blk) :: (⟨some b5, 147, 1, [.op (some b1) 0]⟩ : Blk) :: (⟨some b6, 24, 1, [.os none 0 0]⟩ : Blk) :: F) ((⟨some b1, 149, 1, [.os none 0 0]⟩ : Blk) :: (⟨some b4, 2, parts.length * 1, ((List.replicate parts.length (0 : Int)).map Go.AI.encI).flatten⟩ : Blk) :: (⟨some b5, 147, 1, [.op (some b1) 0]⟩ : Blk) :: (⟨some b6, 24, 1, [.os none 0 0]⟩ : Blk) :: F) from by classical exact List.perm_iff_count.2 fun _ => by simp only [List.count_cons]; omega) q
  have D012345 : ∀ b1 b4 b5 : Nat, P [true, true, true, true, true, true, false, false, false] [(21, .agg [.os none 0 0]), (22, .op (some b1) 0), (23, .sl (parts.map (encS Go.AI.encI))), (24, .int parts.length), (25, .os (some b4) parts.length parts.length), (9, .op (some b5) 0), (0, .sl (bag.map Go.AI.encI)), (4, .ip [.sl (parts.map (encS Go.AI.encI))]), (5, .ip [.fn 95 [.ip [.sl (parts.map (encS Go.AI.encI))]]])] ((⟨some b1, 149, 1, [.os none 0 0]⟩ : Blk) :: (⟨some b4, 2, parts.length * 1, ((List.replicate parts.length (0 : Int)).map Go.AI.encI).flatten⟩ : Blk) :: (⟨some b5, 147, 1, [.op none 0]⟩ : Blk) :: F) := by
    intro b1 b4 b5
    rw [hP]
    refine ja_step (rs := [6]) (by kernel_rfl) (by simp) (fun i hi => ?_)
    simp only [List.mem_cons, List.not_mem_nil, or_false] at hi
    rcases hi with rfl
    · refine ⟨_, rfl, ?_⟩
      refine j_alloc rfl rfl rfl rfl rfl (fun b6 => ?_)
      refine j_nil ⟨rfl, ?_⟩
      have q := D0123456 b1 b4 b5 b6
      rw [hP] at q
      exact ja_weak (by exact ⟨rfl, rfl, rfl, rfl, rfl, rfl, rfl, rfl, rfl, rfl, trivial⟩) (show List.Perm ((⟨some b6, 24, 1, [.os none 0 0]⟩ : Blk) :: (⟨some b1, 149, 1, [.os none 0 0]⟩ : Blk) :: (⟨some b4, 2, parts.length * 1, ((List.replicate parts.length (0 : Int)).map Go.AI.encI).flatten⟩ : Blk) :: (⟨some b5, 147, 1, [.op none 0]⟩ : Blk) :: F) ((⟨some b1, 149, 1, [.os none 0 0]⟩ : Blk) :: (⟨some b4, 2, parts.length * 1, ((List.replicate parts.length (0 : Int)).map Go.AI.encI).flatten⟩ : Blk) :: (⟨some b5, 147, 1, [.op none 0]⟩ : Blk) :: (⟨some b6, 24, 1, [.os none 0 0]⟩ : Blk) :: F) from by classical exact List.perm_iff_count.2 fun _ => by simp only [List.count_cons]; omega) q
  have D012346 : ∀ b1 b4 b6 : Nat, P [true, true, true, true, true, false, true, false, false] [(21, .agg [.os none 0 0]), (22, .op (some b1) 0), (23, .sl (parts.map (encS Go.AI.encI))), (24, .int parts.length), (25, .os (some b4) parts.length parts.length), (10, .op (some b6) 0), (0, .sl (bag.map Go.AI.encI)), (4, .ip [.sl (parts.map (encS Go.AI.encI))]), (5, .ip [.fn 95 [.ip [.sl (parts.map (encS Go.AI.encI))]]])] ((⟨some b1, 149, 1, [.os none 0 0]⟩ : Blk) :: (⟨some b4, 2, parts.length * 1, ((List.replicate parts.length (0 : Int)).map Go.AI.encI).flatten⟩ : Blk) :: (⟨some b6, 24, 1, [.os none 0 0]⟩ : Blk) :: F) := by
    intro b1 b4 b6
    rw [hP]
    refine ja_step (rs := [5]) (by kernel_rfl) (by simp) (fun i hi => ?_)
    simp only [List.mem_cons, List.not_mem_nil, or_false] at hi
    rcases hi with rfl
    · refine ⟨_, rfl, ?_⟩
      refine j_alloc rfl rfl rfl rfl rfl (fun b5 => ?_)
      refine j_nil ⟨rfl, ?_⟩
      have q := D0123456 b1 b4 b5 b6
      rw [hP] at q
      exact ja_weak (by exact ⟨rfl, rfl, rfl, rfl, rfl, rfl, rfl, rfl, rfl, rfl, trivial⟩) (show List.Perm ((⟨some b5, 147, 1, [.op none 0]⟩ : Blk) :: (⟨some b1, 149, 1, [.os none 0 0]⟩ : Blk) :: (⟨some b4, 2, parts.length * 1, ((List.replicate parts.length (0 : Int)).map Go.AI.encI).flatten⟩ : Blk) :: (⟨some b6, 24, 1, [.os none 0 0]⟩ : Blk) :: F) ((⟨some b1, 149, 1, [.os none 0 0]⟩ : Blk) :: (⟨some b4, 2, parts.length * 1, ((List.replicate parts.length (0 : Int)).map Go.AI.encI).flatten⟩ : Blk) :: (⟨some b5, 147, 1, [.op none 0]⟩ : Blk) :: (⟨some b6, 24, 1, [.os none 0 0]⟩ : Blk) :: F) from by classical exact List.perm_iff_count.2 fun _ => by simp only [List.count_cons]; omega) q
  have D012356 : ∀ b1 b5 b6 : Nat, P [true, true, true, true, false, true, true, false, false] [(21, .agg [.os none 0 0]), (22, .op (some b1) 0), (23, .sl (parts.map (encS Go.AI.encI))), (24, .int parts.length), (9, .op (some b5) 0), (10, .op (some b6) 0), (0, .sl (bag.map Go.AI.encI)), (4, .ip [.sl (parts.map (encS Go.AI.encI))]), (5, .ip [.fn 95 [.ip [.sl (parts.map (encS Go.AI.encI))]]])] ((⟨some b1, 149, 1, [.os none 0 0]⟩ : Blk) :: (⟨some b5, 147, 1, [.op none 0]⟩ : Blk) :: (⟨some b6, 24, 1, [.os none 0 0]⟩ : Blk) :: F) := by
    intro b1 b5 b6
    rw [hP]
    refine ja_step (rs := [4, 7]) (by kernel_rfl) (by simp) (fun i hi => ?_)
    simp only [List.mem_cons, List.not_mem_nil, or_false] at hi
    rcases hi with rfl | rfl
    · refine ⟨_, rfl, ?_⟩
      refine j_makeI (g := Go.AI.encI) (m := parts.length) 0 rfl rfl rfl rfl rfl rfl rfl rfl rfl (by omega) rfl rfl (fun b4 => ?_)
      refine j_nil ⟨rfl, ?_⟩
      have q := D0123456 b1 b4 b5 b6
      rw [hP] at q
      exact ja_weak (by exact ⟨rfl, rfl, rfl, rfl, rfl, rfl, rfl, rfl, rfl, rfl, trivial⟩) (show List.Perm ((⟨some b4, 2, parts.length * 1, ((List.replicate parts.length (0 : Int)).map Go.AI.encI).flatten⟩ : Blk) :: (⟨some b1, 149, 1, [.os none 0 0]⟩ : Blk) :: (⟨some b5, 147, 1, [.op none 0]⟩ : Blk) :: (⟨some b6, 24, 1, [.os none 0 0]⟩ : Blk) :: F) ((⟨some b1, 149, 1, [.os none 0 0]⟩ : Blk) :: (⟨some b4, 2, parts.length * 1, ((List.replicate parts.length (0 : Int)).map Go.AI.encI).flatten⟩ : Blk) :: (⟨some b5, 147, 1, [.op none 0]⟩ : Blk) :: (⟨some b6, 24, 1, [.os none 0 0]⟩ : Blk) :: F) from by classical exact List.perm_iff_count.2 fun _ => by simp only [List.count_cons]; omega) q
    · refine ⟨_, rfl, ?_⟩
      refine j_storeN 1 rfl rfl rfl rfl rfl rfl rfl rfl rfl rfl rfl ?_
      refine j_nil ⟨rfl, ?_⟩
      have q := D0123567 b1 b5 b6
      rw [hP] at q
      exact ja_weak (by exact ⟨rfl, rfl, rfl, rfl, rfl, rfl, rfl, rfl, rfl, trivial⟩) (List.Perm.refl _) q
  have D012567 : ∀ b1 b5 b6 : Nat, P [true, true, true, false, false, true, true, true, false] [(21, .agg [.os none 0 0]), (22, .op (some b1) 0), (23, .sl (parts.map (encS Go.AI.encI))), (9, .op (some b5) 0), (10, .op (some b6) 0), (0, .sl (bag.map Go.AI.encI)), (4, .ip [.sl (parts.map (encS Go.AI.encI))]), (5, .ip [.fn 95 [.ip [.sl (parts.map (encS Go.AI.encI))]]])] ((⟨some b1, 149, 1, [.os none 0 0]⟩ : Blk) :: (⟨some b5, 147, 1, [.op (some b1) 0]⟩ : Blk) :: (⟨some b6, 24, 1, [.os none 0 0]⟩ : Blk) :: F) := by
    intro b1 b5 b6
    rw [hP]
    refine ja_step (rs := [3]) (by kernel_rfl) (by simp) (fun i hi => ?_)
    simp only [List.mem_cons, List.not_mem_nil, or_false] at hi
    rcases hi with rfl
    · refine ⟨_, rfl, ?_⟩
      refine j_len rfl rfl rfl rfl rfl rfl ?_
      refine j_nil ⟨rfl, ?_⟩
      have q := D0123567 b1 b5 b6
      rw [hP] at q
      exact ja_weak (by exact ⟨rfl, rfl, rfl, rfl, rfl, rfl, rfl, rfl, rfl, trivial⟩) (List.Perm.refl _) q
  have D023456 : ∀ b4 b5 b6 : Nat, P [true, false, true, true, true, true, true, false, false] [(21, .agg [.os none 0 0]), (23, .sl (parts.map (encS Go.AI.encI))), (24, .int parts.length), (25, .os (some b4) parts.length parts.length), (9, .op (some b5) 0), (10, .op (some b6) 0), (0, .sl (bag.map Go.AI.encI)), (4, .ip [.sl (parts.map (encS Go.AI.encI))]), (5, .ip [.fn 95 [.ip [.sl (parts.map (encS Go.AI.encI))]]])] ((⟨some b4, 2, parts.length * 1, ((List.replicate parts.length (0 : Int)).map Go.AI.encI).flatten⟩ : Blk) :: (⟨some b5, 147, 1, [.op none 0]⟩ : Blk) :: (⟨some b6, 24, 1, [.os none 0 0]⟩ : Blk) :: F) := by
    intro b4 b5 b6
    rw [hP]
    refine ja_step (rs := [1]) (by kernel_rfl) (by simp) (fun i hi => ?_)
    simp only [List.mem_cons, List.not_mem_nil, or_false] at hi
    rcases hi with rfl
    · refine ⟨_, rfl, ?_⟩
      refine j_boxM rfl rfl rfl rfl rfl rfl (fun b1 => ?_)
      refine j_nil ⟨rfl, ?_⟩
      have q := D0123456 b1 b4 b5 b6
      rw [hP] at q
      exact ja_weak (by exact ⟨rfl, rfl, rfl, rfl, rfl, rfl, rfl, rfl, rfl, rfl, trivial⟩) (List.Perm.refl _) q
  have D01234 : ∀ b1 b4 : Nat, P [true, true, true, true, true, false, false, false, false] [(21, .agg [.os none 0 0]), (22, .op (some b1) 0), (23, .sl (parts.map (encS Go.AI.encI))), (24, .int parts.length), (25, .os (some b4) parts.length parts.length), (0, .sl (bag.map Go.AI.encI)), (4, .ip [.sl (parts.map (encS Go.AI.encI))]), (5, .ip [.fn 95 [.ip [.sl (parts.map (encS Go.AI.encI))]]])] ((⟨some b1, 149, 1, [.os none 0 0]⟩ : Blk) :: (⟨some b4, 2, parts.length * 1, ((List.replicate parts.length (0 : Int)).map Go.AI.encI).flatten⟩ : Blk) :: F) := by
    intro b1 b4
    rw [hP]
    refine ja_step (rs := [5, 6]) (by kernel_rfl) (by simp) (fun i hi => ?_)
    simp only [List.mem_cons, List.not_mem_nil, or_false] at hi
    rcases hi with rfl | rfl
    · refine ⟨_, rfl, ?_⟩
      refine j_alloc rfl rfl rfl rfl rfl (fun b5 => ?_)
      refine j_nil ⟨rfl, ?_⟩
      have q := D012345 b1 b4 b5
      rw [hP] at q
      exact ja_weak (by exact ⟨rfl, rfl, rfl, rfl, rfl, rfl, rfl, rfl, rfl, trivial⟩) (show List.Perm ((⟨some b5, 147, 1, [.op none 0]⟩ : Blk) :: (⟨some b1, 149, 1, [.os none 0 0]⟩ : Blk) :: (⟨some b4, 2, parts.length * 1, ((List.replicate parts.length (0 : Int)).map Go.AI.encI).flatten⟩ : Blk) :: F) ((⟨some b1, 149, 1, [.os none 0 0]⟩ : Blk) :: (⟨some b4, 2, parts.length * 1, ((List.replicate parts.length (0 : Int)).map Go.AI.encI).flatten⟩ : Blk) :: (⟨some b5, 147, 1, [.op none 0]⟩ : Blk) :: F) from by classical exact List.perm_iff_count.2 fun _ => by simp only [List.count_cons]; omega) q
    · refine ⟨_, rfl, ?_⟩
      refine j_alloc rfl rfl rfl rfl rfl (fun b6 => ?_)
      refine j_nil ⟨rfl, ?_⟩
      have q := D012346 b1 b4 b6
      rw [hP] at q
      exact ja_weak (by exact ⟨rfl, rfl, rfl, rfl, rfl, rfl, rfl, rfl, rfl, trivial⟩) (show List.Perm ((⟨some b6, 24, 1, [.os none 0 0]⟩ : Blk) :: (⟨some b1, 149, 1, [.os none 0 0]⟩ : Blk) :: (⟨some b4, 2, parts.length * 1, ((List.replicate parts.length (0 : Int)).map Go.AI.encI).flatten⟩ : Blk) :: F) ((⟨some b1, 149, 1, [.os none 0 0]⟩ : Blk) :: (⟨some b4, 2, parts.length * 1, ((List.replicate parts.length (0 : Int)).map Go.AI.encI).flatten⟩ : Blk) :: (⟨some b6, 24, 1, [.os none 0 0]⟩ : Blk) :: F) from by classical exact List.perm_iff_count.2 fun _ => by simp only [List.count_cons]; omega) q
  have D01235 : ∀ b1 b5 : Nat, P [true, true, true, true, false, true, false, false, false] [(21, .agg [.os none 0 0]), (22, .op (some b1) 0), (23, .sl (parts.map (encS Go.AI.encI))), (24, .int parts.length), (9, .op (some b5) 0), (0, .sl (bag.map Go.AI.encI)), (4, .ip [.sl (parts.map (encS Go.AI.encI))]), (5, .ip [.fn 95 [.ip [.sl (parts.map (encS Go.AI.encI))]]])] ((⟨some b1, 149, 1, [.os none 0 0]⟩ : Blk) :: (⟨some b5, 147, 1, [.op none 0]⟩ : Blk) :: F) := by
    intro b1 b5
    rw [hP]
    refine ja_step (rs := [4, 6]) (by kernel_rfl) (by simp) (fun i hi => ?_)
    simp only [List.mem_cons, List.not_mem_nil, or_false] at hi
    rcases hi with rfl | rfl
    · refine ⟨_, rfl, ?_⟩
      refine j_makeI (g := Go.AI.encI) (m := parts.length) 0 rfl rfl rfl rfl rfl rfl rfl rfl rfl (by omega) rfl rfl (fun b4 => ?_)
      refine j_nil ⟨rfl, ?_⟩
      have q := D012345 b1 b4 b5
      rw [hP] at q
      exact ja_weak (by exact ⟨rfl, rfl, rfl, rfl, rfl, rfl, rfl, rfl, rfl, trivial⟩) (show List.Perm ((⟨some b4, 2, parts.length * 1, ((List.replicate parts.length (0 : Int)).map Go.AI.encI).flatten⟩ : Blk) :: (⟨some b1, 149, 1, [.os none 0 0]⟩ : Blk) :: (⟨some b5, 147, 1, [.op none 0]⟩ : Blk) :: F) ((⟨some b1, 149, 1, [.os none 0 0]⟩ : Blk) :: (⟨some b4, 2, parts.length * 1, ((List.replicate parts.length (0 : Int)).map Go.AI.encI).flatten⟩ : Blk) :: (⟨some b5, 147, 1, [.op none 0]⟩ : Blk) :: F) from by classical exact List.perm_iff_count.2 fun _ => by simp only [List.count_cons]; omega) q
    · refine ⟨_, rfl, ?_⟩
      refine j_alloc rfl rfl rfl rfl rfl (fun b6 => ?_)
      refine j_nil ⟨rfl, ?_⟩
      have q := D012356 b1 b5 b6
      rw [hP] at q
      exact ja_weak (by exact ⟨rfl, rfl, rfl, rfl, rfl, rfl, rfl, rfl, rfl, trivial⟩) (show List.Perm ((⟨some b6, 24, 1, [.os none 0 0]⟩ : Blk) :: (⟨some b1, 149, 1, [.os none 0 0]⟩ : Blk) :: (⟨some b5, 147, 1, [.op none 0]⟩ : Blk) :: F) ((⟨some b1, 149, 1, [.os none 0 0]⟩ : Blk) :: (⟨some b5, 147, 1, [.op none 0]⟩ : Blk) :: (⟨some b6, 24, 1, [.os none 0 0]⟩ : Blk) :: F) from by classical exact List.perm_iff_count.2 fun _ => by simp only [List.count_cons]; omega) q
  have D01236 : ∀ b1 b6 : Nat, P [true, true, true, true, false, false, true, false, false] [(21, .agg [.os none 0 0]), (22, .op (some b1) 0), (23, .sl (parts.map (encS Go.AI.encI))), (24, .int parts.length), (10, .op (some b6) 0), (0, .sl (bag.map Go.AI.encI)), (4, .ip [.sl (parts.map (encS Go.AI.encI))]), (5, .ip [.fn 95 [.ip [.sl (parts.map (encS Go.AI.encI))]]])] ((⟨some b1, 149, 1, [.os none 0 0]⟩ : Blk) :: (⟨some b6, 24, 1, [.os none 0 0]⟩ : Blk) :: F) := by
    intro b1 b6
    rw [hP]
    refine ja_step (rs := [4, 5]) (by kernel_rfl) (by simp) (fun i hi => ?_)
    simp only [List.mem_cons, List.not_mem_nil, or_false] at hi
    rcases hi with rfl | rfl
    · refine ⟨_, rfl, ?_⟩
      refine j_makeI (g := Go.AI.encI) (m := parts.length) 0 rfl rfl rfl rfl rfl rfl rfl rfl rfl (by omega) rfl rfl (fun b4 => ?_)
      refine j_nil ⟨rfl, ?_⟩
      have q := D012346 b1 b4 b6
      rw [hP] at q
      exact ja_weak (by exact ⟨rfl, rfl, rfl, rfl, rfl, rfl, rfl, rfl, rfl, trivial⟩) (show List.Perm ((⟨some b4, 2, parts.length * 1, ((List.replicate parts.length (0 : Int)).map Go.AI.encI).flatten⟩ : Blk) :: (⟨some b1, 149, 1, [.os none 0 0]⟩ : Blk) :: (⟨some b6, 24, 1, [.os none 0 0]⟩ : Blk) :: F) ((⟨some b1, 149, 1, [.os none 0 0]⟩ : Blk) :: (⟨some b4, 2, parts.length * 1, ((List.replicate parts.length (0 : Int)).map Go.AI.encI).flatten⟩ : Blk) :: (⟨some b6, 24, 1, [.os none 0 0]⟩ : Blk) :: F) from by classical exact List.perm_iff_count.2 fun _ => by simp only [List.count_cons]; omega) q
    · refine ⟨_, rfl, ?_⟩
      refine j_alloc rfl rfl rfl rfl rfl (fun b5 => ?_)
      refine j_nil ⟨rfl, ?_⟩
      have q := D012356 b1 b5 b6
      rw [hP] at q
      exact ja_weak (by exact ⟨rfl, rfl, rfl, rfl, rfl, rfl, rfl, rfl, rfl, trivial⟩) (show List.Perm ((⟨some b5, 147, 1, [.op none 0]⟩ : Blk) :: (⟨some b1, 149, 1, [.os none 0 0]⟩ : Blk) :: (⟨some b6, 24, 1, [.os none 0 0]⟩ : Blk) :: F) ((⟨some b1, 149, 1, [.os none 0 0]⟩ : Blk) :: (⟨some b5, 147, 1, [.op none 0]⟩ : Blk) :: (⟨some b6, 24, 1, [.os none 0 0]⟩ : Blk) :: F) from by classical exact List.perm_iff_count.2 fun _ => by simp only [List.count_cons]; omega) q
  have D01256 : ∀ b1 b5 b6 : Nat, P [true, true, true, false, false, true, true, false, false] [(21, .agg [.os none 0 0]), (22, .op (some b1) 0), (23, .sl (parts.map (encS Go.AI.encI))), (9, .op (some b5) 0), (10, .op (some b6) 0), (0, .sl (bag.map Go.AI.encI)), (4, .ip [.sl (parts.map (encS Go.AI.encI))]), (5, .ip [.fn 95 [.ip [.sl (parts.map (encS Go.AI.encI))]]])] ((⟨some b1, 149, 1, [.os none 0 0]⟩ : Blk) :: (⟨some b5, 147, 1, [.op none 0]⟩ : Blk) :: (⟨some b6, 24, 1, [.os none 0 0]⟩ : Blk) :: F) := by
    intro b1 b5 b6
    rw [hP]
    refine ja_step (rs := [3, 7]) (by kernel_rfl) (by simp) (fun i hi => ?_)
    simp only [List.mem_cons, List.not_mem_nil, or_false] at hi
    rcases hi with rfl | rfl
    · refine ⟨_, rfl, ?_⟩
      refine j_len rfl rfl rfl rfl rfl rfl ?_
      refine j_nil ⟨rfl, ?_⟩
      have q := D012356 b1 b5 b6
      rw [hP] at q
      exact ja_weak (by exact ⟨rfl, rfl, rfl, rfl, rfl, rfl, rfl, rfl, rfl, trivial⟩) (List.Perm.refl _) q
    · refine ⟨_, rfl, ?_⟩
      refine j_storeN 1 rfl rfl rfl rfl rfl rfl rfl rfl rfl rfl rfl ?_
      refine j_nil ⟨rfl, ?_⟩
      have q := D012567 b1 b5 b6
      rw [hP] at q
      exact ja_weak (by exact ⟨rfl, rfl, rfl, rfl, rfl, rfl, rfl, rfl, trivial⟩) (List.Perm.refl _) q
  have D01567 : ∀ b1 b5 b6 : Nat, P [true, true, false, false, false, true, true, true, false] [(21, .agg [.os none 0 0]), (22, .op (some b1) 0), (9, .op (some b5) 0), (10, .op (some b6) 0), (0, .sl (bag.map Go.AI.encI)), (4, .ip [.sl (parts.map (encS Go.AI.encI))]), (5, .ip [.fn 95 [.ip [.sl (parts.map (encS Go.AI.encI))]]])] ((⟨some b1, 149, 1, [.os none 0 0]⟩ : Blk) :: (⟨some b5, 147, 1, [.op (some b1) 0]⟩ : Blk) :: (⟨some b6, 24, 1, [.os none 0 0]⟩ : Blk) :: F) := by
    intro b1 b5 b6
    rw [hP]
    refine ja_step (rs := [2]) (by kernel_rfl) (by simp) (fun i hi => ?_)
    simp only [List.mem_cons, List.not_mem_nil, or_false] at hi
    rcases hi with rfl
    · refine ⟨_, rfl, ?_⟩
      refine j_op0 rfl rfl rfl rfl ?_
      refine j_nil ⟨rfl, ?_⟩
      have q := D012567 b1 b5 b6
      rw [hP] at q
      exact ja_weak (by exact ⟨rfl, rfl, rfl, rfl, rfl, rfl, rfl, rfl, trivial⟩) (List.Perm.refl _) q
  have D02345 : ∀ b4 b5 : Nat, P [true, false, true, true, true, true, false, false, false] [(21, .agg [.os none 0 0]), (23, .sl (parts.map (encS Go.AI.encI))), (24, .int parts.length), (25, .os (some b4) parts.length parts.length), (9, .op (some b5) 0), (0, .sl (bag.map Go.AI.encI)), (4, .ip [.sl (parts.map (encS Go.AI.encI))]), (5, .ip [.fn 95 [.ip [.sl (parts.map (encS Go.AI.encI))]]])] ((⟨some b4, 2, parts.length * 1, ((List.replicate parts.length (0 : Int)).map Go.AI.encI).flatten⟩ : Blk) :: (⟨some b5, 147, 1, [.op none 0]⟩ : Blk) :: F) := by
    intro b4 b5
    rw [hP]
    refine ja_step (rs := [1, 6]) (by kernel_rfl) (by simp) (fun i hi => ?_)
    simp only [List.mem_cons, List.not_mem_nil, or_false] at hi
    rcases hi with rfl | rfl
    · refine ⟨_, rfl, ?_⟩
      refine j_boxM rfl rfl rfl rfl rfl rfl (fun b1 => ?_)
      refine j_nil ⟨rfl, ?_⟩
      have q := D012345 b1 b4 b5
      rw [hP] at q
      exact ja_weak (by exact ⟨rfl, rfl, rfl, rfl, rfl, rfl, rfl, rfl, rfl, trivial⟩) (List.Perm.refl _) q
    · refine ⟨_, rfl, ?_⟩
      refine j_alloc rfl rfl rfl rfl rfl (fun b6 => ?_)
      refine j_nil ⟨rfl, ?_⟩
      have q := D023456 b4 b5 b6
      rw [hP] at q
      exact ja_weak (by exact ⟨rfl, rfl, rfl, rfl, rfl, rfl, rfl, rfl, rfl, trivial⟩) (show List.Perm ((⟨some b6, 24, 1, [.os none 0 0]⟩ : Blk) :: (⟨some b4, 2, parts.length * 1, ((List.replicate parts.length (0 : Int)).map Go.AI.encI).flatten⟩ : Blk) :: (⟨some b5, 147, 1, [.op none 0]⟩ : Blk) :: F) ((⟨some b4, 2, parts.length * 1, ((List.replicate parts.length (0 : Int)).map Go.AI.encI).flatten⟩ : Blk) :: (⟨some b5, 147, 1, [.op none 0]⟩ : Blk) :: (⟨some b6, 24, 1, [.os none 0 0]⟩ : Blk) :: F) from by classical exact List.perm_iff_count.2 fun _ => by simp only [List.count_cons]; omega) q
  have D02346 : ∀ b4 b6 : Nat, P [true, false, true, true, true, false, true, false, false] [(21, .agg [.os none 0 0]), (23, .sl (parts.map (encS Go.AI.encI))), (24, .int parts.length), (25, .os (some b4) parts.length parts.length), (10, .op (some b6) 0), (0, .sl (bag.map Go.AI.encI)), (4, .ip [.sl (parts.map (encS Go.AI.encI))]), (5, .ip [.fn 95 [.ip [.sl (parts.map (encS Go.AI.encI))]]])] ((⟨some b4, 2, parts.length * 1, ((List.replicate parts.length (0 : Int)).map Go.AI.encI).flatten⟩ : Blk) :: (⟨some b6, 24, 1, [.os none 0 0]⟩ : Blk) :: F) := by
    intro b4 b6
    rw [hP]
    refine ja_step (rs := [1, 5]) (by kernel_rfl) (by simp) (fun i hi => ?_)
    simp only [List.mem_cons, List.not_mem_nil, or_false] at hi
    rcases hi with rfl | rfl
    · refine ⟨_, rfl, ?_⟩
      refine j_boxM rfl rfl rfl rfl rfl rfl (fun b1 => ?_)
      refine j_nil ⟨rfl, ?_⟩
      have q := D012346 b1 b4 b6
      rw [hP] at q
      exact ja_weak (by exact ⟨rfl, rfl, rfl, rfl, rfl, rfl, rfl, rfl, rfl, trivial⟩) (List.Perm.refl _) q
    · refine ⟨_, rfl, ?_⟩
      refine j_alloc rfl rfl rfl rfl rfl (fun b5 => ?_)
      refine j_nil ⟨rfl, ?_⟩
      have q := D023456 b4 b5 b6
      rw [hP] at q
      exact ja_weak (by exact ⟨rfl, rfl, rfl, rfl, rfl, rfl, rfl, rfl, rfl, trivial⟩) (show List.Perm ((⟨some b5, 147, 1, [.op none 0]⟩ : Blk) :: (⟨some b4, 2, parts.length * 1, ((List.replicate parts.length (0 : Int)).map Go.AI.encI).flatten⟩ : Blk) :: (⟨some b6, 24, 1, [.os none 0 0]⟩ : Blk) :: F) ((⟨some b4, 2, parts.length * 1, ((List.replicate parts.length (0 : Int)).map Go.AI.encI).flatten⟩ : Blk) :: (⟨some b5, 147, 1, [.op none 0]⟩ : Blk) :: (⟨some b6, 24, 1, [.os none 0 0]⟩ : Blk) :: F) from by classical exact List.perm_iff_count.2 fun _ => by simp only [List.count_cons]; omega) q
  have D02356 : ∀ b5 b6 : Nat, P [true, false, true, true, false, true, true, false, false] [(21, .agg [.os none 0 0]), (23, .sl (parts.map (encS Go.AI.encI))), (24, .int parts.length), (9, .op (some b5) 0), (10, .op (some b6) 0), (0, .sl (bag.map Go.AI.encI)), (4, .ip [.sl (parts.map (encS Go.AI.encI))]), (5, .ip [.fn 95 [.ip [.sl (parts.map (encS Go.AI.encI))]]])] ((⟨some b5, 147, 1, [.op none 0]⟩ : Blk) :: (⟨some b6, 24, 1, [.os none 0 0]⟩ : Blk) :: F) := by
    intro b5 b6
    rw [hP]
    refine ja_step (rs := [1, 4]) (by kernel_rfl) (by simp) (fun i hi => ?_)
    simp only [List.mem_cons, List.not_mem_nil, or_false] at hi
    rcases hi with rfl | rfl
    · refine ⟨_, rfl, ?_⟩
      refine j_boxM rfl rfl rfl rfl rfl rfl (fun b1 => ?_)
      refine j_nil ⟨rfl, ?_⟩
      have q := D012356 b1 b5 b6
      rw [hP] at q
      exact ja_weak (by exact ⟨rfl, rfl, rfl, rfl, rfl, rfl, rfl, rfl, rfl, trivial⟩) (List.Perm.refl _) q
    · refine ⟨_, rfl, ?_⟩
      refine j_makeI (g := Go.AI.encI) (m := parts.length) 0 rfl rfl rfl rfl rfl rfl rfl rfl rfl (by omega) rfl rfl (fun b4 => ?_)
      refine j_nil ⟨rfl, ?_⟩
      have q := D023456 b4 b5 b6
      rw [hP] at q
      exact ja_weak (by exact ⟨rfl, rfl, rfl, rfl, rfl, rfl, rfl, rfl, rfl, trivial⟩) (List.Perm.refl _) q
  have D23456 : ∀ b4 b5 b6 : Nat, P [false, false, true, true, true, true, true, false, false] [(23, .sl (parts.map (encS Go.AI.encI))), (24, .int parts.length), (25, .os (some b4) parts.length parts.length), (9, .op (some b5) 0), (10, .op (some b6) 0), (0, .sl (bag.map Go.AI.encI)), (4, .ip [.sl (parts.map (encS Go.AI.encI))]), (5, .ip [.fn 95 [.ip [.sl (parts.map (encS Go.AI.encI))]]])] ((⟨some b4, 2, parts.length * 1, ((List.replicate parts.length (0 : Int)).map Go.AI.encI).flatten⟩ : Blk) :: (⟨some b5, 147, 1, [.op none 0]⟩ : Blk) :: (⟨some b6, 24, 1, [.os none 0 0]⟩ : Blk) :: F) := by
    intro b4 b5 b6
    rw [hP]
    refine ja_step (rs := [0]) (by kernel_rfl) (by simp) (fun i hi => ?_)
    simp only [List.mem_cons, List.not_mem_nil, or_false] at hi
    rcases hi with rfl
    · refine ⟨_, rfl, ?_⟩
      first | refine j_op0 rfl rfl rfl rfl ?_ | refine j_build rfl rfl rfl rfl rfl rfl rfl ?_
      refine j_nil ⟨rfl, ?_⟩
      have q := D023456 b4 b5 b6
      rw [hP] at q
      exact ja_weak (by exact ⟨rfl, rfl, rfl, rfl, rfl, rfl, rfl, rfl, rfl, trivial⟩) (List.Perm.refl _) q
  have D0123 : ∀ b1 : Nat, P [true, true, true, true, false, false, false, false, false] [(21, .agg [.os none 0 0]), (22, .op (some b1) 0), (23, .sl (parts.map (encS Go.AI.encI))), (24, .int parts.length), (0, .sl (bag.map Go.AI.encI)), (4, .ip [.sl (parts.map (encS Go.AI.encI))]), (5, .ip [.fn 95 [.ip [.sl (parts.map (encS Go.AI.encI))]]])] ((⟨some b1, 149, 1, [.os none 0 0]⟩ : Blk) :: F) := by
    intro b1
    rw [hP]
    refine ja_step (rs := [4, 5, 6]) (by kernel_rfl) (by simp) (fun i hi => ?_)
    simp only [List.mem_cons, List.not_mem_nil, or_false] at hi
    rcases hi with rfl | rfl | rfl
    · refine ⟨_, rfl, ?_⟩
      refine j_makeI (g := Go.AI.encI) (m := parts.length) 0 rfl rfl rfl rfl rfl rfl rfl rfl rfl (by omega) rfl rfl (fun b4 => ?_)
      refine j_nil ⟨rfl, ?_⟩
      have q := D01234 b1 b4
      rw [hP] at q
      exact ja_weak (by exact ⟨rfl, rfl, rfl, rfl, rfl, rfl, rfl, rfl, trivial⟩) (show List.Perm ((⟨some b4, 2, parts.length * 1, ((List.replicate parts.length (0 : Int)).map Go.AI.encI).flatten⟩ : Blk) :: (⟨some b1, 149, 1, [.os none 0 0]⟩ : Blk) :: F) ((⟨some b1, 149, 1, [.os none 0 0]⟩ : Blk) :: (⟨some b4, 2, parts.length * 1, ((List.replicate parts.length (0 : Int)).map Go.AI.encI).flatten⟩ : Blk) :: F) from by classical exact List.perm_iff_count.2 fun _ => by simp only [List.count_cons]; omega) q
    · refine ⟨_, rfl, ?_⟩
      refine j_alloc rfl rfl rfl rfl rfl (fun b5 => ?_)
      refine j_nil ⟨rfl, ?_⟩
      have q := D01235 b1 b5
      rw [hP] at q
      exact ja_weak (by exact ⟨rfl, rfl, rfl, rfl, rfl, rfl, rfl, rfl, trivial⟩) (show List.Perm ((⟨some b5, 147, 1, [.op none 0]⟩ : Blk) :: (⟨some b1, 149, 1, [.os none 0 0]⟩ : Blk) :: F) ((⟨some b1, 149, 1, [.os none 0 0]⟩ : Blk) :: (⟨some b5, 147, 1, [.op none 0]⟩ : Blk) :: F) from by classical exact List.perm_iff_count.2 fun _ => by simp only [List.count_cons]; omega) q
    · refine ⟨_, rfl, ?_⟩
      refine j_alloc rfl rfl rfl rfl rfl (fun b6 => ?_)
      refine j_nil ⟨rfl, ?_⟩
      have q := D01236 b1 b6
      rw [hP] at q
      exact ja_weak (by exact ⟨rfl, rfl, rfl, rfl, rfl, rfl, rfl, rfl, trivial⟩) (show List.Perm ((⟨some b6, 24, 1, [.os none 0 0]⟩ : Blk) :: (⟨some b1, 149, 1, [.os none 0 0]⟩ : Blk) :: F) ((⟨some b1, 149, 1, [.os none 0 0]⟩ : Blk) :: (⟨some b6, 24, 1, [.os none 0 0]⟩ : Blk) :: F) from by classical exact List.perm_iff_count.2 fun _ => by simp only [List.count_cons]; omega) q
  have D0125 : ∀ b1 b5 : Nat, P [true, true, true, false, false, true, false, false, false] [(21, .agg [.os none 0 0]), (22, .op (some b1) 0), (23, .sl (parts.map (encS Go.AI.encI))), (9, .op (some b5) 0), (0, .sl (bag.map Go.AI.encI)), (4, .ip [.sl (parts.map (encS Go.AI.encI))]), (5, .ip [.fn 95 [.ip [.sl (parts.map (encS Go.AI.encI))]]])] ((⟨some b1, 149, 1, [.os none 0 0]⟩ : Blk) :: (⟨some b5, 147, 1, [.op none 0]⟩ : Blk) :: F) := by
    intro b1 b5
    rw [hP]
    refine ja_step (rs := [3, 6]) (by kernel_rfl) (by simp) (fun i hi => ?_)
    simp only [List.mem_cons, List.not_mem_nil, or_false] at hi
    rcases hi with rfl | rfl
    · refine ⟨_, rfl, ?_⟩
      refine j_len rfl rfl rfl rfl rfl rfl ?_
      refine j_nil ⟨rfl, ?_⟩
      have q := D01235 b1 b5
      rw [hP] at q
      exact ja_weak (by exact ⟨rfl, rfl, rfl, rfl, rfl, rfl, rfl, rfl, trivial⟩) (List.Perm.refl _) q
    · refine ⟨_, rfl, ?_⟩
      refine j_alloc rfl rfl rfl rfl rfl (fun b6 => ?_)
      refine j_nil ⟨rfl, ?_⟩
      have q := D01256 b1 b5 b6
      rw [hP] at q
      exact ja_weak (by exact ⟨rfl, rfl, rfl, rfl, rfl, rfl, rfl, rfl, trivial⟩) (show List.Perm ((⟨some b6, 24, 1, [.os none 0 0]⟩ : Blk) :: (⟨some b1, 149, 1, [.os none 0 0]⟩ : Blk) :: (⟨some b5, 147, 1, [.op none 0]⟩ : Blk) :: F) ((⟨some b1, 149, 1, [.os none 0 0]⟩ : Blk) :: (⟨some b5, 147, 1, [.op none 0]⟩ : Blk) :: (⟨some b6, 24, 1, [.os none 0 0]⟩ : Blk) :: F) from by classical exact List.perm_iff_count.2 fun _ => by simp only [List.count_cons]; omega) q
  have D0126 : ∀ b1 b6 : Nat, P [true, true, true, false, false, false, true, false, false] [(21, .agg [.os none 0 0]), (22, .op (some b1) 0), (23, .sl (parts.map (encS Go.AI.encI))), (10, .op (some b6) 0), (0, .sl (bag.map Go.AI.encI)), (4, .ip [.sl (parts.map (encS Go.AI.encI))]), (5, .ip [.fn 95 [.ip [.sl (parts.map (encS Go.AI.encI))]]])] ((⟨some b1, 149, 1, [.os none 0 0]⟩ : Blk) :: (⟨some b6, 24, 1, [.os none 0 0]⟩ : Blk) :: F) := by
    intro b1 b6
    rw [hP]
    refine ja_step (rs := [3, 5]) (by kernel_rfl) (by simp) (fun i hi => ?_)
    simp only [List.mem_cons, List.not_mem_nil, or_false] at hi
    rcases hi with rfl | rfl
    · refine ⟨_, rfl, ?_⟩
      refine j_len rfl rfl rfl rfl rfl rfl ?_
      refine j_nil ⟨rfl, ?_⟩
      have q := D01236 b1 b6
      rw [hP] at q
      exact ja_weak (by exact ⟨rfl, rfl, rfl, rfl, rfl, rfl, rfl, rfl, trivial⟩) (List.Perm.refl _) q
    · refine ⟨_, rfl, ?_⟩
      refine j_alloc rfl rfl rfl rfl rfl (fun b5 => ?_)
      refine j_nil ⟨rfl, ?_⟩
      have q := D01256 b1 b5 b6
      rw [hP] at q
      exact ja_weak (by exact ⟨rfl, rfl, rfl, rfl, rfl, rfl, rfl, rfl, trivial⟩) (show List.Perm ((⟨some b5, 147, 1, [.op none 0]⟩ : Blk) :: (⟨some b1, 149, 1, [.os none 0 0]⟩ : Blk) :: (⟨some b6, 24, 1, [.os none 0 0]⟩ : Blk) :: F) ((⟨some b1, 149, 1, [.os none 0 0]⟩ : Blk) :: (⟨some b5, 147, 1, [.op none 0]⟩ : Blk) :: (⟨some b6, 24, 1, [.os none 0 0]⟩ : Blk) :: F) from by classical exact List.perm_iff_count.2 fun _ => by simp only [List.count_cons]; omega) q
  have D0156 : ∀ b1 b5 b6 : Nat, P [true, true, false, false, false, true, true, false, false] [(21, .agg [.os none 0 0]), (22, .op (some b1) 0), (9, .op (some b5) 0), (10, .op (some b6) 0), (0, .sl (bag.map Go.AI.encI)), (4, .ip [.sl (parts.map (encS Go.AI.encI))]), (5, .ip [.fn 95 [.ip [.sl (parts.map (encS Go.AI.encI))]]])] ((⟨some b1, 149, 1, [.os none 0 0]⟩ : Blk) :: (⟨some b5, 147, 1, [.op none 0]⟩ : Blk) :: (⟨some b6, 24, 1, [.os none 0 0]⟩ : Blk) :: F) := by
    intro b1 b5 b6
    rw [hP]
    refine ja_step (rs := [2, 7]) (by kernel_rfl) (by simp) (fun i hi => ?_)
    simp only [List.mem_cons, List.not_mem_nil, or_false] at hi
    rcases hi with rfl | rfl
    · refine ⟨_, rfl, ?_⟩
      refine j_op0 rfl rfl rfl rfl ?_
      refine j_nil ⟨rfl, ?_⟩
      have q := D01256 b1 b5 b6
      rw [hP] at q
      exact ja_weak (by exact ⟨rfl, rfl, rfl, rfl, rfl, rfl, rfl, rfl, trivial⟩) (List.Perm.refl _) q
    · refine ⟨_, rfl, ?_⟩
      refine j_storeN 1 rfl rfl rfl rfl rfl rfl rfl rfl rfl rfl rfl ?_
      refine j_nil ⟨rfl, ?_⟩
      have q := D01567 b1 b5 b6
      rw [hP] at q
      exact ja_weak (by exact ⟨rfl, rfl, rfl, rfl, rfl, rfl, rfl, trivial⟩) (List.Perm.refl _) q
  have D0234 : ∀ b4 : Nat, P [true, false, true, true, true, false, false, false, false] [(21, .agg [.os none 0 0]), (23, .sl (parts.map (encS Go.AI.encI))), (24, .int parts.length), (25, .os (some b4) parts.length parts.length), (0, .sl (bag.map Go.AI.encI)), (4, .ip [.sl (parts.map (encS Go.AI.encI))]), (5, .ip [.fn 95 [.ip [.sl (parts.map (encS Go.AI.encI))]]])] ((⟨some b4, 2, parts.length * 1, ((List.replicate parts.length (0 : Int)).map Go.AI.encI).flatten⟩ : Blk) :: F) := by
    intro b4
    rw [hP]
    refine ja_step (rs := [1, 5, 6]) (by kernel_rfl) (by simp) (fun i hi => ?_)
    simp only [List.mem_cons, List.not_mem_nil, or_false] at hi
    rcases hi with rfl | rfl | rfl
    · refine ⟨_, rfl, ?_⟩
      refine j_boxM rfl rfl rfl rfl rfl rfl (fun b1 => ?_)
      refine j_nil ⟨rfl, ?_⟩
      have q := D01234 b1 b4
      rw [hP] at q
      exact ja_weak (by exact ⟨rfl, rfl, rfl, rfl, rfl, rfl, rfl, rfl, trivial⟩) (List.Perm.refl _) q
    · refine ⟨_, rfl, ?_⟩
      refine j_alloc rfl rfl rfl rfl rfl (fun b5 => ?_)
      refine j_nil ⟨rfl, ?_⟩
      have q := D02345 b4 b5
      rw [hP] at q
      exact ja_weak (by exact ⟨rfl, rfl, rfl, rfl, rfl, rfl, rfl, rfl, trivial⟩) (show List.Perm ((⟨some b5, 147, 1, [.op none 0]⟩ : Blk) :: (⟨some b4, 2, parts.length * 1, ((List.replicate parts.length (0 : Int)).map Go.AI.encI).flatten⟩ : Blk) :: F) ((⟨some b4, 2, parts.length * 1, ((List.replicate parts.length (0 : Int)).map Go.AI.encI).flatten⟩ : Blk) :: (⟨some b5, 147, 1, [.op none 0]⟩ : Blk) :: F) from by classical exact List.perm_iff_count.2 fun _ => by simp only [List.count_cons]; omega) q
    · refine ⟨_, rfl, ?_⟩
      refine j_alloc rfl rfl rfl rfl rfl (fun b6 => ?_)
      refine j_nil ⟨rfl, ?_⟩
      have q := D02346 b4 b6
      rw [hP] at q
      exact ja_weak (by exact ⟨rfl, rfl, rfl, rfl, rfl, rfl, rfl, rfl, trivial⟩) (show List.Perm ((⟨some b6, 24, 1, [.os none 0 0]⟩ : Blk) :: (⟨some b4, 2, parts.length * 1, ((List.replicate parts.length (0 : Int)).map Go.AI.encI).flatten⟩ : Blk) :: F) ((⟨some b4, 2, parts.length * 1, ((List.replicate parts.length (0 : Int)).map Go.AI.encI).flatten⟩ : Blk) :: (⟨some b6, 24, 1, [.os none 0 0]⟩ : Blk) :: F) from by classical exact List.perm_iff_count.2 fun _ => by simp only [List.count_cons]; omega) q
  have D0235 : ∀ b5 : Nat, P [true, false, true, true, false, true, false, false, false] [(21, .agg [.os none 0 0]), (23, .sl (parts.map (encS Go.AI.encI))), (24, .int parts.length), (9, .op (some b5) 0), (0, .sl (bag.map Go.AI.encI)), (4, .ip [.sl (parts.map (encS Go.AI.encI))]), (5, .ip [.fn 95 [.ip [.sl (parts.map (encS Go.AI.encI))]]])] ((⟨some b5, 147, 1, [.op none 0]⟩ : Blk) :: F) := by
    intro b5
    rw [hP]
    refine ja_step (rs := [1, 4, 6]) (by kernel_rfl) (by simp) (fun i hi => ?_)
    simp only [List.mem_cons, List.not_mem_nil, or_false] at hi
    rcases hi with rfl | rfl | rfl
    · refine ⟨_, rfl, ?_⟩
      refine j_boxM rfl rfl rfl rfl rfl rfl (fun b1 => ?_)
      refine j_nil ⟨rfl, ?_⟩
      have q := D01235 b1 b5
      rw [hP] at q
      exact ja_weak (by exact ⟨rfl, rfl, rfl, rfl, rfl, rfl, rfl, rfl, trivial⟩) (List.Perm.refl _) q
    · refine ⟨_, rfl, ?_⟩
      refine j_makeI (g := Go.AI.encI) (m := parts.length) 0 rfl rfl rfl rfl rfl rfl rfl rfl rfl (by omega) rfl rfl (fun b4 => ?_)
      refine j_nil ⟨rfl, ?_⟩
      have q := D02345 b4 b5
      rw [hP] at q
      exact ja_weak (by exact ⟨rfl, rfl, rfl, rfl, rfl, rfl, rfl, rfl, trivial⟩) (List.Perm.refl _) q
    · refine ⟨_, rfl, ?_⟩
      refine j_alloc rfl rfl rfl rfl rfl (fun b6 => ?_)
      refine j_nil ⟨rfl, ?_⟩
      have q := D02356 b5 b6
      rw [hP] at q
      exact ja_weak (by exact ⟨rfl, rfl, rfl, rfl, rfl, rfl, rfl, rfl, trivial⟩) (show List.Perm ((⟨some b6, 24, 1, [.os none 0 0]⟩ : Blk) :: (⟨some b5, 147, 1, [.op none 0]⟩ : Blk) :: F) ((⟨some b5, 147, 1, [.op none 0]⟩ : Blk) :: (⟨some b6, 24, 1, [.os none 0 0]⟩ : Blk) :: F) from by classical exact List.perm_iff_count.2 fun _ => by simp only [List.count_cons]; omega) q
  have D0236 : ∀ b6 : Nat, P [true, false, true, true, false, false, true, false, false] [(21, .agg [.os none 0 0]), (23, .sl (parts.map (encS Go.AI.encI))), (24, .int parts.length), (10, .op (some b6) 0), (0, .sl (bag.map Go.AI.encI)), (4, .ip [.sl (parts.map (encS Go.AI.encI))]), (5, .ip [.fn 95 [.ip [.sl (parts.map (encS Go.AI.encI))]]])] ((⟨some b6, 24, 1, [.os none 0 0]⟩ : Blk) :: F) := by
    intro b6
    rw [hP]
    refine ja_step (rs := [1, 4, 5]) (by kernel_rfl) (by simp) (fun i hi => ?_)
    simp only [List.mem_cons, List.not_mem_nil, or_false] at hi
    rcases hi with rfl | rfl | rfl
    · refine ⟨_, rfl, ?_⟩
      refine j_boxM rfl rfl rfl rfl rfl rfl (fun b1 => ?_)
      refine j_nil ⟨rfl, ?_⟩
      have q := D01236 b1 b6
      rw [hP] at q
      exact ja_weak (by exact ⟨rfl, rfl, rfl, rfl, rfl, rfl, rfl, rfl, trivial⟩) (List.Perm.refl _) q
    · refine ⟨_, rfl, ?_⟩
      refine j_makeI (g := Go.AI.encI) (m := parts.length) 0 rfl rfl rfl rfl rfl rfl rfl rfl rfl (by omega) rfl rfl (fun b4 => ?_)
      refine j_nil ⟨rfl, ?_⟩
      have q := D02346 b4 b6
      rw [hP] at q
      exact ja_weak (by exact ⟨rfl, rfl, rfl, rfl, rfl, rfl, rfl, rfl, trivial⟩) (List.Perm.refl _) q
    · refine ⟨_, rfl, ?_⟩
      refine j_alloc rfl rfl rfl rfl rfl (fun b5 => ?_)
      refine j_nil ⟨rfl, ?_⟩
      have q := D02356 b5 b6
      rw [hP] at q
      exact ja_weak (by exact ⟨rfl, rfl, rfl, rfl, rfl, rfl, rfl, rfl, trivial⟩) (List.Perm.refl _) q
  have D0256 : ∀ b5 b6 : Nat, P [true, false, true, false, false, true, true, false, false] [(21, .agg [.os none 0 0]), (23, .sl (parts.map (encS Go.AI.encI))), (9, .op (some b5) 0), (10, .op (some b6) 0), (0, .sl (bag.map Go.AI.encI)), (4, .ip [.sl (parts.map (encS Go.AI.encI))]), (5, .ip [.fn 95 [.ip [.sl (parts.map (encS Go.AI.encI))]]])] ((⟨some b5, 147, 1, [.op none 0]⟩ : Blk) :: (⟨some b6, 24, 1, [.os none 0 0]⟩ : Blk) :: F) := by
    intro b5 b6
    rw [hP]
    refine ja_step (rs := [1, 3]) (by kernel_rfl) (by simp) (fun i hi => ?_)
    simp only [List.mem_cons, List.not_mem_nil, or_false] at hi
    rcases hi with rfl | rfl
    · refine ⟨_, rfl, ?_⟩
      refine j_boxM rfl rfl rfl rfl rfl rfl (fun b1 => ?_)
      refine j_nil ⟨rfl, ?_⟩
      have q := D01256 b1 b5 b6
      rw [hP] at q
      exact ja_weak (by exact ⟨rfl, rfl, rfl, rfl, rfl, rfl, rfl, rfl, trivial⟩) (List.Perm.refl _) q
    · refine ⟨_, rfl, ?_⟩
      refine j_len rfl rfl rfl rfl rfl rfl ?_
      refine j_nil ⟨rfl, ?_⟩
      have q := D02356 b5 b6
      rw [hP] at q
      exact ja_weak (by exact ⟨rfl, rfl, rfl, rfl, rfl, rfl, rfl, rfl, trivial⟩) (List.Perm.refl _) q
  have D2345 : ∀ b4 b5 : Nat, P [false, false, true, true, true, true, false, false, false] [(23, .sl (parts.map (encS Go.AI.encI))), (24, .int parts.length), (25, .os (some b4) parts.length parts.length), (9, .op (some b5) 0), (0, .sl (bag.map Go.AI.encI)), (4, .ip [.sl (parts.map (encS Go.AI.encI))]), (5, .ip [.fn 95 [.ip [.sl (parts.map (encS Go.AI.encI))]]])] ((⟨some b4, 2, parts.length * 1, ((List.replicate parts.length (0 : Int)).map Go.AI.encI).flatten⟩ : Blk) :: (⟨some b5, 147, 1, [.op none 0]⟩ : Blk) :: F) := by
    intro b4 b5
    rw [hP]
    refine ja_step (rs := [0, 6]) (by kernel_rfl) (by simp) (fun i hi => ?_)
    simp only [List.mem_cons, List.not_mem_nil, or_false] at hi
    rcases hi with rfl | rfl
    · refine ⟨_, rfl, ?_⟩
      first | refine j_op0 rfl rfl rfl rfl ?_ | refine j_build rfl rfl rfl rfl rfl rfl rfl ?_
      refine j_nil ⟨rfl, ?_⟩
      have q := D02345 b4 b5
      rw [hP] at q
      exact ja_weak (by exact ⟨rfl, rfl, rfl, rfl, rfl, rfl, rfl, rfl, trivial⟩) (List.Perm.refl _) q
    · refine ⟨_, rfl, ?_⟩
      refine j_alloc rfl rfl rfl rfl rfl (fun b6 => ?_)
      refine j_nil ⟨rfl, ?_⟩
      have q := D23456 b4 b5 b6
      rw [hP] at q
      exact ja_weak (by exact ⟨rfl, rfl, rfl, rfl, rfl, rfl, rfl, rfl, trivial⟩) (show List.Perm ((⟨some b6, 24, 1, [.os none 0 0]⟩ : Blk) :: (⟨some b4, 2, parts.length * 1, ((List.replicate parts.length (0 : Int)).map Go.AI.encI).flatten⟩ : Blk) :: (⟨some b5, 147, 1, [.op none 0]⟩ : Blk) :: F) ((⟨some b4, 2, parts.length * 1, ((List.replicate parts.length (0 : Int)).map Go.AI.encI).flatten⟩ : Blk) :: (⟨some b5, 147, 1, [.op none 0]⟩ : Blk) :: (⟨some b6, 24, 1, [.os none 0 0]⟩ : Blk) :: F) from by classical exact List.perm_iff_count.2 fun _ => by simp only [List.count_cons]; omega) q
  have D2346 : ∀ b4 b6 : Nat, P [false, false, true, true, true, false, true, false, false] [(23, .sl (parts.map (encS Go.AI.encI))), (24, .int parts.length), (25, .os (some b4) parts.length parts.length), (10, .op (some b6) 0), (0, .sl (bag.map Go.AI.encI)), (4, .ip [.sl (parts.map (encS Go.AI.encI))]), (5, .ip [.fn 95 [.ip [.sl (parts.map (encS Go.AI.encI))]]])] ((⟨some b4, 2, parts.length * 1, ((List.replicate parts.length (0 : Int)).map Go.AI.encI).flatten⟩ : Blk) :: (⟨some b6, 24, 1, [.os none 0 0]⟩ : Blk) :: F) := by
    intro b4 b6
    rw [hP]
    refine ja_step (rs := [0, 5]) (by kernel_rfl) (by simp) (fun i hi => ?_)
    simp only [List.mem_cons, List.not_mem_nil, or_false] at hi
    rcases hi with rfl | rfl
    · refine ⟨_, rfl, ?_⟩
      first | refine j_op0 rfl rfl rfl rfl ?_ | refine j_build rfl rfl rfl rfl rfl rfl rfl ?_
      refine j_nil ⟨rfl, ?_⟩
      have q := D02346 b4 b6
      rw [hP] at q
      exact ja_weak (by exact ⟨rfl, rfl, rfl, rfl, rfl, rfl, rfl, rfl, trivial⟩) (List.Perm.refl _) q
    · refine ⟨_, rfl, ?_⟩
      refine j_alloc rfl rfl rfl rfl rfl (fun b5 => ?_)
      refine j_nil ⟨rfl, ?_⟩
      have q := D23456 b4 b5 b6
      rw [hP] at q
      exact ja_weak (by exact ⟨rfl, rfl, rfl, rfl, rfl, rfl, rfl, rfl, trivial⟩) (show List.Perm ((⟨some b5, 147, 1, [.op none 0]⟩ : Blk) :: (⟨some b4, 2, parts.length * 1, ((List.replicate parts.length (0 : Int)).map Go.AI.encI).flatten⟩ : Blk) :: (⟨some b6, 24, 1, [.os none 0 0]⟩ : Blk) :: F) ((⟨some b4, 2, parts.length * 1, ((List.replicate parts.length (0 : Int)).map Go.AI.encI).flatten⟩ : Blk) :: (⟨some b5, 147, 1, [.op none 0]⟩ : Blk) :: (⟨some b6, 24, 1, [.os none 0 0]⟩ : Blk) :: F) from by classical exact List.perm_iff_count.2 fun _ => by simp only [List.count_cons]; omega) q
  have D2356 : ∀ b5 b6 : Nat, P [false, false, true, true, false, true, true, false, false] [(23, .sl (parts.map (encS Go.AI.encI))), (24, .int parts.length), (9, .op (some b5) 0), (10, .op (some b6) 0), (0, .sl (bag.map Go.AI.encI)), (4, .ip [.sl (parts.map (encS Go.AI.encI))]), (5, .ip [.fn 95 [.ip [.sl (parts.map (encS Go.AI.encI))]]])] ((⟨some b5, 147, 1, [.op none 0]⟩ : Blk) :: (⟨some b6, 24, 1, [.os none 0 0]⟩ : Blk) :: F) := by
    intro b5 b6
    rw [hP]
    refine ja_step (rs := [0, 4]) (by kernel_rfl) (by simp) (fun i hi => ?_)
    simp only [List.mem_cons, List.not_mem_nil, or_false] at hi
    rcases hi with rfl | rfl
    · refine ⟨_, rfl, ?_⟩
      first | refine j_op0 rfl rfl rfl rfl ?_ | refine j_build rfl rfl rfl rfl rfl rfl rfl ?_
      refine j_nil ⟨rfl, ?_⟩
      have q := D02356 b5 b6
      rw [hP] at q
      exact ja_weak (by exact ⟨rfl, rfl, rfl, rfl, rfl, rfl, rfl, rfl, trivial⟩) (List.Perm.refl _) q
    · refine ⟨_, rfl, ?_⟩
      refine j_makeI (g := Go.AI.encI) (m := parts.length) 0 rfl rfl rfl rfl rfl rfl rfl rfl rfl (by omega) rfl rfl (fun b4 => ?_)
      refine j_nil ⟨rfl, ?_⟩
      have q := D23456 b4 b5 b6
      rw [hP] at q
      exact ja_weak (by exact ⟨rfl, rfl, rfl, rfl, rfl, rfl, rfl, rfl, trivial⟩) (List.Perm.refl _) q
  have D012 : ∀ b1 : Nat, P [true, true, true, false, false, false, false, false, false] [(21, .agg [.os none 0 0]), (22, .op (some b1) 0), (23, .sl (parts.map (encS Go.AI.encI))), (0, .sl (bag.map Go.AI.encI)), (4, .ip [.sl (parts.map (encS Go.AI.encI))]), (5, .ip [.fn 95 [.ip [.sl (parts.map (encS Go.AI.encI))]]])] ((⟨some b1, 149, 1, [.os none 0 0]⟩ : Blk) :: F) := by
    intro b1
    rw [hP]
    refine ja_step (rs := [3, 5, 6]) (by kernel_rfl) (by simp) (fun i hi => ?_)
    simp only [List.mem_cons, List.not_mem_nil, or_false] at hi
    rcases hi with rfl | rfl | rfl
    · refine ⟨_, rfl, ?_⟩
      refine j_len rfl rfl rfl rfl rfl rfl ?_
      refine j_nil ⟨rfl, ?_⟩
      have q := D0123 b1
      rw [hP] at q
      exact ja_weak (by exact ⟨rfl, rfl, rfl, rfl, rfl, rfl, rfl, trivial⟩) (List.Perm.refl _) q
    · refine ⟨_, rfl, ?_⟩
      refine j_alloc rfl rfl rfl rfl rfl (fun b5 => ?_)
      refine j_nil ⟨rfl, ?_⟩
      have q := D0125 b1 b5
      rw [hP] at q
      exact ja_weak (by exact ⟨rfl, rfl, rfl, rfl, rfl, rfl, rfl, trivial⟩) (show List.Perm ((⟨some b5, 147, 1, [.op none 0]⟩ : Blk) :: (⟨some b1, 149, 1, [.os none 0 0]⟩ : Blk) :: F) ((⟨some b1, 149, 1, [.os none 0 0]⟩ : Blk) :: (⟨some b5, 147, 1, [.op none 0]⟩ : Blk) :: F) from by classical exact List.perm_iff_count.2 fun _ => by simp only [List.count_cons]; omega) q
    · refine ⟨_, rfl, ?_⟩
      refine j_alloc rfl rfl rfl rfl rfl (fun b6 => ?_)
      refine j_nil ⟨rfl, ?_⟩
      have q := D0126 b1 b6
      rw [hP] at q
      exact ja_weak (by exact ⟨rfl, rfl, rfl, rfl, rfl, rfl, rfl, trivial⟩) (show List.Perm ((⟨some b6, 24, 1, [.os none 0 0]⟩ : Blk) :: (⟨some b1, 149, 1, [.os none 0 0]⟩ : Blk) :: F) ((⟨some b1, 149, 1, [.os none 0 0]⟩ : Blk) :: (⟨some b6, 24, 1, [.os none 0 0]⟩ : Blk) :: F) from by classical exact List.perm_iff_count.2 fun _ => by simp only [List.count_cons]; omega) q
  have D015 : ∀ b1 b5 : Nat, P [true, true, false, false, false, true, false, false, false] [(21, .agg [.os none 0 0]), (22, .op (some b1) 0), (9, .op (some b5) 0), (0, .sl (bag.map Go.AI.encI)), (4, .ip [.sl (parts.map (encS Go.AI.encI))]), (5, .ip [.fn 95 [.ip [.sl (parts.map (encS Go.AI.encI))]]])] ((⟨some b1, 149, 1, [.os none 0 0]⟩ : Blk) :: (⟨some b5, 147, 1, [.op none 0]⟩ : Blk) :: F) := by
    intro b1 b5
    rw [hP]
    refine ja_step (rs := [2, 6]) (by kernel_rfl) (by simp) (fun i hi => ?_)
    simp only [List.mem_cons, List.not_mem_nil, or_false] at hi
    rcases hi with rfl | rfl
    · refine ⟨_, rfl, ?_⟩
      refine j_op0 rfl rfl rfl rfl ?_
      refine j_nil ⟨rfl, ?_⟩
      have q := D0125 b1 b5
      rw [hP] at q
      exact ja_weak (by exact ⟨rfl, rfl, rfl, rfl, rfl, rfl, rfl, trivial⟩) (List.Perm.refl _) q
    · refine ⟨_, rfl, ?_⟩
      refine j_alloc rfl rfl rfl rfl rfl (fun b6 => ?_)
      refine j_nil ⟨rfl, ?_⟩
      have q := D0156 b1 b5 b6
      rw [hP] at q
      exact ja_weak (by exact ⟨rfl, rfl, rfl, rfl, rfl, rfl, rfl, trivial⟩) (show List.Perm ((⟨some b6, 24, 1, [.os none 0 0]⟩ : Blk) :: (⟨some b1, 149, 1, [.os none 0 0]⟩ : Blk) :: (⟨some b5, 147, 1, [.op none 0]⟩ : Blk) :: F) ((⟨some b1, 149, 1, [.os none 0 0]⟩ : Blk) :: (⟨some b5, 147, 1, [.op none 0]⟩ : Blk) :: (⟨some b6, 24, 1, [.os none 0 0]⟩ : Blk) :: F) from by classical exact List.perm_iff_count.2 fun _ => by simp only [List.count_cons]; omega) q
  have D016 : ∀ b1 b6 : Nat, P [true, true, false, false, false, false, true, false, false] [(21, .agg [.os none 0 0]), (22, .op (some b1) 0), (10, .op (some b6) 0), (0, .sl (bag.map Go.AI.encI)), (4, .ip [.sl (parts.map (encS Go.AI.encI))]), (5, .ip [.fn 95 [.ip [.sl (parts.map (encS Go.AI.encI))]]])] ((⟨some b1, 149, 1, [.os none 0 0]⟩ : Blk) :: (⟨some b6, 24, 1, [.os none 0 0]⟩ : Blk) :: F) := by
    intro b1 b6
    rw [hP]
    refine ja_step (rs := [2, 5]) (by kernel_rfl) (by simp) (fun i hi => ?_)
    simp only [List.mem_cons, List.not_mem_nil, or_false] at hi
    rcases hi with rfl | rfl
    · refine ⟨_, rfl, ?_⟩
      refine j_op0 rfl rfl rfl rfl ?_
      refine j_nil ⟨rfl, ?_⟩
      have q := D0126 b1 b6
      rw [hP] at q
      exact ja_weak (by exact ⟨rfl, rfl, rfl, rfl, rfl, rfl, rfl, trivial⟩) (List.Perm.refl _) q
    · refine ⟨_, rfl, ?_⟩
      refine j_alloc rfl rfl rfl rfl rfl (fun b5 => ?_)
      refine j_nil ⟨rfl, ?_⟩
      have q := D0156 b1 b5 b6
      rw [hP] at q
      exact ja_weak (by exact ⟨rfl, rfl, rfl, rfl, rfl, rfl, rfl, trivial⟩) (show List.Perm ((⟨some b5, 147, 1, [.op none 0]⟩ : Blk) :: (⟨some b1, 149, 1, [.os none 0 0]⟩ : Blk) :: (⟨some b6, 24, 1, [.os none 0 0]⟩ : Blk) :: F) ((⟨some b1, 149, 1, [.os none 0 0]⟩ : Blk) :: (⟨some b5, 147, 1, [.op none 0]⟩ : Blk) :: (⟨some b6, 24, 1, [.os none 0 0]⟩ : Blk) :: F) from by classical exact List.perm_iff_count.2 fun _ => by simp only [List.count_cons]; omega) q
  have D023 : P [true, false, true, true, false, false, false, false, false] [(21, .agg [.os none 0 0]), (23, .sl (parts.map (encS Go.AI.encI))), (24, .int parts.length), (0, .sl (bag.map Go.AI.encI)), (4, .ip [.sl (parts.map (encS Go.AI.encI))]), (5, .ip [.fn 95 [.ip [.sl (parts.map (encS Go.AI.encI))]]])] (F) := by
    rw [hP]
    refine ja_step (rs := [1, 4, 5, 6]) (by kernel_rfl) (by simp) (fun i hi => ?_)
    simp only [List.mem_cons, List.not_mem_nil, or_false] at hi
    rcases hi with rfl | rfl | rfl | rfl
    · refine ⟨_, rfl, ?_⟩
      refine j_boxM rfl rfl rfl rfl rfl rfl (fun b1 => ?_)
      refine j_nil ⟨rfl, ?_⟩
      have q := D0123 b1
      rw [hP] at q
      exact ja_weak (by exact ⟨rfl, rfl, rfl, rfl, rfl, rfl, rfl, trivial⟩) (List.Perm.refl _) q
    · refine ⟨_, rfl, ?_⟩
      refine j_makeI (g := Go.AI.encI) (m := parts.length) 0 rfl rfl rfl rfl rfl rfl rfl rfl rfl (by omega) rfl rfl (fun b4 => ?_)
      refine j_nil ⟨rfl, ?_⟩
      have q := D0234 b4
      rw [hP] at q
      exact ja_weak (by exact ⟨rfl, rfl, rfl, rfl, rfl, rfl, rfl, trivial⟩) (List.Perm.refl _) q
    · refine ⟨_, rfl, ?_⟩
      refine j_alloc rfl rfl rfl rfl rfl (fun b5 => ?_)
      refine j_nil ⟨rfl, ?_⟩
      have q := D0235 b5
      rw [hP] at q
      exact ja_weak (by exact ⟨rfl, rfl, rfl, rfl, rfl, rfl, rfl, trivial⟩) (List.Perm.refl _) q
    · refine ⟨_, rfl, ?_⟩
      refine j_alloc rfl rfl rfl rfl rfl (fun b6 => ?_)
      refine j_nil ⟨rfl, ?_⟩
      have q := D0236 b6
      rw [hP] at q
      exact ja_weak (by exact ⟨rfl, rfl, rfl, rfl, rfl, rfl, rfl, trivial⟩) (List.Perm.refl _) q
  have D025 : ∀ b5 : Nat, P [true, false, true, false, false, true, false, false, false] [(21, .agg [.os none 0 0]), (23, .sl (parts.map (encS Go.AI.encI))), (9, .op (some b5) 0), (0, .sl (bag.map Go.AI.encI)), (4, .ip [.sl (parts.map (encS Go.AI.encI))]), (5, .ip [.fn 95 [.ip [.sl (parts.map (encS Go.AI.encI))]]])] ((⟨some b5, 147, 1, [.op none 0]⟩ : Blk) :: F) := by
    intro b5
    rw [hP]
    refine ja_step (rs := [1, 3, 6]) (by kernel_rfl) (by simp) (fun i hi => ?_)
    simp only [List.mem_cons, List.not_mem_nil, or_false] at hi
    rcases hi with rfl | rfl | rfl
    · refine ⟨_, rfl, ?_⟩
      refine j_boxM rfl rfl rfl rfl rfl rfl (fun b1 => ?_)
      refine j_nil ⟨rfl, ?_⟩
      have q := D0125 b1 b5
      rw [hP] at q
      exact ja_weak (by exact ⟨rfl, rfl, rfl, rfl, rfl, rfl, rfl, trivial⟩) (List.Perm.refl _) q
    · refine ⟨_, rfl, ?_⟩
      refine j_len rfl rfl rfl rfl rfl rfl ?_
      refine j_nil ⟨rfl, ?_⟩
      have q := D0235 b5
      rw [hP] at q
      exact ja_weak (by exact ⟨rfl, rfl, rfl, rfl, rfl, rfl, rfl, trivial⟩) (List.Perm.refl _) q
    · refine ⟨_, rfl, ?_⟩
      refine j_alloc rfl rfl rfl rfl rfl (fun b6 => ?_)
      refine j_nil ⟨rfl, ?_⟩
      have q := D0256 b5 b6
      rw [hP] at q
      exact ja_weak (by exact ⟨rfl, rfl, rfl, rfl, rfl, rfl, rfl, trivial⟩) (show List.Perm ((⟨some b6, 24, 1, [.os none 0 0]⟩ : Blk) :: (⟨some b5, 147, 1, [.op none 0]⟩ : Blk) :: F) ((⟨some b5, 147, 1, [.op none 0]⟩ : Blk) :: (⟨some b6, 24, 1, [.os none 0 0]⟩ : Blk) :: F) from by classical exact List.perm_iff_count.2 fun _ => by simp only [List.count_cons]; omega) q
  have D026 : ∀ b6 : Nat, P [true, false, true, false, false, false, true, false, false] [(21, .agg [.os none 0 0]), (23, .sl (parts.map (encS Go.AI.encI))), (10, .op (some b6) 0), (0, .sl (bag.map Go.AI.encI)), (4, .ip [.sl (parts.map (encS Go.AI.encI))]), (5, .ip [.fn 95 [.ip [.sl (parts.map (encS Go.AI.encI))]]])] ((⟨some b6, 24, 1, [.os none 0 0]⟩ : Blk) :: F) := by
    intro b6
    rw [hP]
    refine ja_step (rs := [1, 3, 5]) (by kernel_rfl) (by simp) (fun i hi => ?_)
    simp only [List.mem_cons, List.not_mem_nil, or_false] at hi
    rcases hi with rfl | rfl | rfl
    · refine ⟨_, rfl, ?_⟩
      refine j_boxM rfl rfl rfl rfl rfl rfl (fun b1 => ?_)
      refine j_nil ⟨rfl, ?_⟩
      have q := D0126 b1 b6
      rw [hP] at q
      exact ja_weak (by exact ⟨rfl, rfl, rfl, rfl, rfl, rfl, rfl, trivial⟩) (List.Perm.refl _) q
    · refine ⟨_, rfl, ?_⟩
      refine j_len rfl rfl rfl rfl rfl rfl ?_
      refine j_nil ⟨rfl, ?_⟩
      have q := D0236 b6
      rw [hP] at q
      exact ja_weak (by exact ⟨rfl, rfl, rfl, rfl, rfl, rfl, rfl, trivial⟩) (List.Perm.refl _) q
    · refine ⟨_, rfl, ?_⟩
      refine j_alloc rfl rfl rfl rfl rfl (fun b5 => ?_)
      refine j_nil ⟨rfl, ?_⟩
      have q := D0256 b5 b6
      rw [hP] at q
      exact ja_weak (by exact ⟨rfl, rfl, rfl, rfl, rfl, rfl, rfl, trivial⟩) (List.Perm.refl _) q
  have D056 : ∀ b5 b6 : Nat, P [true, false, false, false, false, true, true, false, false] [(21, .agg [.os none 0 0]), (9, .op (some b5) 0), (10, .op (some b6) 0), (0, .sl (bag.map Go.AI.encI)), (4, .ip [.sl (parts.map (encS Go.AI.encI))]), (5, .ip [.fn 95 [.ip [.sl (parts.map (encS Go.AI.encI))]]])] ((⟨some b5, 147, 1, [.op none 0]⟩ : Blk) :: (⟨some b6, 24, 1, [.os none 0 0]⟩ : Blk) :: F) := by
    intro b5 b6
    rw [hP]
    refine ja_step (rs := [1, 2]) (by kernel_rfl) (by simp) (fun i hi => ?_)
    simp only [List.mem_cons, List.not_mem_nil, or_false] at hi
    rcases hi with rfl | rfl
    · refine ⟨_, rfl, ?_⟩
      refine j_boxM rfl rfl rfl rfl rfl rfl (fun b1 => ?_)
      refine j_nil ⟨rfl, ?_⟩
      have q := D0156 b1 b5 b6
      rw [hP] at q
      exact ja_weak (by exact ⟨rfl, rfl, rfl, rfl, rfl, rfl, rfl, trivial⟩) (List.Perm.refl _) q
    · refine ⟨_, rfl, ?_⟩
      refine j_op0 rfl rfl rfl rfl ?_
      refine j_nil ⟨rfl, ?_⟩
      have q := D0256 b5 b6
      rw [hP] at q
      exact ja_weak (by exact ⟨rfl, rfl, rfl, rfl, rfl, rfl, rfl, trivial⟩) (List.Perm.refl _) q
  have D234 : ∀ b4 : Nat, P [false, false, true, true, true, false, false, false, false] [(23, .sl (parts.map (encS Go.AI.encI))), (24, .int parts.length), (25, .os (some b4) parts.length parts.length), (0, .sl (bag.map Go.AI.encI)), (4, .ip [.sl (parts.map (encS Go.AI.encI))]), (5, .ip [.fn 95 [.ip [.sl (parts.map (encS Go.AI.encI))]]])] ((⟨some b4, 2, parts.length * 1, ((List.replicate parts.length (0 : Int)).map Go.AI.encI).flatten⟩ : Blk) :: F) := by
    intro b4
    rw [hP]
    refine ja_step (rs := [0, 5, 6]) (by kernel_rfl) (by simp) (fun i hi => ?_)
    simp only [List.mem_cons, List.not_mem_nil, or_false] at hi
    rcases hi with rfl | rfl | rfl
    · refine ⟨_, rfl, ?_⟩
      first | refine j_op0 rfl rfl rfl rfl ?_ | refine j_build rfl rfl rfl rfl rfl rfl rfl ?_
      refine j_nil ⟨rfl, ?_⟩
      have q := D0234 b4
      rw [hP] at q
      exact ja_weak (by exact ⟨rfl, rfl, rfl, rfl, rfl, rfl, rfl, trivial⟩) (List.Perm.refl _) q
    · refine ⟨_, rfl, ?_⟩
      refine j_alloc rfl rfl rfl rfl rfl (fun b5 => ?_)
      refine j_nil ⟨rfl, ?_⟩
      have q := D2345 b4 b5
      rw [hP] at q
      exact ja_weak (by exact ⟨rfl, rfl, rfl, rfl, rfl, rfl, rfl, trivial⟩) (show List.Perm ((⟨some b5, 147, 1, [.op none 0]⟩ : Blk) :: (⟨some b4, 2, parts.length * 1, ((List.replicate parts.length (0 : Int)).map Go.AI.encI).flatten⟩ : Blk) :: F) ((⟨some b4, 2, parts.length * 1, ((List.replicate parts.length (0 : Int)).map Go.AI.encI).flatten⟩ : Blk) :: (⟨some b5, 147, 1, [.op none 0]⟩ : Blk) :: F) from by classical exact List.perm_iff_count.2 fun _ => by simp only [List.count_cons]; omega) q
    · refine ⟨_, rfl, ?_⟩
      refine j_alloc rfl rfl rfl rfl rfl (fun b6 => ?_)
      refine j_nil ⟨rfl, ?_⟩
      have q := D2346 b4 b6
      rw [hP] at q
      exact ja_weak (by exact ⟨rfl, rfl, rfl, rfl, rfl, rfl, rfl, trivial⟩) (show List.Perm ((⟨some b6, 24, 1, [.os none 0 0]⟩ : Blk) :: (⟨some b4, 2, parts.length * 1, ((List.replicate parts.length (0 : Int)).map Go.AI.encI).flatten⟩ : Blk) :: F) ((⟨some b4, 2, parts.length * 1, ((List.replicate parts.length (0 : Int)).map Go.AI.encI).flatten⟩ : Blk) :: (⟨some b6, 24, 1, [.os none 0 0]⟩ : Blk) :: F) from by classical exact List.perm_iff_count.2 fun _ => by simp only [List.count_cons]; omega) q
  have D235 : ∀ b5 : Nat, P [false, false, true, true, false, true, false, false, false] [(23, .sl (parts.map (encS Go.AI.encI))), (24, .int parts.length), (9, .op (some b5) 0), (0, .sl (bag.map Go.AI.encI)), (4, .ip [.sl (parts.map (encS Go.AI.encI))]), (5, .ip [.fn 95 [.ip [.sl (parts.map (encS Go.AI.encI))]]])] ((⟨some b5, 147, 1, [.op none 0]⟩ : Blk) :: F) := by
    intro b5
    rw [hP]
    refine ja_step (rs := [0, 4, 6]) (by kernel_rfl) (by simp) (fun i hi => ?_)
    simp only [List.mem_cons, List.not_mem_nil, or_false] at hi
    rcases hi with rfl | rfl | rfl
    · refine ⟨_, rfl, ?_⟩
      first | refine j_op0 rfl rfl rfl rfl ?_ | refine j_build rfl rfl rfl rfl rfl rfl rfl ?_
      refine j_nil ⟨rfl, ?_⟩
      have q := D0235 b5
      rw [hP] at q
      exact ja_weak (by exact ⟨rfl, rfl, rfl, rfl, rfl, rfl, rfl, trivial⟩) (List.Perm.refl _) q
    · refine ⟨_, rfl, ?_⟩
      refine j_makeI (g := Go.AI.encI) (m := parts.length) 0 rfl rfl rfl rfl rfl rfl rfl rfl rfl (by omega) rfl rfl (fun b4 => ?_)
      refine j_nil ⟨rfl, ?_⟩
      have q := D2345 b4 b5
      rw [hP] at q
      exact ja_weak (by exact ⟨rfl, rfl, rfl, rfl, rfl, rfl, rfl, trivial⟩) (List.Perm.refl _) q
    · refine ⟨_, rfl, ?_⟩
      refine j_alloc rfl rfl rfl rfl rfl (fun b6 => ?_)
      refine j_nil ⟨rfl, ?_⟩
      have q := D2356 b5 b6
      rw [hP] at q
      exact ja_weak (by exact ⟨rfl, rfl, rfl, rfl, rfl, rfl, rfl, trivial⟩) (show List.Perm ((⟨some b6, 24, 1, [.os none 0 0]⟩ : Blk) :: (⟨some b5, 147, 1, [.op none 0]⟩ : Blk) :: F) ((⟨some b5, 147, 1, [.op none 0]⟩ : Blk) :: (⟨some b6, 24, 1, [.os none 0 0]⟩ : Blk) :: F) from by classical exact List.perm_iff_count.2 fun _ => by simp only [List.count_cons]; omega) q
  have D236 : ∀ b6 : Nat, P [false, false, true, true, false, false, true, false, false] [(23, .sl (parts.map (encS Go.AI.encI))), (24, .int parts.length), (10, .op (some b6) 0), (0, .sl (bag.map Go.AI.encI)), (4, .ip [.sl (parts.map (encS Go.AI.encI))]), (5, .ip [.fn 95 [.ip [.sl (parts.map (encS Go.AI.encI))]]])] ((⟨some b6, 24, 1, [.os none 0 0]⟩ : Blk) :: F) := by
    intro b6
    rw [hP]
    refine ja_step (rs := [0, 4, 5]) (by kernel_rfl) (by simp) (fun i hi => ?_)
    simp only [List.mem_cons, List.not_mem_nil, or_false] at hi
    rcases hi with rfl | rfl | rfl
    · refine ⟨_, rfl, ?_⟩
      first | refine j_op0 rfl rfl rfl rfl ?_ | refine j_build rfl rfl rfl rfl rfl rfl rfl ?_
      refine j_nil ⟨rfl, ?_⟩
      have q := D0236 b6
      rw [hP] at q
      exact ja_weak (by exact ⟨rfl, rfl, rfl, rfl, rfl, rfl, rfl, trivial⟩) (List.Perm.refl _) q
    · refine ⟨_, rfl, ?_⟩
      refine j_makeI (g := Go.AI.encI) (m := parts.length) 0 rfl rfl rfl rfl rfl rfl rfl rfl rfl (by omega) rfl rfl (fun b4 => ?_)
      refine j_nil ⟨rfl, ?_⟩
      have q := D2346 b4 b6
      rw [hP] at q
      exact ja_weak (by exact ⟨rfl, rfl, rfl, rfl, rfl, rfl, rfl, trivial⟩) (List.Perm.refl _) q
    · refine ⟨_, rfl, ?_⟩
      refine j_alloc rfl rfl rfl rfl rfl (fun b5 => ?_)
      refine j_nil ⟨rfl, ?_⟩
      have q := D2356 b5 b6
      rw [hP] at q
      exact ja_weak (by exact ⟨rfl, rfl, rfl, rfl, rfl, rfl, rfl, trivial⟩) (List.Perm.refl _) q
  have D256 : ∀ b5 b6 : Nat, P [false, false, true, false, false, true, true, false, false] [(23, .sl (parts.map (encS Go.AI.encI))), (9, .op (some b5) 0), (10, .op (some b6) 0), (0, .sl (bag.map Go.AI.encI)), (4, .ip [.sl (parts.map (encS Go.AI.encI))]), (5, .ip [.fn 95 [.ip [.sl (parts.map (encS Go.AI.encI))]]])] ((⟨some b5, 147, 1, [.op none 0]⟩ : Blk) :: (⟨some b6, 24, 1, [.os none 0 0]⟩ : Blk) :: F) := by
    intro b5 b6
    rw [hP]
    refine ja_step (rs := [0, 3]) (by kernel_rfl) (by simp) (fun i hi => ?_)
    simp only [List.mem_cons, List.not_mem_nil, or_false] at hi
    rcases hi with rfl | rfl
    · refine ⟨_, rfl, ?_⟩
      first | refine j_op0 rfl rfl rfl rfl ?_ | refine j_build rfl rfl rfl rfl rfl rfl rfl ?_
      refine j_nil ⟨rfl, ?_⟩
      have q := D0256 b5 b6
      rw [hP] at q
      exact ja_weak (by exact ⟨rfl, rfl, rfl, rfl, rfl, rfl, rfl, trivial⟩) (List.Perm.refl _) q
    · refine ⟨_, rfl, ?_⟩
      refine j_len rfl rfl rfl rfl rfl rfl ?_
      refine j_nil ⟨rfl, ?_⟩
      have q := D2356 b5 b6
      rw [hP] at q
      exact ja_weak (by exact ⟨rfl, rfl, rfl, rfl, rfl, rfl, rfl, trivial⟩) (List.Perm.refl _) q
  have D01 : ∀ b1 : Nat, P [true, true, false, false, false, false, false, false, false] [(21, .agg [.os none 0 0]), (22, .op (some b1) 0), (0, .sl (bag.map Go.AI.encI)), (4, .ip [.sl (parts.map (encS Go.AI.encI))]), (5, .ip [.fn 95 [.ip [.sl (parts.map (encS Go.AI.encI))]]])] ((⟨some b1, 149, 1, [.os none 0 0]⟩ : Blk) :: F) := by
    intro b1
    rw [hP]
    refine ja_step (rs := [2, 5, 6]) (by kernel_rfl) (by simp) (fun i hi => ?_)
    simp only [List.mem_cons, List.not_mem_nil, or_false] at hi
    rcases hi with rfl | rfl | rfl
    · refine ⟨_, rfl, ?_⟩
      refine j_op0 rfl rfl rfl rfl ?_
      refine j_nil ⟨rfl, ?_⟩
      have q := D012 b1
      rw [hP] at q
      exact ja_weak (by exact ⟨rfl, rfl, rfl, rfl, rfl, rfl, trivial⟩) (List.Perm.refl _) q
    · refine ⟨_, rfl, ?_⟩
      refine j_alloc rfl rfl rfl rfl rfl (fun b5 => ?_)
      refine j_nil ⟨rfl, ?_⟩
      have q := D015 b1 b5
      rw [hP] at q
      exact ja_weak (by exact ⟨rfl, rfl, rfl, rfl, rfl, rfl, trivial⟩) (show List.Perm ((⟨some b5, 147, 1, [.op none 0]⟩ : Blk) :: (⟨some b1, 149, 1, [.os none 0 0]⟩ : Blk) :: F) ((⟨some b1, 149, 1, [.os none 0 0]⟩ : Blk) :: (⟨some b5, 147, 1, [.op none 0]⟩ : Blk) :: F) from by classical exact List.perm_iff_count.2 fun _ => by simp only [List.count_cons]; omega) q
    · refine ⟨_, rfl, ?_⟩
      refine j_alloc rfl rfl rfl rfl rfl (fun b6 => ?_)
      refine j_nil ⟨rfl, ?_⟩
      have q := D016 b1 b6
      rw [hP] at q
      exact ja_weak (by exact ⟨rfl, rfl, rfl, rfl, rfl, rfl, trivial⟩) (show List.Perm ((⟨some b6, 24, 1, [.os none 0 0]⟩ : Blk) :: (⟨some b1, 149, 1, [.os none 0 0]⟩ : Blk) :: F) ((⟨some b1, 149, 1, [.os none 0 0]⟩ : Blk) :: (⟨some b6, 24, 1, [.os none 0 0]⟩ : Blk) :: F) from by classical exact List.perm_iff_count.2 fun _ => by simp only [List.count_cons]; omega) q
  have D02 : P [true, false, true, false, false, false, false, false, false] [(21, .agg [.os none 0 0]), (23, .sl (parts.map (encS Go.AI.encI))), (0, .sl (bag.map Go.AI.encI)), (4, .ip [.sl (parts.map (encS Go.AI.encI))]), (5, .ip [.fn 95 [.ip [.sl (parts.map (encS Go.AI.encI))]]])] (F) := by
    rw [hP]
    refine ja_step (rs := [1, 3, 5, 6]) (by kernel_rfl) (by simp) (fun i hi => ?_)
    simp only [List.mem_cons, List.not_mem_nil, or_false] at hi
    rcases hi with rfl | rfl | rfl | rfl
    · refine ⟨_, rfl, ?_⟩
      refine j_boxM rfl rfl rfl rfl rfl rfl (fun b1 => ?_)
      refine j_nil ⟨rfl, ?_⟩
      have q := D012 b1
      rw [hP] at q
      exact ja_weak (by exact ⟨rfl, rfl, rfl, rfl, rfl, rfl, trivial⟩) (List.Perm.refl _) q
    · refine ⟨_, rfl, ?_⟩
      refine j_len rfl rfl rfl rfl rfl rfl ?_
      refine j_nil ⟨rfl, ?_⟩
      have q := D023
      rw [hP] at q
      exact ja_weak (by exact ⟨rfl, rfl, rfl, rfl, rfl, rfl, trivial⟩) (List.Perm.refl _) q
    · refine ⟨_, rfl, ?_⟩
      refine j_alloc rfl rfl rfl rfl rfl (fun b5 => ?_)
      refine j_nil ⟨rfl, ?_⟩
      have q := D025 b5
      rw [hP] at q
      exact ja_weak (by exact ⟨rfl, rfl, rfl, rfl, rfl, rfl, trivial⟩) (List.Perm.refl _) q
    · refine ⟨_, rfl, ?_⟩
      refine j_alloc rfl rfl rfl rfl rfl (fun b6 => ?_)
      refine j_nil ⟨rfl, ?_⟩
      have q := D026 b6
      rw [hP] at q
      exact ja_weak (by exact ⟨rfl, rfl, rfl, rfl, rfl, rfl, trivial⟩) (List.Perm.refl _) q
  have D05 : ∀ b5 : Nat, P [true, false, false, false, false, true, false, false, false] [(21, .agg [.os none 0 0]), (9, .op (some b5) 0), (0, .sl (bag.map Go.AI.encI)), (4, .ip [.sl (parts.map (encS Go.AI.encI))]), (5, .ip [.fn 95 [.ip [.sl (parts.map (encS Go.AI.encI))]]])] ((⟨some b5, 147, 1, [.op none 0]⟩ : Blk) :: F) := by
    intro b5
    rw [hP]
    refine ja_step (rs := [1, 2, 6]) (by kernel_rfl) (by simp) (fun i hi => ?_)
    simp only [List.mem_cons, List.not_mem_nil, or_false] at hi
    rcases hi with rfl | rfl | rfl
    · refine ⟨_, rfl, ?_⟩
      refine j_boxM rfl rfl rfl rfl rfl rfl (fun b1 => ?_)
      refine j_nil ⟨rfl, ?_⟩
      have q := D015 b1 b5
      rw [hP] at q
      exact ja_weak (by exact ⟨rfl, rfl, rfl, rfl, rfl, rfl, trivial⟩) (List.Perm.refl _) q
    · refine ⟨_, rfl, ?_⟩
      refine j_op0 rfl rfl rfl rfl ?_
      refine j_nil ⟨rfl, ?_⟩
      have q := D025 b5
      rw [hP] at q
      exact ja_weak (by exact ⟨rfl, rfl, rfl, rfl, rfl, rfl, trivial⟩) (List.Perm.refl _) q
    · refine ⟨_, rfl, ?_⟩
      refine j_alloc rfl rfl rfl rfl rfl (fun b6 => ?_)
      refine j_nil ⟨rfl, ?_⟩
      have q := D056 b5 b6
      rw [hP] at q
      exact ja_weak (by exact ⟨rfl, rfl, rfl, rfl, rfl, rfl, trivial⟩) (show List.Perm ((⟨some b6, 24, 1, [.os none 0 0]⟩ : Blk) :: (⟨some b5, 147, 1, [.op none 0]⟩ : Blk) :: F) ((⟨some b5, 147, 1, [.op none 0]⟩ : Blk) :: (⟨some b6, 24, 1, [.os none 0 0]⟩ : Blk) :: F) from by classical exact List.perm_iff_count.2 fun _ => by simp only [List.count_cons]; omega) q
  have D06 : ∀ b6 : Nat, P [true, false, false, false, false, false, true, false, false] [(21, .agg [.os none 0 0]), (10, .op (some b6) 0), (0, .sl (bag.map Go.AI.encI)), (4, .ip [.sl (parts.map (encS Go.AI.encI))]), (5, .ip [.fn 95 [.ip [.sl (parts.map (encS Go.AI.encI))]]])] ((⟨some b6, 24, 1, [.os none 0 0]⟩ : Blk) :: F) := by
    intro b6
    rw [hP]
    refine ja_step (rs := [1, 2, 5]) (by kernel_rfl) (by simp) (fun i hi => ?_)
    simp only [List.mem_cons, List.not_mem_nil, or_false] at hi
    rcases hi with rfl | rfl | rfl
    · refine ⟨_, rfl, ?_⟩
      refine j_boxM rfl rfl rfl rfl rfl rfl (fun b1 => ?_)
      refine j_nil ⟨rfl, ?_⟩
      have q := D016 b1 b6
      rw [hP] at q
      exact ja_weak (by exact ⟨rfl, rfl, rfl, rfl, rfl, rfl, trivial⟩) (List.Perm.refl _) q
    · refine ⟨_, rfl, ?_⟩
      refine j_op0 rfl rfl rfl rfl ?_
      refine j_nil ⟨rfl, ?_⟩
      have q := D026 b6
      rw [hP] at q
      exact ja_weak (by exact ⟨rfl, rfl, rfl, rfl, rfl, rfl, trivial⟩) (List.Perm.refl _) q
    · refine ⟨_, rfl, ?_⟩
      refine j_alloc rfl rfl rfl rfl rfl (fun b5 => ?_)
      refine j_nil ⟨rfl, ?_⟩
      have q := D056 b5 b6
      rw [hP] at q
      exact ja_weak (by exact ⟨rfl, rfl, rfl, rfl, rfl, rfl, trivial⟩) (List.Perm.refl _) q
  have D23 : P [false, false, true, true, false, false, false, false, false] [(23, .sl (parts.map (encS Go.AI.encI))), (24, .int parts.length), (0, .sl (bag.map Go.AI.encI)), (4, .ip [.sl (parts.map (encS Go.AI.encI))]), (5, .ip [.fn 95 [.ip [.sl (parts.map (encS Go.AI.encI))]]])] (F) := by
    rw [hP]
    refine ja_step (rs := [0, 4, 5, 6]) (by kernel_rfl) (by simp) (fun i hi => ?_)
    simp only [List.mem_cons, List.not_mem_nil, or_false] at hi
    rcases hi with rfl | rfl | rfl | rfl
    · refine ⟨_, rfl, ?_⟩
      first | refine j_op0 rfl rfl rfl rfl ?_ | refine j_build rfl rfl rfl rfl rfl rfl rfl ?_
      refine j_nil ⟨rfl, ?_⟩
      have q := D023
      rw [hP] at q
      exact ja_weak (by exact ⟨rfl, rfl, rfl, rfl, rfl, rfl, trivial⟩) (List.Perm.refl _) q
    · refine ⟨_, rfl, ?_⟩
      refine j_makeI (g := Go.AI.encI) (m := parts.length) 0 rfl rfl rfl rfl rfl rfl rfl rfl rfl (by omega) rfl rfl (fun b4 => ?_)
      refine j_nil ⟨rfl, ?_⟩
      have q := D234 b4
      rw [hP] at q
      exact ja_weak (by exact ⟨rfl, rfl, rfl, rfl, rfl, rfl, trivial⟩) (List.Perm.refl _) q
    · refine ⟨_, rfl, ?_⟩
      refine j_alloc rfl rfl rfl rfl rfl (fun b5 => ?_)
      refine j_nil ⟨rfl, ?_⟩
      have q := D235 b5
      rw [hP] at q
      exact ja_weak (by exact ⟨rfl, rfl, rfl, rfl, rfl, rfl, trivial⟩) (List.Perm.refl _) q
    · refine ⟨_, rfl, ?_⟩
      refine j_alloc rfl rfl rfl rfl rfl (fun b6 => ?_)
      refine j_nil ⟨rfl, ?_⟩
      have q := D236 b6
      rw [hP] at q
      exact ja_weak (by exact ⟨rfl, rfl, rfl, rfl, rfl, rfl, trivial⟩) (List.Perm.refl _) q
  have D25 : ∀ b5 : Nat, P [false, false, true, false, false, true, false, false, false] [(23, .sl (parts.map (encS Go.AI.encI))), (9, .op (some b5) 0), (0, .sl (bag.map Go.AI.encI)), (4, .ip [.sl (parts.map (encS Go.AI.encI))]), (5, .ip [.fn 95 [.ip [.sl (parts.map (encS Go.AI.encI))]]])] ((⟨some b5, 147, 1, [.op none 0]⟩ : Blk) :: F) := by
    intro b5
    rw [hP]
    refine ja_step (rs := [0, 3, 6]) (by kernel_rfl) (by simp) (fun i hi => ?_)
    simp only [List.mem_cons, List.not_mem_nil, or_false] at hi
    rcases hi with rfl | rfl | rfl
    · refine ⟨_, rfl, ?_⟩
      first | refine j_op0 rfl rfl rfl rfl ?_ | refine j_build rfl rfl rfl rfl rfl rfl rfl ?_
      refine j_nil ⟨rfl, ?_⟩
      have q := D025 b5
      rw [hP] at q
      exact ja_weak (by exact ⟨rfl, rfl, rfl, rfl, rfl, rfl, trivial⟩) (List.Perm.refl _) q
    · refine ⟨_, rfl, ?_⟩
      refine j_len rfl rfl rfl rfl rfl rfl ?_
      refine j_nil ⟨rfl, ?_⟩
      have q := D235 b5
      rw [hP] at q
      exact ja_weak (by exact ⟨rfl, rfl, rfl, rfl, rfl, rfl, trivial⟩) (List.Perm.refl _) q
    · refine ⟨_, rfl, ?_⟩
      refine j_alloc rfl rfl rfl rfl rfl (fun b6 => ?_)
      refine j_nil ⟨rfl, ?_⟩
      have q := D256 b5 b6
      rw [hP] at q
      exact ja_weak (by exact ⟨rfl, rfl, rfl, rfl, rfl, rfl, trivial⟩) (show List.Perm ((⟨some b6, 24, 1, [.os none 0 0]⟩ : Blk) :: (⟨some b5, 147, 1, [.op none 0]⟩ : Blk) :: F) ((⟨some b5, 147, 1, [.op none 0]⟩ : Blk) :: (⟨some b6, 24, 1, [.os none 0 0]⟩ : Blk) :: F) from by classical exact List.perm_iff_count.2 fun _ => by simp only [List.count_cons]; omega) q
  have D26 : ∀ b6 : Nat, P [false, false, true, false, false, false, true, false, false] [(23, .sl (parts.map (encS Go.AI.encI))), (10, .op (some b6) 0), (0, .sl (bag.map Go.AI.encI)), (4, .ip [.sl (parts.map (encS Go.AI.encI))]), (5, .ip [.fn 95 [.ip [.sl (parts.map (encS Go.AI.encI))]]])] ((⟨some b6, 24, 1, [.os none 0 0]⟩ : Blk) :: F) := by
    intro b6
    rw [hP]
    refine ja_step (rs := [0, 3, 5]) (by kernel_rfl) (by simp) (fun i hi => ?_)
    simp only [List.mem_cons, List.not_mem_nil, or_false] at hi
    rcases hi with rfl | rfl | rfl
    · refine ⟨_, rfl, ?_⟩
      first | refine j_op0 rfl rfl rfl rfl ?_ | refine j_build rfl rfl rfl rfl rfl rfl rfl ?_
      refine j_nil ⟨rfl, ?_⟩
      have q := D026 b6
      rw [hP] at q
      exact ja_weak (by exact ⟨rfl, rfl, rfl, rfl, rfl, rfl, trivial⟩) (List.Perm.refl _) q
    · refine ⟨_, rfl, ?_⟩
      refine j_len rfl rfl rfl rfl rfl rfl ?_
      refine j_nil ⟨rfl, ?_⟩
      have q := D236 b6
      rw [hP] at q
      exact ja_weak (by exact ⟨rfl, rfl, rfl, rfl, rfl, rfl, trivial⟩) (List.Perm.refl _) q
    · refine ⟨_, rfl, ?_⟩
      refine j_alloc rfl rfl rfl rfl rfl (fun b5 => ?_)
      refine j_nil ⟨rfl, ?_⟩
      have q := D256 b5 b6
      rw [hP] at q
      exact ja_weak (by exact ⟨rfl, rfl, rfl, rfl, rfl, rfl, trivial⟩) (List.Perm.refl _) q
  have D56 : ∀ b5 b6 : Nat, P [false, false, false, false, false, true, true, false, false] [(9, .op (some b5) 0), (10, .op (some b6) 0), (0, .sl (bag.map Go.AI.encI)), (4, .ip [.sl (parts.map (encS Go.AI.encI))]), (5, .ip [.fn 95 [.ip [.sl (parts.map (encS Go.AI.encI))]]])] ((⟨some b5, 147, 1, [.op none 0]⟩ : Blk) :: (⟨some b6, 24, 1, [.os none 0 0]⟩ : Blk) :: F) := by
    intro b5 b6
    rw [hP]
    refine ja_step (rs := [0, 2]) (by kernel_rfl) (by simp) (fun i hi => ?_)
    simp only [List.mem_cons, List.not_mem_nil, or_false] at hi
    rcases hi with rfl | rfl
    · refine ⟨_, rfl, ?_⟩
      first | refine j_op0 rfl rfl rfl rfl ?_ | refine j_build rfl rfl rfl rfl rfl rfl rfl ?_
      refine j_nil ⟨rfl, ?_⟩
      have q := D056 b5 b6
      rw [hP] at q
      exact ja_weak (by exact ⟨rfl, rfl, rfl, rfl, rfl, rfl, trivial⟩) (List.Perm.refl _) q
    · refine ⟨_, rfl, ?_⟩
      refine j_op0 rfl rfl rfl rfl ?_
      refine j_nil ⟨rfl, ?_⟩
      have q := D256 b5 b6
      rw [hP] at q
      exact ja_weak (by exact ⟨rfl, rfl, rfl, rfl, rfl, rfl, trivial⟩) (List.Perm.refl _) q
  have D0 : P [true, false, false, false, false, false, false, false, false] [(21, .agg [.os none 0 0]), (0, .sl (bag.map Go.AI.encI)), (4, .ip [.sl (parts.map (encS Go.AI.encI))]), (5, .ip [.fn 95 [.ip [.sl (parts.map (encS Go.AI.encI))]]])] (F) := by
    rw [hP]
    refine ja_step (rs := [1, 2, 5, 6]) (by kernel_rfl) (by simp) (fun i hi => ?_)
    simp only [List.mem_cons, List.not_mem_nil, or_false] at hi
    rcases hi with rfl | rfl | rfl | rfl
    · refine ⟨_, rfl, ?_⟩
      refine j_boxM rfl rfl rfl rfl rfl rfl (fun b1 => ?_)
      refine j_nil ⟨rfl, ?_⟩
      have q := D01 b1
      rw [hP] at q
      exact ja_weak (by exact ⟨rfl, rfl, rfl, rfl, rfl, trivial⟩) (List.Perm.refl _) q
    · refine ⟨_, rfl, ?_⟩
      refine j_op0 rfl rfl rfl rfl ?_
      refine j_nil ⟨rfl, ?_⟩
      have q := D02
      rw [hP] at q
      exact ja_weak (by exact ⟨rfl, rfl, rfl, rfl, rfl, trivial⟩) (List.Perm.refl _) q
    · refine ⟨_, rfl, ?_⟩
      refine j_alloc rfl rfl rfl rfl rfl (fun b5 => ?_)
      refine j_nil ⟨rfl, ?_⟩
      have q := D05 b5
      rw [hP] at q
      exact ja_weak (by exact ⟨rfl, rfl, rfl, rfl, rfl, trivial⟩) (List.Perm.refl _) q
    · refine ⟨_, rfl, ?_⟩
      refine j_alloc rfl rfl rfl rfl rfl (fun b6 => ?_)
      refine j_nil ⟨rfl, ?_⟩
      have q := D06 b6
      rw [hP] at q
      exact ja_weak (by exact ⟨rfl, rfl, rfl, rfl, rfl, trivial⟩) (List.Perm.refl _) q
  have D2 : P [false, false, true, false, false, false, false, false, false] [(23, .sl (parts.map (encS Go.AI.encI))), (0, .sl (bag.map Go.AI.encI)), (4, .ip [.sl (parts.map (encS Go.AI.encI))]), (5, .ip [.fn 95 [.ip [.sl (parts.map (encS Go.AI.encI))]]])] (F) := by
    rw [hP]
    refine ja_step (rs := [0, 3, 5, 6]) (by kernel_rfl) (by simp) (fun i hi => ?_)
    simp only [List.mem_cons, List.not_mem_nil, or_false] at hi
    rcases hi with rfl | rfl | rfl | rfl
    · refine ⟨_, rfl, ?_⟩
      first | refine j_op0 rfl rfl rfl rfl ?_ | refine j_build rfl rfl rfl rfl rfl rfl rfl ?_
      refine j_nil ⟨rfl, ?_⟩
      have q := D02
      rw [hP] at q
      exact ja_weak (by exact ⟨rfl, rfl, rfl, rfl, rfl, trivial⟩) (List.Perm.refl _) q
    · refine ⟨_, rfl, ?_⟩
      refine j_len rfl rfl rfl rfl rfl rfl ?_
      refine j_nil ⟨rfl, ?_⟩
      have q := D23
      rw [hP] at q
      exact ja_weak (by exact ⟨rfl, rfl, rfl, rfl, rfl, trivial⟩) (List.Perm.refl _) q
    · refine ⟨_, rfl, ?_⟩
      refine j_alloc rfl rfl rfl rfl rfl (fun b5 => ?_)
      refine j_nil ⟨rfl, ?_⟩
      have q := D25 b5
      rw [hP] at q
      exact ja_weak (by exact ⟨rfl, rfl, rfl, rfl, rfl, trivial⟩) (List.Perm.refl _) q
    · refine ⟨_, rfl, ?_⟩
      refine j_alloc rfl rfl rfl rfl rfl (fun b6 => ?_)
      refine j_nil ⟨rfl, ?_⟩
      have q := D26 b6
      rw [hP] at q
      exact ja_weak (by exact ⟨rfl, rfl, rfl, rfl, rfl, trivial⟩) (List.Perm.refl _) q
  have D5 : ∀ b5 : Nat, P [false, false, false, false, false, true, false, false, false] [(9, .op (some b5) 0), (0, .sl (bag.map Go.AI.encI)), (4, .ip [.sl (parts.map (encS Go.AI.encI))]), (5, .ip [.fn 95 [.ip [.sl (parts.map (encS Go.AI.encI))]]])] ((⟨some b5, 147, 1, [.op none 0]⟩ : Blk) :: F) := by
    intro b5
    rw [hP]
    refine ja_step (rs := [0, 2, 6]) (by kernel_rfl) (by simp) (fun i hi => ?_)
    simp only [List.mem_cons, List.not_mem_nil, or_false] at hi
    rcases hi with rfl | rfl | rfl
    · refine ⟨_, rfl, ?_⟩
      first | refine j_op0 rfl rfl rfl rfl ?_ | refine j_build rfl rfl rfl rfl rfl rfl rfl ?_
      refine j_nil ⟨rfl, ?_⟩
      have q := D05 b5
      rw [hP] at q
      exact ja_weak (by exact ⟨rfl, rfl, rfl, rfl, rfl, trivial⟩) (List.Perm.refl _) q
    · refine ⟨_, rfl, ?_⟩
      refine j_op0 rfl rfl rfl rfl ?_
      refine j_nil ⟨rfl, ?_⟩
      have q := D25 b5
      rw [hP] at q
      exact ja_weak (by exact ⟨rfl, rfl, rfl, rfl, rfl, trivial⟩) (List.Perm.refl _) q
    · refine ⟨_, rfl, ?_⟩
      refine j_alloc rfl rfl rfl rfl rfl (fun b6 => ?_)
      refine j_nil ⟨rfl, ?_⟩
      have q := D56 b5 b6
      rw [hP] at q
      exact ja_weak (by exact ⟨rfl, rfl, rfl, rfl, rfl, trivial⟩) (show List.Perm ((⟨some b6, 24, 1, [.os none 0 0]⟩ : Blk) :: (⟨some b5, 147, 1, [.op none 0]⟩ : Blk) :: F) ((⟨some b5, 147, 1, [.op none 0]⟩ : Blk) :: (⟨some b6, 24, 1, [.os none 0 0]⟩ : Blk) :: F) from by classical exact List.perm_iff_count.2 fun _ => by simp only [List.count_cons]; omega) q
  have D6 : ∀ b6 : Nat, P [false, false, false, false, false, false, true, false, false] [(10, .op (some b6) 0), (0, .sl (bag.map Go.AI.encI)), (4, .ip [.sl (parts.map (encS Go.AI.encI))]), (5, .ip [.fn 95 [.ip [.sl (parts.map (encS Go.AI.encI))]]])] ((⟨some b6, 24, 1, [.os none 0 0]⟩ : Blk) :: F) := by
    intro b6
    rw [hP]
    refine ja_step (rs := [0, 2, 5]) (by kernel_rfl) (by simp) (fun i hi => ?_)
    simp only [List.mem_cons, List.not_mem_nil, or_false] at hi
    rcases hi with rfl | rfl | rfl
    · refine ⟨_, rfl, ?_⟩
      first | refine j_op0 rfl rfl rfl rfl ?_ | refine j_build rfl rfl rfl rfl rfl rfl rfl ?_
      refine j_nil ⟨rfl, ?_⟩
      have q := D06 b6
      rw [hP] at q
      exact ja_weak (by exact ⟨rfl, rfl, rfl, rfl, rfl, trivial⟩) (List.Perm.refl _) q
    · refine ⟨_, rfl, ?_⟩
      refine j_op0 rfl rfl rfl rfl ?_
      refine j_nil ⟨rfl, ?_⟩
      have q := D26 b6
      rw [hP] at q
      exact ja_weak (by exact ⟨rfl, rfl, rfl, rfl, rfl, trivial⟩) (List.Perm.refl _) q
    · refine ⟨_, rfl, ?_⟩
      refine j_alloc rfl rfl rfl rfl rfl (fun b5 => ?_)
      refine j_nil ⟨rfl, ?_⟩
      have q := D56 b5 b6
      rw [hP] at q
      exact ja_weak (by exact ⟨rfl, rfl, rfl, rfl, rfl, trivial⟩) (List.Perm.refl _) q
  have D : P [false, false, false, false, false, false, false, false, false] [(0, .sl (bag.map Go.AI.encI)), (4, .ip [.sl (parts.map (encS Go.AI.encI))]), (5, .ip [.fn 95 [.ip [.sl (parts.map (encS Go.AI.encI))]]])] (F) := by
    rw [hP]
    refine ja_step (rs := [0, 2, 5, 6]) (by kernel_rfl) (by simp) (fun i hi => ?_)
    simp only [List.mem_cons, List.not_mem_nil, or_false] at hi
    rcases hi with rfl | rfl | rfl | rfl
    · refine ⟨_, rfl, ?_⟩
      first | refine j_op0 rfl rfl rfl rfl ?_ | refine j_build rfl rfl rfl rfl rfl rfl rfl ?_
      refine j_nil ⟨rfl, ?_⟩
      have q := D0
      rw [hP] at q
      exact ja_weak (by exact ⟨rfl, rfl, rfl, rfl, trivial⟩) (List.Perm.refl _) q
    · refine ⟨_, rfl, ?_⟩
      refine j_op0 rfl rfl rfl rfl ?_
      refine j_nil ⟨rfl, ?_⟩
      have q := D2
      rw [hP] at q
      exact ja_weak (by exact ⟨rfl, rfl, rfl, rfl, trivial⟩) (List.Perm.refl _) q
    · refine ⟨_, rfl, ?_⟩
      refine j_alloc rfl rfl rfl rfl rfl (fun b5 => ?_)
      refine j_nil ⟨rfl, ?_⟩
      have q := D5 b5
      rw [hP] at q
      exact ja_weak (by exact ⟨rfl, rfl, rfl, rfl, trivial⟩) (List.Perm.refl _) q
    · refine ⟨_, rfl, ?_⟩
      refine j_alloc rfl rfl rfl rfl rfl (fun b6 => ?_)
      refine j_nil ⟨rfl, ?_⟩
      have q := D6 b6
      rw [hP] at q
      exact ja_weak (by exact ⟨rfl, rfl, rfl, rfl, trivial⟩) (List.Perm.refl _) q
  exact D
theorem o_maxPackX (K : Nat) (bag : List Int) (parts : List (List Int)) (hb0 : Bgk K bag) (hp : ∀ p ∈ parts, Ptk K p) (h8 : parts.length ≤ 8) (h1 : 1 ≤ parts.length) (h16 : tot bag ≤ 16) : Does Tryz.prog 76 [.sl (bag.map Go.AI.encI), .sl (parts.map (encS Go.AI.encI))] []
    (fun v h' => h' = [] ∧ (packN parts parts bag ≤ 2000 → v = .tup [.sl ((packL parts parts bag).map (encS Go.AI.encI)), .int 0]) ∧ (2000 < packN parts parts bag → ∃ x, v = .tup [x, .int 3])) := by
  refine fn_of_runD tyOk ztOk mix Tryz.func76 rfl (by decide) Tryz.ntmps76 (fun w0 F => ?_)
  change Run _ _ _ _ _ F
  repeat' (first
      | (refine j_go ?_; first
        | refine j_op0 rfl rfl rfl rfl ?_ | refine j_box rfl rfl rfl rfl rfl rfl ?_)
      | refine j_nil ?_
      | (refine r_go ?_; first | refine run_seq ?_ | refine run_region ?_)
      | refine seqQ_normal ?_)
  refine j_kCall rfl rfl rfl rfl ?_
  refine jcp _ (o_packingsX K bag parts hb0 hp h8 h1 h16) (List.Perm.refl _) (LeL.refl _) rfl rfl (fun v h2 hR => ?_)
  obtain ⟨rfl, r1, r2⟩ := hR
  by_cases hN : packN parts parts bag ≤ 2000
  · rw [r1 hN]
    repeat' (first
      | (refine j_go ?_; first
        | refine j_op0 rfl rfl rfl rfl ?_)
      | refine j_nil ?_
      | (refine r_go ?_; first | refine run_ret ?_)
      | refine seqQ_normal ?_)
    exact endD_ret (h1 := []) rfl (.cons (.tmp rfl) (.cons (.tmp rfl) .nil)) (Le.refl _) ⟨rfl, fun _ => rfl, fun q => by omega⟩ (.inl rfl)
  · obtain ⟨x, rfl⟩ := r2 (by omega)
    repeat' (first
      | (refine j_go ?_; first
        | refine j_op0 rfl rfl rfl rfl ?_)
      | refine j_nil ?_
      | (refine r_go ?_; first | refine run_ret ?_)
      | refine seqQ_normal ?_)
    exact endD_ret (h1 := []) rfl (.cons (.tmp rfl) (.cons (.tmp rfl) .nil)) (Le.refl _) ⟨rfl, fun q => absurd q hN, fun _ => ⟨x, rfl⟩⟩ (.inl rfl)
end Go.Proofs.YtkfmjjoalkoncaaGreat
