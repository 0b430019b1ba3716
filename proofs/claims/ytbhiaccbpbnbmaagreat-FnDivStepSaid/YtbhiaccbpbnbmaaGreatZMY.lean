/-
  A system of dividing cells and a colony that are drawn. No condition.
-/
import Derived.Test.YtbhiaccbpbnbmaaGreatZS0
import Derived.Test.YtbhiaccbpbnbmaaGreatZDP
import Derived.Test.YtbhiaccbpbnbmaaGreatZE5
import Derived.Test.YtbhiaccbpbnbmaaGreatZW5
import Derived.Test.YtbhiaccbpbnbmaaGreatZMX
namespace Go.Proofs.YtbhiaccbpbnbmaaGreat
open Go.AI
set_option maxRecDepth 8000
set_option maxHeartbeats 3200000

section
variable {C : Cx} {e : Env} {h : Heap} {o : Oper}
/-- A sum that is in range is data whatever the memory. -/
theorem sum_quiet {m : Int} (hv : opVal C.ty e o.op = some (.int (wrapI m))) (hm : -9223372036854775808 ≤ m ∧ m ≤ 9223372036854775807) : Quiet C.P o e h (.int m) := by
  have := opVal_quiet (h := h) C.ok hv
  rw [wrapI_of hm] at this
  exact this
end
theorem memD1 {k : Nat × Blk} {i : Nat} {b : Blk} (h : k ∈ [(i, b)]) : k.2 = b := by
  rw [List.mem_singleton] at h; rw [h]
abbrev drB (b : Option Nat) (cap : Nat) (l : List DivRule) : Blk := ⟨b, 39, cap * 7, (l.map encDivRule).flatten⟩
abbrev dvB (b : Nat) (cs : List A) : Blk := ⟨some b, 26, 2, cs⟩
/-- A division that is right and small. -/
def DivSm (d : Division) : Prop := d.Valid ∧ d.objects ≤ 6 ∧ d.rules.length ≤ 7 ∧ ∀ r ∈ d.rules, r.first.length ≤ 2 ∧ r.second.length ≤ 2
def DivDR (s : Nat) (code : List UInt8) (lim : Nat) : A → Heap → Prop := fun v h' => ∃ (d : Division) (at2 : Nat) (sd : Int), v = .agg (encDivision d) ∧ DivSm d ∧ at2 ≤ lim ∧ h' = [srcB s code at2 sd]
theorem o_l07Draw (s : Nat) (code : List UInt8) (at_ : Nat) (sd : Int) (ha : at_ ≤ 1000) : Does Tryz.prog 17 [.op (some s) 0] [srcB s code at_ sd] (DivDR s code (at_ + 1000)) := by
  refine fn_of_runD tyOk ztOk mix Tryz.func17 rfl (by decide) Tryz.ntmps17 (fun w0 F => ?_)
  change Run _ _ _ _ _ (_ :: F)
  repeat' (first
      | (refine j_go ?_; first
        | refine j_op0 rfl rfl rfl rfl ?_ | refine j_alloc rfl rfl rfl rfl rfl (fun _ => ?_))
      | refine j_nil ?_
      | (refine r_go ?_; first | refine run_seq ?_ | refine run_region ?_)
      | refine seqQ_normal ?_)
  rename_i b2
  refine j_kCall rfl rfl rfl rfl ?_
  refine jcp (_ :: F) (o_pick s code at_ sd 4 (by omega) (by omega)) (List.Perm.swap _ _ _) (LeL.refl _) rfl rfl (fun v h1 hR => ?_)
  obtain ⟨r, a1, sd1, rfl, hr, ha1, rfl⟩ := hR
  repeat' (first
      | (refine j_go ?_; first
        | refine j_op0 rfl rfl rfl rfl ?_ | (refine j_kBin rfl ?_; first | refine j_in rfl rfl ⟨by omega, by omega⟩ rfl rfl ?_) | (refine j_kStore rfl ?_; first | refine j_storeN 0 rfl rfl rfl rfl rfl rfl rfl rfl rfl rfl rfl ?_) | refine j_build rfl rfl rfl rfl rfl rfl rfl ?_ | refine j_alloc rfl rfl rfl rfl rfl (fun _ => ?_))
      | refine j_nil ?_
      | (refine r_go ?_; first | refine run_seq ?_ | refine run_region ?_)
      | refine seqQ_normal ?_)
  rename_i b3
  refine j_kCall rfl rfl rfl rfl ?_
  refine jcp (_ :: _ :: F) (o_pick s code a1 sd1 7 (by omega) (by omega)) (List.Perm.swap _ _ _) (LeL.refl _) rfl rfl (fun v h1 hR => ?_)
  obtain ⟨r2, a2, sd2, rfl, hr2, ha2, rfl⟩ := hR
  repeat' (first
      | (refine j_go ?_; first
        | refine j_op0 rfl rfl rfl rfl ?_ | (refine j_kBin rfl ?_; first | refine j_in rfl rfl ⟨by omega, by omega⟩ rfl rfl ?_))
      | refine j_nil ?_
      | (refine r_go ?_; first | refine run_block ?_)
      | refine seqQ_normal ?_)
  refine run_view (view_none 39 (0 * 7) rfl) ?_
  refine run_view (view_perm rev3) ?_
  refine run_view (view_perm (List.Perm.swap _ _ _)) ?_
  refine run_loop (fun x : Int × List DivRule × Option Nat × Nat × Nat × Int => [(0, .op (some s) 0), (2, .op (some b2) 0), (3, .op (some b3) 0), (4, .int x.1)])
    (fun x => srcB s code x.2.2.2.2.1 x.2.2.2.2.2 :: dvB b3 [.int (2 + r), .os x.2.2.1 x.2.1.length x.2.2.2.1] :: drB x.2.2.1 x.2.2.2.1 x.2.1 :: dvB b2 [.int 0, .os none 0 0] :: F)
    (fun x => (0 ≤ x.1 ∧ x.1 ≤ 7) ∧ (x.2.1.length : Int) + x.1 ≤ 7 ∧ (∀ q ∈ x.2.1, q.Ok (2 + r) ∧ q.first.length ≤ 2 ∧ q.second.length ≤ 2) ∧ (x.2.2.2.2.1 : Int) ≤ at_ + 4 + 100 * (7 - x.1)) (fun x => x.1.toNat) (1 + r2, [], none, 0, a2, sd2) ⟨rfl, rfl, rfl, rfl, trivial⟩ rfl ⟨by dsimp only; omega, by dsimp only [List.length_nil]; omega, by simp, by dsimp only; omega⟩ (fun ⟨i, rs, b, cap, a, sd⟩ ⟨hi, hl, hq, hA⟩ => ?_)
  dsimp only at hi hl hq hA ⊢
  by_cases h0 : 0 < i
  case pos =>
    repeat' (first
      | (refine j_go ?_; first
        | refine j_op0 rfl rfl rfl rfl ?_)
      | refine j_nil ?_
      | (refine j_goO ?_; first
        | refine j_op0O rfl rfl rfl rfl ?_ | (refine j_kLoadO rfl ?_; first | refine j_mloadO 1 rfl rfl rfl rfl rfl rfl rfl rfl ?_ | refine j_mloadS 1 rfl rfl rfl rfl rfl rfl rfl ?_))
      | (refine r_go ?_; first | refine run_seq ?_ | refine run_region ?_ | (refine (run_if rfl (fun hb => ?_) (fun hb => ?_)) <;> first | (exfalso; omega) | skip) | refine run_block ?_ | refine run_skip ?_ | refine run_opn 5 [⟨0, false, false, 0⟩, ⟨1, false, false, 0⟩, ⟨2, true, false, 0⟩, ⟨3, true, false, 0⟩, ⟨4, true, false, 0⟩, ⟨5, false, true, 0⟩, ⟨6, true, false, 0⟩, ⟨7, false, true, 0⟩, ⟨8, true, false, 0⟩, ⟨9, false, true, 0⟩] rfl rfl (by kernel_rfl) ?_)
      | refine seqQ_normal ?_)
    refine j_kCallO rfl rfl rfl rfl ?_
    refine jcdO 0 1 rfl (fun k hk => by rw [memD1 hk]; exact List.mem_cons_self) (o_l07DrawRule s code a sd (2 + r) (by omega) (by omega)) rfl (LeL.refl _) rfl rfl (fun v h1 hR => ?_)
    obtain ⟨r5, a5, sd5, rfl, hr5, ha5, rfl⟩ := hR
    refine j_dropO [1] rfl (by kernel_rfl) ?_
    repeat' (first
      | (refine j_goO ?_; first
        | (refine j_kBslO rfl ?_; first | refine j_bslO rfl rfl rfl rfl rfl rfl rfl rfl rfl rfl rfl ?_)))
    refine j_appendO 2 (g := encDivRule) (ys := rs) [r5] rfl (fun _ hk => nomatch hk) rfl rfl rfl rfl rfl rfl rfl rfl rfl rfl rfl rfl (fun _ => rfl) (fun _ hy => by simp only [List.mem_singleton] at hy; subst hy; rfl) ⟨by simp only [List.length_cons, List.length_nil]; omega, by simp only [List.length_cons, List.length_nil]; omega⟩ rfl rfl (fun b' cap' => ?_)
    repeat' (first
      | (refine j_go ?_; first
        | refine j_op0 rfl rfl rfl rfl ?_ | (refine j_kBin rfl ?_; first | refine j_in rfl rfl ⟨by omega, by omega⟩ rfl rfl ?_))
      | refine j_nil ?_
      | (refine j_goO ?_; first
        | refine j_op0O rfl rfl rfl rfl ?_ | (refine j_kStoreO rfl ?_; first | refine j_storeO 1 rfl rfl rfl rfl rfl rfl rfl rfl rfl rfl rfl rfl (by first | (intro _ hk; exact absurd hk List.not_mem_nil) | (intro k hk; simp at hk ⊢; try simp [hk])) ?_))
      | refine j_nilO ?_
      | (refine r_go ?_; first | refine run_region ?_)
      | refine seqQ_normal ?_ | refine blockQ_normal ?_)
    have ln : (rs ++ [r5]).length = rs.length + 1 := by rw [List.length_append]; rfl
    exact loopQ_next (i - 1, rs ++ [r5], b', cap', a5, sd5) ⟨by dsimp only; omega, by dsimp only; omega, fun q h => by
      rcases List.mem_append.1 h with h | h
      · exact hq q h
      · rw [List.mem_singleton] at h; subst h; exact hr5, by dsimp only; omega⟩ (by dsimp only; omega) rfl ⟨rfl, rfl, rfl, rfl, trivial⟩
  obtain rfl : i = 0 := by omega
  refine run_view (view_cellF (k := 1) (b := some b3) (h1 := [drB b cap rs]) (F := _ :: _ :: F) ((List.Perm.swap _ _ _).trans (List.Perm.cons _ (List.Perm.swap _ _ _))) rfl (FrzF.flat (g := encDivRule) (ys := rs) (z := 7) rfl rfl (fun _ => rfl) rfl rfl)) ?_
  repeat' (first
      | (refine j_go ?_; first
        | refine j_op0 rfl rfl rfl rfl ?_ | (refine j_kLoad rfl ?_; first | refine j_mload 0 rfl rfl rfl rfl rfl rfl rfl ?_) | (refine j_kStore rfl ?_; first | refine j_storeN 2 rfl rfl rfl rfl rfl rfl rfl rfl rfl rfl rfl ?_))
      | refine j_nil ?_
      | (refine r_go ?_; first | refine run_seq ?_ | refine run_region ?_ | (refine (run_if rfl (fun hb => ?_) (fun hb => ?_)) <;> first | (exfalso; omega) | skip) | refine run_ret ?_ | refine run_exit ?_)
      | refine seqQ_normal ?_ | refine seqQ_exit ?_ | refine blockQ_eq ?_ | refine loopQ_exit ?_)
  refine endD_view (view_freezeP 2 2 rfl rfl) (endD_view (view_sub (List.sublist_cons_self _ _)) ?_)
  exact endD_ret (h1 := [_]) rfl (.cons (.cellI rfl rfl) .nil) (Le.refl _) ⟨⟨2 + r, rs⟩, a, sd, rfl, ⟨⟨by dsimp only; omega, by dsimp only; omega, fun q h => (hq q h).1⟩, by dsimp only; omega, by dsimp only; omega, fun q h => (hq q h).2⟩, by omega, rfl⟩ (.inl rfl)
def PDivR : A → Heap → Prop := fun v h' => ∃ (d : Division) (c : Colony), v = .tup [.agg (encDivision d), .agg (encColony c)] ∧ DivSm d ∧ HeapOf d.objects c.skin 4 ∧ c.Ok d.objects ∧ h' = []
theorem o_P6Division (code : List UInt8) : Does Tryz.prog 6 [.sl (code.map encY)] [] PDivR := by
  refine fn_of_runD tyOk ztOk mix Tryz.func6 rfl (by decide) Tryz.ntmps6 (fun w0 F => ?_)
  change Run _ _ _ _ _ F
  repeat' (first
      | (refine j_go ?_; first
        | refine j_op0 rfl rfl rfl rfl ?_ | refine j_alloc rfl rfl rfl rfl rfl (fun _ => ?_))
      | refine j_nil ?_
      | (refine r_go ?_; first | refine run_seq ?_ | refine run_region ?_)
      | refine seqQ_normal ?_)
  rename_i b2 b3
  refine j_kCall rfl rfl rfl rfl ?_
  refine jcp (_ :: _ :: F) (o_from code) (List.Perm.refl _) (LeL.refl _) rfl rfl (fun v h1 hR => ?_)
  obtain ⟨s, rfl, rfl⟩ := hR
  repeat' (first
      | (refine j_go ?_; first
        | refine j_op0 rfl rfl rfl rfl ?_)
      | refine j_nil ?_
      | (refine r_go ?_; first | refine run_seq ?_ | refine run_region ?_)
      | refine seqQ_normal ?_)
  refine j_kCall rfl rfl rfl rfl ?_
  refine jcp (_ :: _ :: F) (o_l07Draw s code 0 0 (by omega)) (List.Perm.refl _) (LeL.refl _) rfl rfl (fun v h1 hR => ?_)
  obtain ⟨d, a1, sd1, rfl, hd, ha1, rfl⟩ := hR
  have ho := hd.1.1
  repeat' (first
      | (refine j_go ?_; first
        | refine j_op0 rfl rfl rfl rfl ?_ | (refine j_kLoad rfl ?_; first | refine j_mload 0 rfl rfl rfl rfl rfl rfl rfl ?_) | (refine j_kStore rfl ?_; first | refine j_storeN 0 rfl rfl rfl rfl rfl rfl rfl rfl rfl rfl rfl ?_) | refine j_alloc rfl rfl rfl rfl rfl (fun _ => ?_))
      | refine j_nil ?_
      | (refine r_go ?_; first | refine run_seq ?_ | refine run_region ?_)
      | refine seqQ_normal ?_)
  rename_i b5
  refine j_view (view_freezeP 0 5 rfl rfl) ?_
  refine j_kCall rfl rfl rfl rfl ?_
  refine jcp (_ :: _ :: F) (o_l07Some s code a1 sd1 d.objects 4 (by omega) ho (by omega)) (List.Perm.refl _) (LeL.refl _) rfl rfl (fun v h1 hR => ?_)
  obtain ⟨l, a2, sd2, rfl, hl, ha2, rfl⟩ := hR
  repeat' (first
      | (refine j_go ?_; first
        | refine j_op0 rfl rfl rfl rfl ?_ | (refine j_kStore rfl ?_; first | refine j_storeN 0 rfl rfl rfl rfl rfl rfl rfl rfl rfl rfl rfl ?_) | (refine j_kBsl rfl ?_; first | refine j_bs0 rfl rfl rfl rfl rfl rfl ?_) | refine j_build rfl rfl rfl rfl rfl rfl rfl ?_ | refine j_alloc rfl rfl rfl rfl rfl (fun _ => ?_))
      | refine j_nil ?_
      | (refine r_go ?_; first | refine run_seq ?_ | refine run_region ?_)
      | refine seqQ_normal ?_)
  rename_i b6
  refine j_kCall rfl rfl rfl rfl ?_
  refine jcp (_ :: _ :: _ :: F) (o_pick s code a2 sd2 4 (by omega) (by omega)) (List.Perm.swap _ _ _) (LeL.refl _) rfl rfl (fun v h1 hR => ?_)
  obtain ⟨r, a3, sd3, rfl, hr, ha3, rfl⟩ := hR
  repeat' (first
      | (refine j_go ?_; first
        | refine j_op0 rfl rfl rfl rfl ?_)
      | refine j_nil ?_
      | (refine r_go ?_; first | refine run_block ?_)
      | refine seqQ_normal ?_)
  refine run_view (view_none 54 (0 * 3) rfl) ?_
  refine run_view (view_perm rev3) ?_
  refine run_view (view_perm (List.Perm.swap _ _ _)) ?_
  refine run_loop (fun x : Int × List Group × Option Nat × Nat × Nat × Int => [(2, .op (some b2) 0), (3, .op (some b3) 0), (4, .op (some s) 0), (5, .ip (encDivision d)), (6, .op (some b6) 0), (7, .int x.1)])
    (fun x => srcB s code x.2.2.2.2.1 x.2.2.2.2.2 :: ⟨some b6, 30, 2, [.sl (l.map Go.AI.encI), .os x.2.2.1 x.2.1.length x.2.2.2.1]⟩ :: ⟨x.2.2.1, 54, x.2.2.2.1 * 3, (x.2.1.map encGroup).flatten⟩ :: ⟨some b3, 30, 2, [.os none 0 0, .os none 0 0]⟩ :: dvB b2 [.int 0, .os none 0 0] :: F)
    (fun x => (0 ≤ x.1 ∧ x.1 ≤ 3) ∧ (x.2.1.length : Int) + x.1 ≤ 3 ∧ (∀ y ∈ x.2.1, 0 ≤ y.count ∧ y.count ≤ 3 * (3 - x.1)) ∧ (x.2.1.Pairwise Before ∧ ∀ y ∈ x.2.1, DrwG d.objects y) ∧ (x.2.2.2.2.1 : Int) ≤ 1100 + 20 * (3 - x.1)) (fun x => x.1.toNat) (r, [], none, 0, a3, sd3) ⟨rfl, rfl, rfl, rfl, rfl, rfl, trivial⟩ rfl ⟨by dsimp only; omega, by dsimp only [List.length_nil]; omega, by simp, ⟨by simp, by simp⟩, by dsimp only; omega⟩ (fun ⟨i, gs, b, cap, a, sd⟩ ⟨hi, hg, hq, hw, hA⟩ => ?_)
  dsimp only at hi hg hq hw hA ⊢
  by_cases h0 : 0 < i
  case pos =>
    repeat' (first
      | (refine j_go ?_; first
        | refine j_op0 rfl rfl rfl rfl ?_)
      | refine j_nil ?_
      | (refine r_go ?_; first | refine run_seq ?_ | refine run_region ?_ | (refine (run_if rfl (fun hb => ?_) (fun hb => ?_)) <;> first | (exfalso; omega) | skip) | refine run_block ?_ | refine run_skip ?_)
      | refine seqQ_normal ?_)
    refine run_join (fun z : Int × List Int × Int × Nat × Nat × Int => [(2, .op (some b2) 0), (3, .op (some b3) 0), (4, .op (some s) 0), (5, .ip (encDivision d)), (6, .op (some b6) 0), (7, .int i), (8, .op (some z.2.2.2.1) 0)])
      (fun z => ⟨some z.2.2.2.1, 54, 3, encGroup ⟨z.1, z.2.1, 1 + z.2.2.1⟩⟩ :: srcB s code z.2.2.2.2.1 z.2.2.2.2.2 :: ⟨some b6, 30, 2, [.sl (l.map Go.AI.encI), .os b gs.length cap]⟩ :: ⟨b, 54, cap * 3, (gs.map encGroup).flatten⟩ :: ⟨some b3, 30, 2, [.os none 0 0, .os none 0 0]⟩ :: dvB b2 [.int 0, .os none 0 0] :: F)
      (fun z => (-1 ≤ z.1 ∧ z.1 ≤ 1) ∧ HeapOf d.objects z.2.1 4 ∧ (0 ≤ z.2.2.1 ∧ z.2.2.1 ≤ 2) ∧ z.2.2.2.2.1 ≤ a + 14) ?_ (fun ⟨c1, l2, r6, b8, a6, sd6⟩ ⟨hc1, hl2, hr6, ha6⟩ => ?_)
    · repeat' (first
      | (refine j_goO ?_; first
        | refine j_op0O rfl rfl rfl rfl ?_ | (refine j_kBslO rfl ?_; first | refine j_bslO rfl rfl rfl rfl rfl rfl rfl rfl rfl rfl rfl ?_))
      | (refine r_go ?_; first | refine run_opn 7 [⟨0, false, false, 0⟩, ⟨1, false, false, 0⟩, ⟨3, false, false, 0⟩, ⟨4, false, false, 0⟩, ⟨5, false, false, 0⟩, ⟨7, false, false, 0⟩, ⟨11, false, true, 5⟩, ⟨2, false, true, 0⟩, ⟨6, false, true, 0⟩, ⟨8, false, true, 0⟩, ⟨9, false, false, 0⟩, ⟨10, false, false, 0⟩, ⟨12, false, true, 0⟩] rfl rfl (by kernel_rfl) ?_))
      refine j_twoO rfl rfl rfl rfl (alloc_at rfl rfl) rfl rfl rfl (call_part 0 1 rfl rfl rfl (o_among s code a sd [0, 0, 1, -1] (-1) 1 (by omega) (by decide) (by decide) (by decide)) rfl (LeL.refl _)) rfl rfl (fun v h' hR => ?_) (fun v h' hR => ?_)
      · obtain ⟨b8, rfl, rfl⟩ := hR
        refine j_kCallO rfl rfl rfl rfl ?_
        refine jcdO 1 1 rfl (fun k hk => nomatch hk) (o_among s code a sd [0, 0, 1, -1] (-1) 1 (by omega) (by decide) (by decide) (by decide)) rfl (LeL.refl _) rfl rfl (fun v h1 hR => ?_)
        obtain ⟨c1, a4, sd4, rfl, hc1, ha4, rfl⟩ := hR
        refine j_kCallO rfl rfl rfl rfl ?_
        refine jcdO 1 1 rfl (fun k hk => nomatch hk) (o_l07Some s code a4 sd4 d.objects 4 (by omega) ho (by omega)) rfl (LeL.refl _) rfl rfl (fun v h1 hR => ?_)
        obtain ⟨l2, a5, sd5, rfl, hl2, ha5, rfl⟩ := hR
        refine j_kCallO rfl rfl rfl rfl ?_
        refine jcdO 1 1 rfl (fun k hk => nomatch hk) (o_pick s code a5 sd5 3 (by omega) (by omega)) rfl (LeL.refl _) rfl rfl (fun v h1 hR => ?_)
        obtain ⟨r6, a6, sd6, rfl, hr6, ha6, rfl⟩ := hR
        repeat' (first
      | (refine j_goO ?_; first
        | (refine j_kBinO rfl ?_; first | refine j_inO rfl rfl ⟨by omega, by omega⟩ rfl rfl ?_) | (refine j_kStoreO rfl ?_; first | refine j_storeNO 0 rfl rfl rfl rfl rfl rfl rfl rfl rfl rfl rfl rfl (by first | (intro _ hk; exact absurd hk List.not_mem_nil) | (intro k hk; simp at hk ⊢; try simp [hk])) ?_) | refine j_buildO rfl rfl rfl rfl rfl rfl rfl ?_)
      | refine j_nilO ?_)
        exact joinQ_done (c1, l2, r6, b8, a6, sd6) ⟨hc1, hl2, ⟨by dsimp only; omega, by dsimp only; omega⟩, by dsimp only; omega⟩ rfl ⟨rfl, rfl, rfl, rfl, rfl, rfl, rfl, trivial⟩
      · obtain ⟨h1, ⟨c1, a4, sd4, rfl, hc1, ha4, rfl⟩, rfl⟩ := hR
        refine j_twoO rfl rfl rfl rfl (alloc_at rfl rfl) rfl rfl rfl (call_part 0 1 rfl rfl rfl (o_l07Some s code a4 sd4 d.objects 4 (by omega) ho (by omega)) rfl (LeL.refl _)) rfl rfl (fun v h' hR => ?_) (fun v h' hR => ?_)
        · obtain ⟨b8, rfl, rfl⟩ := hR
          refine j_kCallO rfl rfl rfl rfl ?_
          refine jcdO 1 1 rfl (fun k hk => nomatch hk) (o_l07Some s code a4 sd4 d.objects 4 (by omega) ho (by omega)) rfl (LeL.refl _) rfl rfl (fun v h1 hR => ?_)
          obtain ⟨l2, a5, sd5, rfl, hl2, ha5, rfl⟩ := hR
          refine j_kCallO rfl rfl rfl rfl ?_
          refine jcdO 1 1 rfl (fun k hk => nomatch hk) (o_pick s code a5 sd5 3 (by omega) (by omega)) rfl (LeL.refl _) rfl rfl (fun v h1 hR => ?_)
          obtain ⟨r6, a6, sd6, rfl, hr6, ha6, rfl⟩ := hR
          repeat' (first
      | (refine j_goO ?_; first
        | (refine j_kBinO rfl ?_; first | refine j_inO rfl rfl ⟨by omega, by omega⟩ rfl rfl ?_) | (refine j_kStoreO rfl ?_; first | refine j_storeNO 0 rfl rfl rfl rfl rfl rfl rfl rfl rfl rfl rfl rfl (by first | (intro _ hk; exact absurd hk List.not_mem_nil) | (intro k hk; simp at hk ⊢; try simp [hk])) ?_) | refine j_buildO rfl rfl rfl rfl rfl rfl rfl ?_)
      | refine j_nilO ?_)
          exact joinQ_done (c1, l2, r6, b8, a6, sd6) ⟨hc1, hl2, ⟨by dsimp only; omega, by dsimp only; omega⟩, by dsimp only; omega⟩ rfl ⟨rfl, rfl, rfl, rfl, rfl, rfl, rfl, trivial⟩
        · obtain ⟨h1, ⟨l2, a5, sd5, rfl, hl2, ha5, rfl⟩, rfl⟩ := hR
          refine j_twoO rfl rfl rfl rfl (alloc_at rfl rfl) rfl rfl rfl (call_part 0 1 rfl rfl rfl (o_pick s code a5 sd5 3 (by omega) (by omega)) rfl (LeL.refl _)) rfl rfl (fun v h' hR => ?_) (fun v h' hR => ?_)
          · obtain ⟨b8, rfl, rfl⟩ := hR
            refine j_kCallO rfl rfl rfl rfl ?_
            refine jcdO 1 1 rfl (fun k hk => nomatch hk) (o_pick s code a5 sd5 3 (by omega) (by omega)) rfl (LeL.refl _) rfl rfl (fun v h1 hR => ?_)
            obtain ⟨r6, a6, sd6, rfl, hr6, ha6, rfl⟩ := hR
            repeat' (first
      | (refine j_goO ?_; first
        | (refine j_kBinO rfl ?_; first | refine j_inO rfl rfl ⟨by omega, by omega⟩ rfl rfl ?_) | (refine j_kStoreO rfl ?_; first | refine j_storeNO 0 rfl rfl rfl rfl rfl rfl rfl rfl rfl rfl rfl rfl (by first | (intro _ hk; exact absurd hk List.not_mem_nil) | (intro k hk; simp at hk ⊢; try simp [hk])) ?_) | refine j_buildO rfl rfl rfl rfl rfl rfl rfl ?_)
      | refine j_nilO ?_)
            exact joinQ_done (c1, l2, r6, b8, a6, sd6) ⟨hc1, hl2, ⟨by dsimp only; omega, by dsimp only; omega⟩, by dsimp only; omega⟩ rfl ⟨rfl, rfl, rfl, rfl, rfl, rfl, rfl, trivial⟩
          · obtain ⟨h1, ⟨r6, a6, sd6, rfl, hr6, ha6, rfl⟩, rfl⟩ := hR
            refine j_floatO rfl rfl rfl rfl rfl (alloc_at rfl rfl) rfl rfl rfl (fun _ => sum_quiet (m := 1 + r6) rfl (by omega)) rfl rfl (fun v h' hR => ?_) ?_
            · obtain ⟨b8, rfl, rfl⟩ := hR
              repeat' (first
      | (refine j_goO ?_; first
        | (refine j_kBinO rfl ?_; first | refine j_inO rfl rfl ⟨by omega, by omega⟩ rfl rfl ?_) | (refine j_kStoreO rfl ?_; first | refine j_storeNO 0 rfl rfl rfl rfl rfl rfl rfl rfl rfl rfl rfl rfl (by first | (intro _ hk; exact absurd hk List.not_mem_nil) | (intro k hk; simp at hk ⊢; try simp [hk])) ?_) | refine j_buildO rfl rfl rfl rfl rfl rfl rfl ?_)
      | refine j_nilO ?_)
              exact joinQ_done (c1, l2, r6, b8, a6, sd6) ⟨hc1, hl2, ⟨by dsimp only; omega, by dsimp only; omega⟩, by dsimp only; omega⟩ rfl ⟨rfl, rfl, rfl, rfl, rfl, rfl, rfl, trivial⟩
            · skip
              refine j_floatO rfl rfl rfl rfl rfl (alloc_at rfl rfl) rfl rfl rfl (fun _ => build_quiet rfl rfl rfl rfl) rfl rfl (fun v h' hR => ?_) ?_
              · obtain ⟨b8, rfl, rfl⟩ := hR
                repeat' (first
      | (refine j_goO ?_; first
        | (refine j_kStoreO rfl ?_; first | refine j_storeNO 0 rfl rfl rfl rfl rfl rfl rfl rfl rfl rfl rfl rfl (by first | (intro _ hk; exact absurd hk List.not_mem_nil) | (intro k hk; simp at hk ⊢; try simp [hk])) ?_) | refine j_buildO rfl rfl rfl rfl rfl rfl rfl ?_)
      | refine j_nilO ?_)
                exact joinQ_done (c1, l2, r6, b8, a6, sd6) ⟨hc1, hl2, ⟨by dsimp only; omega, by dsimp only; omega⟩, by dsimp only; omega⟩ rfl ⟨rfl, rfl, rfl, rfl, rfl, rfl, rfl, trivial⟩
              · skip
                refine j_allocO rfl (fun _ hk => nomatch hk) rfl rfl rfl rfl rfl (fun b8 => ?_)
                repeat' (first
      | (refine j_goO ?_; first
        | (refine j_kStoreO rfl ?_; first | refine j_storeNO 0 rfl rfl rfl rfl rfl rfl rfl rfl rfl rfl rfl rfl (by first | (intro _ hk; exact absurd hk List.not_mem_nil) | (intro k hk; simp at hk ⊢; try simp [hk])) ?_))
      | refine j_nilO ?_)
                exact joinQ_done (c1, l2, r6, b8, a6, sd6) ⟨hc1, hl2, ⟨by dsimp only; omega, by dsimp only; omega⟩, by dsimp only; omega⟩ rfl ⟨rfl, rfl, rfl, rfl, rfl, rfl, rfl, trivial⟩
    dsimp only at hc1 hl2 hr6 ha6 ⊢
    repeat' (first
      | (refine j_go ?_; first
        | refine j_op0 rfl rfl rfl rfl ?_ | (refine j_kLoad rfl ?_; first | refine j_mload 0 rfl rfl rfl rfl rfl rfl rfl ?_ | refine j_mload 2 rfl rfl rfl rfl rfl rfl rfl ?_))
      | (refine r_go ?_; first | refine run_region ?_))
    refine j_kCall rfl rfl rfl rfl ?_
    refine jcp (_ :: _ :: _ :: _ :: _ :: F) (o_l07Insert gs ⟨c1, l2, 1 + r6⟩ b cap (by omega) (fun x hx => by have := hq x hx; omega) (by dsimp only; omega) (by dsimp only; omega)) (List.perm_middle (l₁ := [_, _, _])) (LeL.refl _) rfl rfl (fun v h1 hR => ?_)
    obtain ⟨b', c', rfl, rfl⟩ := hR
    refine j_view (view_erase 1) ?_
    refine j_view (view_perm (List.perm_middle (l₁ := [_, _])).symm) ?_
    repeat' (first
      | (refine j_go ?_; first
        | refine j_op0 rfl rfl rfl rfl ?_ | (refine j_kBin rfl ?_; first | refine j_in rfl rfl ⟨by omega, by omega⟩ rfl rfl ?_) | (refine j_kStore rfl ?_; first | refine j_store 1 rfl rfl rfl rfl rfl rfl rfl rfl rfl rfl rfl ?_))
      | refine j_nil ?_
      | (refine r_go ?_; first | refine run_region ?_)
      | refine seqQ_normal ?_ | refine blockQ_normal ?_)
    have il := insM_len gs ⟨c1, l2, 1 + r6⟩
    have ic := insM_cnt (gs := gs) (g := ⟨c1, l2, 1 + r6⟩) (B := 3 * (3 - i)) (C := 3) hq (by dsimp only; omega) (by omega)
    exact loopQ_next (i - 1, insM gs ⟨c1, l2, 1 + r6⟩, b', c', a6, sd6) ⟨by dsimp only; omega, by dsimp only; omega, fun y hy => by have := ic y hy; dsimp only; omega, ins_drw hw ⟨hc1, hl2, by dsimp only; omega⟩, by dsimp only; omega⟩ (by dsimp only; omega) rfl ⟨rfl, rfl, rfl, rfl, rfl, rfl, trivial⟩
  obtain rfl : i = 0 := by omega
  refine run_view (view_cellF (k := 1) (b := some b6) (h1 := [_]) (F := _ :: _ :: _ :: F) ((List.Perm.swap _ _ _).trans (List.Perm.cons _ (List.Perm.swap _ _ _))) rfl (FrzF.flat (g := encGroup) (ys := gs) (z := 3) rfl rfl (fun _ => rfl) rfl rfl)) ?_
  refine run_view (view_freezeP 0 6 rfl rfl) ?_
  repeat' (first
      | (refine j_go ?_; first
        | refine j_op0 rfl rfl rfl rfl ?_)
      | refine j_nil ?_
      | (refine j_goO ?_; first
        | refine j_op0O rfl rfl rfl rfl ?_ | (refine j_kStoreO rfl ?_; first | refine j_storeNO 1 rfl rfl rfl rfl rfl rfl rfl rfl rfl rfl rfl rfl (by first | (intro _ hk; exact absurd hk List.not_mem_nil) | (intro k hk; simp at hk ⊢; try simp [hk])) ?_ | refine j_storeNO 2 rfl rfl rfl rfl rfl rfl rfl rfl rfl rfl rfl rfl (by first | (intro _ hk; exact absurd hk List.not_mem_nil) | (intro k hk; simp at hk ⊢; try simp [hk])) ?_))
      | refine j_nilO ?_
      | (refine r_go ?_; first | refine run_seq ?_ | refine run_region ?_ | (refine (run_if rfl (fun hb => ?_) (fun hb => ?_)) <;> first | (exfalso; omega) | skip) | refine run_ret ?_ | refine run_exit ?_ | refine run_opn 9 [⟨0, true, false, 0⟩, ⟨1, false, false, 0⟩, ⟨2, false, true, 0⟩, ⟨3, false, true, 0⟩] rfl rfl (by kernel_rfl) ?_)
      | refine seqQ_normal ?_ | refine seqQ_exit ?_ | refine blockQ_eq ?_ | refine loopQ_exit ?_)
  refine endD_view (view_freezeP 1 3 rfl rfl) (endD_view (view_freezeP 1 2 rfl rfl) (endD_view (view_sub (List.sublist_cons_self _ _)) ?_))
  exact endD_ret (h1 := []) rfl (.cons (.cellI rfl rfl) (.cons (.cellI rfl rfl) .nil)) (Le.refl _) ⟨d, ⟨l, gs⟩, rfl, hd, hl, drw_ok hl hw (by omega) (fun y hy => by have := hq y hy; omega), rfl⟩ (.inl rfl)
end Go.Proofs.YtbhiaccbpbnbmaaGreat

/-
  GatherColony of the program. No condition.
-/
namespace Go.Proofs.YtbhiaccbpbnbmaaGreat
open Go.AI
set_option maxRecDepth 8000
set_option maxHeartbeats 3200000

theorem mid_get {α : Type} : ∀ (a : List α) (x : α) (b : List α), (a ++ x :: b)[a.length]? = some x
  | [], _, _ => rfl
  | _ :: a, x, b => mid_get a x b
theorem mid_set {α : Type} : ∀ (a : List α) (x y : α) (b : List α), (a ++ x :: b).set a.length y = a ++ y :: b
  | [], _, _, _ => rfl
  | z :: a, x, y, b => congrArg (z :: ·) (mid_set a x y b)
/-- A colony and a code in memory of the call's own. -/
def ColR (c : Colony) (cd : Int) (v : A) (h : Heap) : Prop := ∃ a, v = .tup [a, .int cd] ∧ ROColony c a h
theorem ColR.nil {c : Int} : ColR ⟨[], []⟩ c (.tup [.agg [.sl [], .sl []], .int c]) [] := ⟨_, rfl, .sl [], [], .inr ⟨rfl, rfl, rfl⟩, .sl [], [], .inr ⟨rfl, rfl, rfl⟩, rfl, rfl⟩
open Classical in
theorem o_colonyOrLimit (d : Division) (c : Colony) (a : A) (h0 : Heap) (hd : 1 ≤ d.objects ∧ d.objects ≤ 64) (o : ROColony c a h0) :
    Does Tryz.prog 36 [.agg (encDivision d), a] h0 (ColR (if c.Ok d.objects then c else ⟨[], []⟩) (if c.Ok d.objects then 0 else 3)) := by
  refine fn_of_runD tyOk ztOk mix Tryz.func36 rfl (by decide) Tryz.ntmps36 (fun w0 F => ?_)
  change Run _ _ _ _ _ (h0 ++ F)
  have fz := o.frz
  obtain ⟨a0, a1, rfl, okc⟩ := o.cells
  repeat' (first
      | (refine j_go ?_; first
        | refine j_op0 rfl rfl rfl rfl ?_ | refine j_box rfl rfl rfl rfl rfl rfl ?_ | refine j_alloc rfl rfl rfl rfl rfl (fun _ => ?_))
      | refine j_nil ?_
      | (refine r_go ?_; first | refine run_seq ?_ | refine run_region ?_)
      | refine seqQ_normal ?_)
  refine j_kCall rfl rfl rfl rfl ?_
  refine jctq h0 (c_isColony d c hd) (Clo.raw _) (fun k hk => List.mem_cons_of_mem _ (List.mem_append_left _ hk)) (FrzL.cons (Frz.same _ _) (FrzL.cons fz (FrzL.nil _))) rfl rfl ?_
  repeat' (first
      | (refine j_go ?_; first
        | refine j_op0 rfl rfl rfl rfl ?_ | (refine j_kStore rfl ?_; first | refine j_storeN 0 rfl rfl rfl rfl rfl rfl rfl rfl rfl rfl rfl ?_) | refine j_build rfl rfl rfl rfl rfl rfl rfl ?_)
      | refine j_nil ?_
      | (refine r_go ?_; first | refine run_seq ?_ | refine run_region ?_ | (refine (run_ifn rfl (fun hb => ?_) (fun hb => ?_)) <;> first | (exfalso; omega) | skip) | refine run_ret ?_ | refine run_skip ?_)
      | refine seqQ_normal ?_ | refine seqQ_ret ?_)
  · rw [if_neg hb, if_neg hb]
    refine endD_view (view_freezeP 0 4 rfl rfl) ?_
    refine endD_view (view_sub (List.sublist_append_right h0 F)) ?_
    exact endD_ret (h1 := []) rfl (.cons (.cellI rfl rfl) (.cons (.tmp rfl) .nil)) (Le.tup2 (Le.agg (LeL.cons (Le.nil 0) (LeL.cons (Le.nil 0) LeL.nil)))) ColR.nil (.inl rfl)
  · rw [if_pos hb, if_pos hb]
    refine j_storeN 0 rfl rfl rfl rfl rfl rfl rfl rfl okc rfl rfl ?_
    repeat' (first
      | (refine j_go ?_; first
        | refine j_op0 rfl rfl rfl rfl ?_)
      | refine j_nil ?_
      | (refine r_go ?_; first | refine run_ret ?_)
      | refine seqQ_normal ?_)
    refine endD_view (view_freezeP 0 4 rfl rfl) ?_
    exact endD_ret (h1 := h0) rfl (.cons (.cellI rfl rfl) (.cons (.tmp rfl) .nil)) (Le.refl _) ⟨_, rfl, o⟩ (.inl rfl)
theorem c_gatC1 (d : Division) (x : Int) (hd : 1 ≤ d.objects ∧ d.objects ≤ 64) : Gives Tryz.prog 29 [.int x, .ip (encDivision d)] (.raw (.bool (dec (¬ (0 ≤ x ∧ x ≤ d.objects - 1))))) := by
  refine fn_of_run tyOk ztOk mix Tryz.func29 rfl (by decide) Tryz.ntmps29 (fun w0 h => ?_)
  repeat' (first
      | (refine j_go ?_; first
        | refine j_op0 rfl rfl rfl rfl ?_ | (refine j_kCall rfl rfl rfl rfl ?_; first | refine jc (c_isObject _ _ hd) (LeL.refl _) rfl rfl ?_))
      | refine j_nil ?_
      | (refine r_go ?_; first | refine run_seq ?_ | refine run_region ?_ | refine run_ret ?_)
      | refine seqQ_normal ?_)
  exact end1 rfl (List.Sublist.refl _) (rbN Iff.rfl) (.inl rfl)
theorem c_gatC2 (d : Division) (g : Group) (hd : 1 ≤ d.objects ∧ d.objects ≤ 64) : Gives Tryz.prog 33 [.agg (encGroup g), .ip [.fn 29 [.ip (encDivision d)]]] (.raw (.bool (dec (¬ GrpOk d.objects g)))) := by
  refine fn_of_run tyOk ztOk mix Tryz.func33 rfl (by decide) Tryz.ntmps33 (fun w0 h => ?_)
  repeat' (first
      | (refine j_go ?_; first
        | refine j_op0 rfl rfl rfl rfl ?_ | refine j_off rfl rfl rfl ?_ | (refine j_kCall rfl rfl rfl rfl ?_; first | refine jc (c_cfI _ _ (fun x => ¬ (0 ≤ x ∧ x ≤ d.objects - 1)) g.contents (fun x _ => c_gatC1 d x hd)) (LeL.refl _) rfl rfl ?_ | refine jc (c_isCharge _) (LeL.refl _) rfl rfl ?_ | refine jc (c_inRange _ _ _) (LeL.refl _) rfl rfl ?_) | (refine j_kGuard rfl ?_; first | (refine (j_if rfl rfl rfl (fun hb => ?_) (fun hb => ?_)) <;> first | (exfalso; omega) | skip) | (refine (j_ifn rfl rfl rfl (fun hb => ?_) (fun hb => ?_)) <;> first | (exfalso; omega) | skip)) | refine j_box rfl rfl rfl rfl rfl rfl ?_)
      | refine j_nil ?_
      | (refine r_go ?_; first | refine run_seq ?_ | refine run_region ?_ | refine run_ret ?_)
      | refine seqQ_normal ?_)
  all_goals first
    | exact end1 rfl (by first | exact List.Sublist.refl _ | exact sub1 | exact sub2 | exact sub3) (rbT (fun q => absurd hb (objs_iff.2 q.2.2))) (.inl rfl)
    | exact end1 rfl (by first | exact List.Sublist.refl _ | exact sub1 | exact sub2 | exact sub3) (rbT (fun q => hb q.1)) (.inl rfl)
    | exact end1 rfl (List.Sublist.refl _) (rbN ⟨fun q z => q z.2.1, fun q z => q ⟨by assumption, z, objs_iff.1 (by assumption)⟩⟩) (.inl rfl)
    | trace_state
open Classical in
theorem c_iGatherColony (d : Division) (skin : List Int) (gs : List Group) (hs : skin.length ≤ 1048576) (hl : gs.length ≤ 1048576) (hcl : ∀ g ∈ gs, g.contents.length ≤ 1048576) : Does Tryz.prog 12 [.agg (encDivision d), .sl (skin.map Go.AI.encI), .sl (gs.map encGroup)] [] (ColR (resGatherColony d skin gs) (codeGatherColony d skin gs)) := by
  refine fn_of_runD tyOk ztOk mix Tryz.func12 rfl (by decide) Tryz.ntmps12 (fun w0 F => ?_)
  change Run _ _ _ _ _ F
  unfold codeGatherColony
  repeat' (first
      | (refine j_go ?_; first
        | refine j_op0 rfl rfl rfl rfl ?_ | (refine j_kCall rfl rfl rfl rfl ?_; first | refine jc (c_iValidDivision _) (LeL.refl _) rfl rfl ?_) | (refine j_kLoad rfl ?_; first | refine j_mload 0 rfl rfl rfl rfl rfl rfl rfl ?_) | (refine j_kStore rfl ?_; first | refine j_store 0 rfl rfl rfl rfl rfl rfl rfl rfl rfl rfl rfl ?_ | refine j_storeN 0 rfl rfl rfl rfl rfl rfl rfl rfl rfl rfl rfl ?_) | refine j_box rfl rfl rfl rfl rfl rfl ?_ | refine j_build rfl rfl rfl rfl rfl rfl rfl ?_ | refine j_alloc rfl rfl rfl rfl rfl (fun _ => ?_))
      | refine j_nil ?_
      | (refine r_go ?_; first | refine run_seq ?_ | refine run_region ?_ | (refine (run_ifn rfl (fun hb => ?_) (fun hb => ?_)) <;> first | (exfalso; omega) | skip) | refine run_ret ?_ | refine run_skip ?_)
      | refine seqQ_normal ?_ | refine seqQ_ret ?_)
  · rw [rg_f (fun q => hb q.1), cdG_f hb]
    refine endD_view (view_freezeP 0 6 rfl rfl) ?_
    exact endD_ret (h1 := []) rfl (.cons (.cellI rfl rfl) (.cons (.tmp rfl) .nil)) (Le.tup2 (Le.agg (LeL.cons (Le.nil 0) (LeL.cons (Le.nil 0) LeL.nil)))) ColR.nil (.inl rfl)
  have hv := hb
  have hd := hv.1
  skip
  refine j_view (view_freezeP 0 8 rfl rfl) ?_
  repeat' (first
      | (refine j_go ?_; first
        | refine j_op0 rfl rfl rfl rfl ?_ | refine j_off rfl rfl rfl ?_ | (refine j_kCall rfl rfl rfl rfl ?_; first | refine jc (c_cfI _ _ (fun x => ¬ (0 ≤ x ∧ x ≤ d.objects - 1)) skin (fun x _ => c_gatC1 d x hd)) (LeL.refl _) rfl rfl ?_ | refine jc (c_cfG _ _ (fun g => ¬ GrpOk d.objects g) gs (fun g _ => c_gatC2 d g hd)) (LeL.refl _) rfl rfl ?_) | (refine j_kStore rfl ?_; first | refine j_storeN 0 rfl rfl rfl rfl rfl rfl rfl rfl rfl rfl rfl ?_) | (refine j_kGuard rfl ?_; first | (refine (j_if rfl rfl rfl (fun hb => ?_) (fun hb => ?_)) <;> first | (exfalso; omega) | skip)) | refine j_build rfl rfl rfl rfl rfl rfl rfl ?_)
      | refine j_nil ?_
      | (refine j_goO ?_; first
        | refine j_op0O rfl rfl rfl rfl ?_)
      | (refine r_go ?_; first | refine run_seq ?_ | refine run_region ?_ | refine run_cond_t rfl ?_ | (refine (run_if rfl (fun hb => ?_) (fun hb => ?_)) <;> first | (exfalso; omega) | skip) | refine run_ret ?_ | refine run_skip ?_ | refine run_opn 6 [⟨0, false, false, 0⟩, ⟨1, true, false, 0⟩, ⟨2, true, false, 0⟩, ⟨3, false, true, 0⟩, ⟨4, false, true, 0⟩, ⟨5, true, false, 0⟩, ⟨6, true, false, 0⟩, ⟨7, false, true, 0⟩, ⟨8, true, false, 0⟩] rfl rfl (by kernel_rfl) ?_)
      | refine seqQ_normal ?_ | refine seqQ_ret ?_)
  · have hg : ¬ GoodC d skin gs := fun q => objs_iff.2 q.1 hb
    rw [rg_f (fun q => hg q.2.1), cdG_r hv hg]
    refine endD_view (view_freezeP 0 6 rfl rfl) ?_
    exact endD_ret (h1 := []) rfl (.cons (.cellI rfl rfl) (.cons (.tmp rfl) .nil)) (Le.tup2 (Le.agg (LeL.cons (Le.nil 0) (LeL.cons (Le.nil 0) LeL.nil)))) ColR.nil (.inl rfl)
  · have hg : ¬ GoodC d skin gs := fun q => by
      obtain ⟨g, h1, h2⟩ := hb
      exact h2 (q.2 g h1)
    rw [rg_f (fun q => hg q.2.1), cdG_r hv hg]
    refine endD_view (view_freezeP 0 6 rfl rfl) ?_
    exact endD_ret (h1 := []) rfl (.cons (.cellI rfl rfl) (.cons (.tmp rfl) .nil)) (Le.tup2 (Le.agg (LeL.cons (Le.nil 0) (LeL.cons (Le.nil 0) LeL.nil)))) ColR.nil (.inl rfl)
  have hG : ∀ g ∈ gs, GrpOk d.objects g := fun g hg => Classical.byContradiction fun q => hb ⟨g, hg, q⟩
  have hg : GoodC d skin gs := ⟨objs_iff.1 (by assumption), hG⟩
  refine j_kCallO rfl rfl rfl rfl ?_
  refine jcpO (_ :: F) (o_gather skin gs hs hl (fun g hg => ⟨hcl g hg, (hG g hg).2.1⟩)) rfl (List.Perm.refl _) (LeL.refl _) rfl rfl (fun v h1 hR => ?_)
  obtain ⟨ks, ag, oC⟩ := hR
  obtain rfl := ag.uniq (ksG_agg hG)
  skip
  refine j_kCallO rfl rfl rfl rfl ?_
  refine jcpO (_ :: F) (o_colonyOrLimit d (colG skin gs) v h1 hd oC) rfl (List.Perm.refl _) (LeL.refl _) rfl rfl (fun v2 h2 hR => ?_)
  obtain ⟨a2, rfl, o2⟩ := hR
  obtain ⟨c0, c1, rfl, okc⟩ := o2.cells
  repeat' (first
      | (refine j_goO ?_; first
        | refine j_op0O rfl rfl rfl rfl ?_))
  refine j_storeNO h2.length rfl rfl rfl rfl rfl rfl (mid_get _ _ _) rfl rfl okc rfl rfl (fun _ hk => nomatch hk) ?_
  rw [mid_set]
  repeat' (first
      | (refine j_goO ?_; first
        | refine j_op0O rfl rfl rfl rfl ?_)
      | refine j_nilO ?_
      | (refine r_go ?_; first | refine run_ret ?_)
      | refine seqQ_normal ?_)
  refine endD_view (view_perm List.perm_middle) ?_
  refine endD_view (view_freezeP 0 6 rfl rfl) ?_
  have er : (if (colG skin gs).Ok d.objects then colG skin gs else ⟨[], []⟩) = resGatherColony d skin gs := by
    by_cases q : (colG skin gs).Ok d.objects
    · rw [if_pos q, rg_t ⟨hv, hg, q⟩]
    · rw [if_neg q, rg_f (fun z => q z.2.2)]
  have ec : (if (colG skin gs).Ok d.objects then (0 : Int) else 3) = cdG d.Valid (GoodC d skin gs) ((colG skin gs).Ok d.objects) := by
    by_cases q : (colG skin gs).Ok d.objects
    · rw [if_pos q, cdG_o hv hg q]
    · rw [if_neg q, cdG_l hv hg q]
  rw [er] at o2
  rw [ec]
  exact endD_ret (h1 := h2) rfl (.cons (.cellI rfl rfl) (.cons (.tmp rfl) .nil)) (Le.refl _) ⟨_, rfl, o2⟩ (.inl rfl)
end Go.Proofs.YtbhiaccbpbnbmaaGreat
