/-
  What A2System and A2Counts draw. No condition.
-/
import Derived.Test.YtkfmjjoalkoncaaGreatZDH
import Derived.Test.YtkfmjjoalkoncaaGreatZS2d
namespace Go.Proofs.YtkfmjjoalkoncaaGreat
open Go.AI
set_option maxRecDepth 8000
set_option maxHeartbeats 1600000

theorem pm6 {a b c d e f : Blk} {l : Heap} : (a :: b :: c :: d :: e :: f :: l).Perm (d :: a :: f :: e :: b :: c :: l) := by classical exact List.perm_iff_count.2 fun _ => by simp only [List.count_cons]; omega
theorem pm7 {a b c d e f g : Blk} {l : Heap} : (a :: b :: c :: d :: e :: f :: g :: l).Perm (f :: d :: e :: ([a, b, c, g] ++ l)) := by classical exact List.perm_iff_count.2 fun _ => by simp only [List.count_cons, List.cons_append, List.nil_append]; omega
/-- Counts that are drawn, in memory of the call's own. -/
def CtsR (n : Nat) : A → Heap → Prop := fun v h' => ∃ (cs : List Int) (b : Option Nat) (cap : Nat) (k : Blk), v = .os b cs.length cap ∧ cs.length = n ∧ (∀ x ∈ cs, 0 ≤ x ∧ x ≤ 2) ∧ h' = [lsI 2 b cap cs, k]
theorem o_l01Draw (s : Nat) (code : List UInt8) (n : Nat) (hn : n ≤ 100) : Does Tryz.prog 18 [.op (some s) 0, .int (n : Int), .int 2] [srcB s code 0 0] (CtsR n) := by
  refine fn_of_runD tyOk ztOk mix Tryz.func18 rfl (by decide) Tryz.ntmps18 (fun w0 F => ?_)
  change Run _ _ _ _ _ (_ :: F)
  repeat' (first
      | (refine j_go ?_; first
        | refine j_op0 rfl rfl rfl rfl ?_ | (refine j_kBsl rfl ?_; first | refine j_bs0 rfl rfl rfl rfl rfl rfl ?_))
      | refine j_nil ?_
      | (refine r_go ?_; first | refine run_seq ?_ | refine run_region ?_ | refine run_block ?_)
      | refine seqQ_normal ?_)
  refine run_view (view_none 2 (0 * 1) rfl) ?_
  refine run_view (view_perm (List.Perm.swap _ _ _)) ?_
  refine run_loop (fun x : Nat × List Int × Option Nat × Nat × Nat × Int => [(0, .op (some s) 0), (1, .int (n : Int)), (2, .int 2), (7, .os x.2.2.1 x.2.1.length x.2.2.2.1), (8, .int (x.1 : Int))])
    (fun x => srcB s code x.2.2.2.2.1 x.2.2.2.2.2 :: lsI 2 x.2.2.1 x.2.2.2.1 x.2.1 :: F)
    (fun x => x.1 ≤ n ∧ x.2.1.length = x.1 ∧ (∀ y ∈ x.2.1, 0 ≤ y ∧ y ≤ 2) ∧ x.2.2.2.2.1 ≤ 4 * x.1) (fun x => n - x.1) (0, [], none, 0, 0, 0) ⟨rfl, rfl, rfl, rfl, rfl, trivial⟩ rfl ⟨Nat.zero_le _, rfl, by simp, by dsimp only; omega⟩ (fun ⟨k, l, b, cap, a, sd⟩ ⟨kl, hl, hy, hA⟩ => ?_)
  dsimp only at kl hl hy hA ⊢
  by_cases hk : k < n
  case pos =>
    repeat' (first
      | (refine j_go ?_; first
        | refine j_op0 rfl rfl rfl rfl ?_ | (refine j_kBin rfl ?_; first | refine j_in rfl rfl ⟨by omega, by omega⟩ rfl rfl ?_))
      | refine j_nil ?_
      | (refine r_go ?_; first | refine run_seq ?_ | refine run_region ?_ | (refine (run_if rfl (fun hb => ?_) (fun hb => ?_)) <;> first | (exfalso; omega) | skip) | refine run_block ?_ | refine run_skip ?_)
      | refine seqQ_normal ?_)
    refine j_kCall rfl rfl rfl rfl ?_
    refine jcp (_ :: F) (o_pick s code a sd (2 + 1) (by omega) (by omega)) (List.Perm.refl _) (LeL.refl _) rfl rfl (fun v h1 hR => ?_)
    obtain ⟨r, a2, sd2, rfl, hr, ha2, rfl⟩ := hR
    repeat' (first
      | (refine j_go ?_; first
        | refine j_op0 rfl rfl rfl rfl ?_)
      | refine j_nil ?_
      | (refine r_go ?_; first | refine run_seq ?_ | refine run_region ?_)
      | refine seqQ_normal ?_)
    refine j_kCall rfl rfl rfl rfl ?_
    refine jcp (_ :: F) (o_one s code a2 sd2 3 (by omega) (by omega)) (List.Perm.refl _) (LeL.refl _) rfl rfl (fun v h1 hR => ?_)
    obtain ⟨bo, a3, sd3, rfl, ha3, rfl⟩ := hR
    repeat' (first
      | (refine j_go ?_; first
        | refine j_op0 rfl rfl rfl rfl ?_ | (refine j_kBsl rfl ?_; first | refine j_bsl rfl rfl rfl rfl rfl rfl rfl rfl rfl rfl rfl ?_))
      | refine j_nil ?_
      | (refine r_go ?_; first | refine run_region ?_ | refine run_skip ?_ | refine run_cond rfl (fun hb => ?_) (fun hb => ?_))
      | refine seqQ_normal ?_)
    · refine j_append 1 (g := Go.AI.encI) (ys := l) [0] rfl rfl rfl rfl rfl rfl rfl rfl rfl rfl rfl rfl (fun _ => rfl) (fun _ _ => rfl) ⟨by simp only [List.length_cons, List.length_nil]; omega, by simp only [List.length_cons, List.length_nil]; omega⟩ rfl rfl (fun b' cap' => ?_)
      repeat' (first
      | (refine j_go ?_; first
        | refine j_op0 rfl rfl rfl rfl ?_ | (refine j_kBin rfl ?_; first | refine j_in rfl rfl ⟨by omega, by omega⟩ rfl rfl ?_))
      | refine j_nil ?_
      | (refine r_go ?_; first | refine run_region ?_)
      | refine seqQ_normal ?_ | refine blockQ_normal ?_)
      exact loopQ_next (k + 1, l ++ [0], b', cap', a3, sd3) ⟨by dsimp only; omega, by dsimp only; rw [List.length_append, hl]; rfl, fun y h => by
        rcases List.mem_append.1 h with h | h
        · exact hy y h
        · rw [List.mem_singleton] at h; omega, by dsimp only; omega⟩ (by dsimp only; omega) rfl ⟨rfl, rfl, rfl, rfl, nx _, trivial⟩
    · refine j_append 1 (g := Go.AI.encI) (ys := l) [r] rfl rfl rfl rfl rfl rfl rfl rfl rfl rfl rfl rfl (fun _ => rfl) (fun _ _ => rfl) ⟨by simp only [List.length_cons, List.length_nil]; omega, by simp only [List.length_cons, List.length_nil]; omega⟩ rfl rfl (fun b' cap' => ?_)
      repeat' (first
      | (refine j_go ?_; first
        | refine j_op0 rfl rfl rfl rfl ?_ | (refine j_kBin rfl ?_; first | refine j_in rfl rfl ⟨by omega, by omega⟩ rfl rfl ?_))
      | refine j_nil ?_
      | (refine r_go ?_; first | refine run_region ?_)
      | refine seqQ_normal ?_ | refine blockQ_normal ?_)
      exact loopQ_next (k + 1, l ++ [r], b', cap', a3, sd3) ⟨by dsimp only; omega, by dsimp only; rw [List.length_append, hl]; rfl, fun y h => by
        rcases List.mem_append.1 h with h | h
        · exact hy y h
        · rw [List.mem_singleton] at h; omega, by dsimp only; omega⟩ (by dsimp only; omega) rfl ⟨rfl, rfl, rfl, rfl, nx _, trivial⟩
  obtain rfl : k = n := by omega
  repeat' (first
      | (refine j_go ?_; first
        | refine j_op0 rfl rfl rfl rfl ?_)
      | refine j_nil ?_
      | (refine r_go ?_; first | refine run_seq ?_ | refine run_region ?_ | (refine (run_if rfl (fun hb => ?_) (fun hb => ?_)) <;> first | (exfalso; omega) | skip) | refine run_ret ?_ | refine run_exit ?_)
      | refine seqQ_normal ?_ | refine seqQ_exit ?_ | refine blockQ_eq ?_ | refine loopQ_exit ?_)
  refine endD_view (view_perm (List.Perm.swap _ _ _)) ?_
  exact endD_ret (h1 := [_, _]) rfl (.cons (.tmp rfl) .nil) (Le.refl _) ⟨l, b, cap, _, rfl, hl, hy, rfl⟩ (.inl rfl)
theorem o_A2Counts (code : List UInt8) (n : Nat) (hn : n ≤ 100) : Does Tryz.prog 6 [.sl (code.map encY), .int (n : Int)] [] (CtsR n) := by
  refine fn_of_runD tyOk ztOk mix Tryz.func6 rfl (by decide) Tryz.ntmps6 (fun w0 F => ?_)
  change Run _ _ _ _ _ F
  repeat' (first
      | (refine j_go ?_; first
        | refine j_op0 rfl rfl rfl rfl ?_)
      | refine j_nil ?_
      | (refine r_go ?_; first | refine run_seq ?_ | refine run_region ?_)
      | refine seqQ_normal ?_)
  refine j_kCall rfl rfl rfl rfl ?_
  refine jcp F (o_from code) (List.Perm.refl _) (LeL.refl _) rfl rfl (fun v h1 hR => ?_)
  obtain ⟨s, rfl, rfl⟩ := hR
  repeat' (first
      | (refine j_go ?_; first
        | refine j_op0 rfl rfl rfl rfl ?_))
  refine j_kCall rfl rfl rfl rfl ?_
  refine jcp F (o_l01Draw s code n hn) (List.Perm.refl _) (LeL.refl _) rfl rfl (fun v h1 hR => ?_)
  obtain ⟨cs, b, cap, k, rfl, q1, q2, rfl⟩ := hR
  repeat' (first
      | (refine j_go ?_; first
        | refine j_op0 rfl rfl rfl rfl ?_)
      | refine j_nil ?_
      | (refine r_go ?_; first | refine run_ret ?_)
      | refine seqQ_normal ?_)
  exact endD_ret (h1 := [_, _]) rfl (.cons (.tmp rfl) .nil) (Le.refl _) ⟨cs, b, cap, k, rfl, q1, q2, rfl⟩ (.inl rfl)
/-- A system and a state that are drawn; the system's rules lie in memory of the call's own. -/
def A2R : A → Heap → Prop := fun v h' => ∃ (y : System) (t : State) (b : Option Nat) (cap : Nat) (k1 k2 : Blk), y.Ok ∧ y.kinds ≤ 3 ∧ y.parents.length ≤ 3 ∧ y.rules.length ≤ 5 ∧ y.StateOk t ∧ (∀ r ∈ t.bags, ∀ z ∈ r, z ≤ 5) ∧
  v = .tup [.agg [.int y.kinds, .sl (y.parents.map Go.AI.encI), .os b y.rules.length cap], .agg (encState t)] ∧ h' = [rlB b cap y.rules, k1, k2]
theorem o_A2System (code : List UInt8) : Does Tryz.prog 5 [.sl (code.map encY)] [] A2R := by
  refine fn_of_runD tyOk ztOk mix Tryz.func5 rfl (by decide) Tryz.ntmps5 (fun w0 F => ?_)
  change Run _ _ _ _ _ F
  repeat' (first
      | (refine j_go ?_; first
        | refine j_op0 rfl rfl rfl rfl ?_ | refine j_alloc rfl rfl rfl rfl rfl (fun _ => ?_))
      | refine j_nil ?_
      | (refine r_go ?_; first | refine run_seq ?_ | refine run_region ?_)
      | refine seqQ_normal ?_)
  rename_i b2 b3
  refine j_kCall rfl rfl rfl rfl ?_
  refine jcp (_ :: _ :: F) (o_from code) (List.Perm.refl _) (LeL.refl _) rfl rfl (fun v h1 hR => ?_)
  obtain ⟨s, rfl, rfl⟩ := hR
  repeat' (first
      | (refine j_go ?_; first
        | refine j_op0 rfl rfl rfl rfl ?_)
      | refine j_nil ?_
      | (refine r_go ?_; first | refine run_seq ?_ | refine run_region ?_)
      | refine seqQ_normal ?_)
  refine j_kCall rfl rfl rfl rfl ?_
  refine jcp (_ :: _ :: F) (o_l02Drawn s code 0 0 (by omega)) (List.Perm.refl _) (LeL.refl _) rfl rfl (fun v h1 hR => ?_)
  obtain ⟨y, b, cap, k0, a1, sd1, hy, y1, y2, y3, rfl, ha1, rfl⟩ := hR
  repeat' (first
      | (refine j_go ?_; first
        | (refine j_kStore rfl ?_; first | refine j_storeN 0 rfl rfl rfl rfl rfl rfl rfl rfl rfl rfl rfl ?_) | refine j_alloc rfl rfl rfl rfl rfl (fun _ => ?_))
      | refine j_nil ?_
      | (refine r_go ?_; first | refine run_seq ?_)
      | refine seqQ_normal ?_)
  rename_i b5
  refine run_view (view_perm pm6) ?_
  repeat' (first
      | (refine j_goO ?_; first
        | refine j_op0O rfl rfl rfl rfl ?_ | (refine j_kLoadO rfl ?_; first | refine j_mloadS 1 rfl rfl rfl rfl rfl rfl rfl ?_))
      | (refine r_go ?_; first | refine run_opn 3 [⟨0, false, false, 0⟩, ⟨1, true, false, 0⟩, ⟨2, false, true, 0⟩, ⟨3, false, true, 0⟩, ⟨4, false, true, 0⟩] rfl rfl (by kernel_rfl) ?_))
  refine j_mutO rfl rfl (call_part 0 2 rfl rfl rfl (o_l02Fresh s code a1 sd1 y b5 (.os b y.rules.length cap) 5 hy.1 (by omega) (by omega)) rfl (LeL.refl _)) (fun v h' ⟨h1, ⟨t5, k5, a5, sd5, _, _, _, _, q5⟩, q2⟩ k hk => by rw [memB1 hk, q2, q5]; exact List.mem_cons_of_mem _ (List.mem_cons_of_mem _ List.mem_cons_self)) rfl (fun v h' hR => ?_)
  obtain ⟨h1, ⟨t5, k5, a5, sd5, ht, ht5, rfl, ha5, rfl⟩, rfl⟩ := hR
  refine j_dropO [0] rfl (by kernel_rfl) ?_
  repeat' (first
      | (refine j_goO ?_; first
        | (refine j_kStoreO rfl ?_; first | refine j_storeNO 3 rfl rfl rfl rfl rfl rfl rfl rfl rfl rfl rfl rfl (by first | (intro _ hk; exact absurd hk List.not_mem_nil) | (intro k hk; simp at hk ⊢; try simp [hk])) ?_ | refine j_storeNO 4 rfl rfl rfl rfl rfl rfl rfl rfl rfl rfl rfl rfl (by first | (intro _ hk; exact absurd hk List.not_mem_nil) | (intro k hk; simp at hk ⊢; try simp [hk])) ?_))
      | refine j_nilO ?_
      | (refine r_go ?_; first | refine run_ret ?_)
      | refine seqQ_normal ?_)
  refine endD_view (view_perm pm7) ?_
  refine endD_view (view_sub ((((List.sublist_append_right [_, _, _, _] F).cons_cons _).cons_cons _).cons_cons _)) ?_
  exact endD_ret (h1 := [_, _, _]) rfl (vs := [_, _]) (.cons (.cellM (b := b2) rfl (List.mem_cons_of_mem _ List.mem_cons_self) rfl) (.cons (.cellM (b := b3) rfl (List.mem_cons_of_mem _ (List.mem_cons_of_mem _ List.mem_cons_self)) rfl) .nil)) (Le.refl _) ⟨y, t5, b, cap, _, _, hy, y1, y2, y3, ht, ht5, rfl, rfl⟩ (.inl rfl)
end Go.Proofs.YtkfmjjoalkoncaaGreat

/-
  Steps: which rules are enabled, what the reference and the program compute. No condition.
-/
namespace Go.Proofs.YtkfmjjoalkoncaaGreat
open Go.AI
set_option maxRecDepth 8000
set_option maxHeartbeats 1600000

def Within (a b : List Int) : Prop := ∀ i (ha : i < a.length) (hb : i < b.length), a[i] ≤ b[i]

theorem c_l01Within (a b : List Int) (hl : a.length ≤ b.length) (hn : a.length ≤ 1000000) : Gives Tryz.prog 109 [.sl (a.map Go.AI.encI), .sl (b.map Go.AI.encI)] (.raw (.bool (dec (Within a b)))) := by
  refine fn_of_run tyOk ztOk mix Tryz.func109 rfl (by decide) Tryz.ntmps109 (fun w0 h => ?_)
  repeat' (first
      | (refine j_go ?_; first
        | refine j_op0 rfl rfl rfl rfl ?_)
      | refine j_nil ?_
      | (refine r_go ?_; first | refine run_seq ?_ | refine run_region ?_ | refine run_block ?_)
      | refine seqQ_normal ?_)
  refine run_loop (fun k : Nat => [(0, .sl (a.map Go.AI.encI)), (1, .sl (b.map Go.AI.encI)), (5, .int (k : Int))]) (fun _ => _) (fun k => k ≤ a.length ∧ (∀ i (h : i < a.length), i < k → a[i] ≤ b[i]'(by omega))) (fun k => a.length - k) 0 ⟨rfl, rfl, rfl, trivial⟩ rfl ⟨Nat.zero_le _, by first | (intros; omega) | (simp; done) | rfl | trivial | exact ⟨by simp [sumF], by intros; omega⟩ | exact ⟨by omega, by simp⟩⟩ (fun k ⟨kl, kp⟩ => ?_)
  repeat' (first
      | (refine j_go ?_; first
        | refine j_op0 rfl rfl rfl rfl ?_ | (refine j_kIdx rfl ?_; first | refine j_idx rfl rfl rfl rfl rfl (by omega) rfl rfl rfl ?_) | (refine j_kBin rfl ?_; first | refine j_in rfl rfl ⟨by omega, by omega⟩ rfl rfl ?_) | (refine j_kLen rfl ?_; first | refine j_len rfl rfl rfl rfl rfl rfl ?_))
      | refine j_nil ?_
      | (refine r_go ?_; first | refine run_seq ?_ | refine run_region ?_ | (refine (run_if rfl (fun hb => ?_) (fun hb => ?_)) <;> first | (exfalso; omega) | skip) | refine run_block ?_ | refine run_ret ?_ | refine run_exit ?_ | refine run_skip ?_ | refine run_regionD (by kernel_rfl) ?_)
      | refine seqQ_normal ?_ | refine seqQ_ret ?_ | refine seqQ_exit ?_ | refine blockQ_normal ?_ | refine blockQ_ret ?_ | refine blockQ_eq ?_ | refine loopQ_ret ?_ | refine loopQ_exit ?_)
  · exact end1 rfl (by first | exact List.Sublist.refl _ | exact sub1 | exact sub2 | exact sub3) (rbF (fun q => by have := q k (by omega) (by omega); omega)) (.inl rfl)
  · exact loopQ_nextD (k + 1) ⟨by omega, all_step kp (fun _ => by omega)⟩ (by omega) (by first | exact List.Sublist.refl _ | exact sub1 | exact sub2 | exact sub3) ⟨rfl, rfl, nx _, trivial⟩
  · exact end1 rfl (by first | exact List.Sublist.refl _ | exact sub1 | exact sub2 | exact sub3) (rbT (fun i h1 _ => kp i h1 (by omega))) (.inl rfl)
theorem c_isWithin (a b : List Int) (hl : a.length ≤ b.length) (hn : a.length ≤ 1000000) : Gives Tryz.prog 29 [.sl (a.map Go.AI.encI), .sl (b.map Go.AI.encI)] (.raw (.bool (dec (Within a b)))) := by
  refine fn_of_run tyOk ztOk mix Tryz.func29 rfl (by decide) Tryz.ntmps29 (fun w0 h => ?_)
  repeat' (first
      | (refine j_go ?_; first
        | refine j_op0 rfl rfl rfl rfl ?_ | (refine j_kLen rfl ?_; first | refine j_len rfl rfl rfl rfl rfl rfl ?_))
      | refine j_nil ?_
      | (refine r_go ?_; first | refine run_seq ?_ | refine run_region ?_ | refine run_block ?_)
      | refine seqQ_normal ?_)
  refine run_loop (fun k : Nat => [(1, .sl (b.map Go.AI.encI)), (7, .sl (a.map Go.AI.encI)), (8, .int a.length), (9, .int (k : Int))]) (fun _ => _) (fun k => k ≤ a.length ∧ (∀ i (h : i < a.length), i < k → a[i] ≤ b[i]'(by omega))) (fun k => a.length - k) 0 ⟨rfl, rfl, rfl, rfl, trivial⟩ rfl ⟨Nat.zero_le _, by first | (intros; omega) | (simp; done) | rfl | trivial | exact ⟨by simp [sumF], by intros; omega⟩ | exact ⟨by omega, by simp⟩⟩ (fun k ⟨kl, kp⟩ => ?_)
  repeat' (first
      | (refine j_go ?_; first
        | refine j_op0 rfl rfl rfl rfl ?_ | (refine j_kIdx rfl ?_; first | refine j_idx rfl rfl rfl rfl rfl (by omega) rfl rfl rfl ?_) | (refine j_kBin rfl ?_; first | refine j_in rfl rfl ⟨by omega, by omega⟩ rfl rfl ?_))
      | refine j_nil ?_
      | (refine r_go ?_; first | refine run_seq ?_ | refine run_region ?_ | (refine (run_if rfl (fun hb => ?_) (fun hb => ?_)) <;> first | (exfalso; omega) | skip) | refine run_block ?_ | refine run_ret ?_ | refine run_exit ?_ | refine run_skip ?_)
      | refine seqQ_normal ?_ | refine seqQ_ret ?_ | refine seqQ_exit ?_ | refine blockQ_normal ?_ | refine blockQ_ret ?_ | refine blockQ_eq ?_ | refine loopQ_ret ?_ | refine loopQ_exit ?_)
  · exact end1 rfl (by first | exact List.Sublist.refl _ | exact sub1 | exact sub2 | exact sub3) (rbF (fun q => by have := q k (by omega) (by omega); omega)) (.inl rfl)
  · exact loopQ_nextD (k + 1) ⟨by omega, all_step kp (fun _ => by omega)⟩ (by omega) (by first | exact List.Sublist.refl _ | exact sub1 | exact sub2 | exact sub3) ⟨rfl, rfl, rfl, nx _, trivial⟩
  · exact end1 rfl (by first | exact List.Sublist.refl _ | exact sub1 | exact sub2 | exact sub3) (rbT (fun i h1 _ => kp i h1 (by omega))) (.inl rfl)

def bagOf (t : State) (c : Int) : List Int := t.bags.getD c.toNat []
def IntoNow (s : System) (t : State) (r : Rule) (x : Into) : Prop := t.Lives x.cell ∧ pnow s t x.cell = r.cell
/-- A rule is enabled. -/
def EnP (s : System) (t : State) (r : Rule) : Prop := t.Lives r.cell ∧ Within r.need (bagOf t r.cell) ∧ Within r.have_ (bagOf t r.cell) ∧ ¬ (0 < tot r.lack ∧ Within r.lack (bagOf t r.cell)) ∧ ∀ i (h : i < r.into.length), IntoNow s t r r.into[i]
theorem bagOf_eq {t : State} {c : Int} (h : c.toNat < t.bags.length) : bagOf t c = t.bags[c.toNat] := getD_get h
theorem enP_iff {s : System} {t : State} {r : Rule} {B : List Int} (e : bagOf t r.cell = B) : EnP s t r ↔ t.Lives r.cell ∧ Within r.need B ∧ Within r.have_ B ∧ ¬ (0 < tot r.lack ∧ Within r.lack B) ∧ ∀ i (h : i < r.into.length), IntoNow s t r r.into[i] := by unfold EnP; rw [e]

theorem c_l03Enabled (s : System) (t : State) (r : Rule) (hv : s.Ok) (ht : s.StateOk t) (hr : s.RuleOk r) : Gives Tryz.prog 89 [.ip (encSystem s), .ip (encState t), .ip (encRule r)] (.raw (.bool (dec (EnP s t r)))) := by
  refine fn_of_run tyOk ztOk mix Tryz.func89 rfl (by decide) Tryz.ntmps89 (fun w0 h => ?_)
  have hl := hv.1.2.1
  have k8 := hv.1.1
  have h1 := ht.1
  have h2 := ht.2.1
  obtain ⟨c1, c2, c3, c4, c5, c6, c7, c8, c9, c10, c11⟩ := hr
  have hcl : r.cell.toNat < t.bags.length := by omega
  have hB := (ht.2.2.2.2 _ hcl).1
  have l0 := hB.2
  have l1 := c5.2
  have l2 := c6.2
  have l3 := c7.2
  have en := enP_iff (s := s) (bagOf_eq hcl)
  repeat' (first
      | (refine j_go ?_; first
        | refine j_op0 rfl rfl rfl rfl ?_ | refine j_off rfl rfl rfl ?_ | (refine j_kIdx rfl ?_; first | refine j_idxz rfl rfl rfl rfl rfl ⟨by omega, by omega⟩ rfl rfl rfl ?_) | (refine j_kCall rfl rfl rfl rfl ?_; first | refine jc (c_l01Within _ _ (by omega) (by omega)) (LeL.refl _) rfl rfl ?_ | refine jc (c_l01Size _ (BagK.bag (k := s.kinds) (by assumption))) (LeL.refl _) rfl rfl ?_) | (refine j_kGuard rfl ?_; first | (refine (j_if rfl rfl rfl (fun hb => ?_) (fun hb => ?_)) <;> first | (exfalso; omega) | skip) | (refine (j_ifn rfl rfl rfl (fun hb => ?_) (fun hb => ?_)) <;> first | (exfalso; omega) | skip)))
      | refine j_nil ?_
      | (refine r_go ?_; first | refine run_seq ?_ | refine run_region ?_ | refine run_cond_t rfl ?_ | refine run_cond_f rfl ?_ | (refine (run_if rfl (fun hb => ?_) (fun hb => ?_)) <;> first | (exfalso; omega) | skip) | refine run_block ?_ | refine run_ret ?_ | refine run_skip ?_ | refine run_regionD (by kernel_rfl) ?_ | refine run_condn rfl (fun hb => ?_) (fun hb => ?_))
      | refine seqQ_normal ?_ | refine seqQ_ret ?_)
  all_goals first
    | (refine end1 rfl (by first | exact List.Sublist.refl _ | exact sub1 | exact sub2 | exact sub3) ?_ (.inl rfl); first | exact rbF (fun q => by
        obtain ⟨q1, q2, q3, q4, q5⟩ := en.1 q
        exact (by first | exact absurd q1 (al_f (by assumption)) | exact absurd q1 (al_f' (by assumption)) | exact absurd q2 (by assumption) | exact absurd q3 (by assumption) | exact q4 ⟨by assumption, by assumption⟩)))
    | skip
  all_goals
    have hlk : ¬ (0 < tot r.lack ∧ Within r.lack t.bags[r.cell.toNat]) := by first | (intro q; exact absurd q.1 (by assumption)) | (intro q; exact absurd q.2 (by assumption))
    refine run_loop (fun k : Nat => [(0, .ip (encSystem s)), (1, .ip (encState t)), (2, .ip (encRule r)), (8, .int (k : Int))]) (fun _ => _) (fun k => k ≤ r.into.length ∧ (∀ i (h : i < r.into.length), i < k → IntoNow s t r r.into[i])) (fun k => r.into.length - k) 0 ⟨rfl, rfl, rfl, rfl, trivial⟩ rfl ⟨Nat.zero_le _, by first | (intros; omega) | (simp; done) | rfl | trivial | exact ⟨by simp [sumF], by intros; omega⟩ | exact ⟨by omega, by simp⟩⟩ (fun k ⟨kl, kp⟩ => ?_)
    by_cases hk : k < r.into.length
    · have xc := (c11 k hk).1.1
      repeat' (first
      | (refine j_go ?_; first
        | refine j_op0 rfl rfl rfl rfl ?_ | refine j_off rfl rfl rfl ?_ | (refine j_kIdx rfl ?_; first | refine j_idx rfl rfl rfl rfl rfl (by omega) rfl rfl rfl ?_ | refine j_idxz rfl rfl rfl rfl rfl ⟨by omega, by omega⟩ rfl rfl rfl ?_) | (refine j_kBin rfl ?_; first | refine j_in rfl rfl ⟨by omega, by omega⟩ rfl rfl ?_) | (refine j_kLen rfl ?_; first | refine j_len rfl rfl rfl rfl rfl rfl ?_) | (refine j_kCall rfl rfl rfl rfl ?_; first | refine jc (c_l02Parent _ _ _ hv h1 (by omega)) (LeL.refl _) rfl rfl ?_) | (refine j_kGuard rfl ?_; first | (refine (j_branch rfl rfl rfl (fun hb => ?_) (fun hb => ?_)) <;> skip; (fail_if_success guard_hyp hb : true = true); (fail_if_success guard_hyp hb : true = false); (fail_if_success guard_hyp hb : false = true); (fail_if_success guard_hyp hb : false = false))))
      | refine j_nil ?_
      | (refine r_go ?_; first | refine run_seq ?_ | refine run_region ?_ | refine run_cond_t rfl ?_ | (refine (run_if rfl (fun hb => ?_) (fun hb => ?_)) <;> first | (exfalso; omega) | skip) | (refine (run_ifn rfl (fun hb => ?_) (fun hb => ?_)) <;> first | (exfalso; omega) | skip) | refine run_block ?_ | refine run_ret ?_ | refine run_skip ?_ | refine run_regionD (by kernel_rfl) ?_)
      | refine seqQ_normal ?_ | refine seqQ_ret ?_ | refine blockQ_normal ?_ | refine blockQ_ret ?_ | refine loopQ_ret ?_)
      all_goals first
        | exact loopQ_nextD (k + 1) ⟨by omega, all_step kp (fun _ => ⟨by first | exact al_t (by assumption) | exact al_t' (by assumption), by assumption⟩)⟩ (by omega) (by first | exact List.Sublist.refl _ | exact sub1 | exact sub2 | exact sub3) ⟨rfl, rfl, rfl, nx _, trivial⟩
        | (refine end1 rfl (by first | exact List.Sublist.refl _ | exact sub1 | exact sub2 | exact sub3) ?_ (.inl rfl); first | exact rbF (fun q => by
            obtain ⟨q1, q2⟩ := (en.1 q).2.2.2.2 k hk
            exact (by first | exact absurd q1 (al_f (by assumption)) | exact absurd q1 (al_f' (by assumption)) | exact absurd q2 (by assumption))))
        | trace_state
    · repeat' (first
      | (refine j_go ?_; first
        | refine j_op0 rfl rfl rfl rfl ?_ | (refine j_kLen rfl ?_; first | refine j_len rfl rfl rfl rfl rfl rfl ?_))
      | refine j_nil ?_
      | (refine r_go ?_; first | refine run_seq ?_ | refine run_region ?_ | (refine (run_if rfl (fun hb => ?_) (fun hb => ?_)) <;> first | (exfalso; omega) | skip) | refine run_ret ?_ | refine run_exit ?_)
      | refine seqQ_normal ?_ | refine seqQ_exit ?_ | refine blockQ_eq ?_ | refine loopQ_exit ?_)
      exact end1 rfl (by first | exact List.Sublist.refl _ | exact sub1 | exact sub2 | exact sub3) (rbT (en.2 ⟨by first | exact al_t (by assumption) | exact al_t' (by assumption), by assumption, by assumption, hlk, fun i h => kp i h (by omega)⟩)) (.inl rfl)

theorem c_isEnabled1 (s : System) (t : State) (r : Rule) (x : Into) (hv : s.Ok) (ht : s.StateOk t) (hx : 0 ≤ x.cell ∧ x.cell ≤ (s.parents.length : Int) - 1) : Gives Tryz.prog 85 [.agg (encInto x), .ip (encState t), .ip (encSystem s), .ip (encRule r)] (.raw (.bool (dec (¬ IntoNow s t r x)))) := by
  refine fn_of_run tyOk ztOk mix Tryz.func85 rfl (by decide) Tryz.ntmps85 (fun w0 h => ?_)
  have h1 := ht.1
  repeat' (first
      | (refine j_go ?_; first
        | refine j_op0 rfl rfl rfl rfl ?_ | refine j_off rfl rfl rfl ?_ | (refine j_kIdx rfl ?_; first | refine j_idxz rfl rfl rfl rfl rfl ⟨by omega, by omega⟩ rfl rfl rfl ?_) | (refine j_kCall rfl rfl rfl rfl ?_; first | refine jc (c_parentNow _ _ _ hv h1 (by omega)) (LeL.refl _) rfl rfl ?_) | (refine j_kGuard rfl ?_; first | (refine (j_branch rfl rfl rfl (fun hb => ?_) (fun hb => ?_)) <;> skip; (fail_if_success guard_hyp hb : true = true); (fail_if_success guard_hyp hb : true = false); (fail_if_success guard_hyp hb : false = true); (fail_if_success guard_hyp hb : false = false))) | refine j_box rfl rfl rfl rfl rfl rfl ?_)
      | refine j_nil ?_
      | (refine r_go ?_; first | refine run_seq ?_ | refine run_region ?_ | refine run_ret ?_ | refine run_regionD (by kernel_rfl) ?_)
      | refine seqQ_normal ?_)
  all_goals (refine end1 rfl (by first | exact List.Sublist.refl _ | exact sub1 | exact sub2 | exact sub3) ?_ (.inl rfl); first | exact rbT (fun q => by exact (by first | exact absurd q.1 (al_f (by assumption)) | exact absurd q.1 (al_f' (by assumption)))) | exact rbN ⟨fun p q => p q.2, fun p q => p ⟨by first | exact al_t (by assumption) | exact al_t' (by assumption), q⟩⟩)

theorem c_isEnabled (s : System) (t : State) (r : Rule) (hv : s.Ok) (ht : s.StateOk t) (hr : s.RuleOk r) : Gives Tryz.prog 60 [.agg (encSystem s), .agg (encState t), .agg (encRule r)] (.raw (.bool (dec (EnP s t r)))) := by
  refine fn_of_run tyOk ztOk mix Tryz.func60 rfl (by decide) Tryz.ntmps60 (fun w0 h => ?_)
  have hl := hv.1.2.1
  have k8 := hv.1.1
  have h1 := ht.1
  have h2 := ht.2.1
  obtain ⟨c1, c2, c3, c4, c5, c6, c7, c8, c9, c10, c11⟩ := hr
  have hcl : r.cell.toNat < t.bags.length := by omega
  have hB := (ht.2.2.2.2 _ hcl).1
  have l0 := hB.2
  have l1 := c5.2
  have l2 := c6.2
  have l3 := c7.2
  have en := enP_iff (s := s) (bagOf_eq hcl)
  have hin : ∀ x ∈ r.into, 0 ≤ x.cell ∧ x.cell ≤ (s.parents.length : Int) - 1 := fun x hx => by
    obtain ⟨i, hi, rfl⟩ := List.getElem_of_mem hx
    exact (c11 i hi).1.1
  repeat' (first
      | (refine j_go ?_; first
        | refine j_op0 rfl rfl rfl rfl ?_ | refine j_off rfl rfl rfl ?_ | (refine j_kIdx rfl ?_; first | refine j_idxz rfl rfl rfl rfl rfl ⟨by omega, by omega⟩ rfl rfl rfl ?_) | (refine j_kCall rfl rfl rfl rfl ?_; first | refine jc (c_isWithin _ _ (by omega) (by omega)) (LeL.refl _) rfl rfl ?_ | refine jc (c_bagSize _ (BagK.bag (k := s.kinds) (by assumption))) (LeL.refl _) rfl rfl ?_ | refine jc (c_cfN _ _ (fun x => ¬ IntoNow s t r x) _ (fun x hx => c_isEnabled1 s t r x hv ht (hin x hx))) (LeL.refl _) rfl rfl ?_) | (refine j_kGuard rfl ?_; first | (refine (j_if rfl rfl rfl (fun hb => ?_) (fun hb => ?_)) <;> first | (exfalso; omega) | skip) | (refine (j_ifn rfl rfl rfl (fun hb => ?_) (fun hb => ?_)) <;> first | (exfalso; omega) | skip)) | refine j_box rfl rfl rfl rfl rfl rfl ?_)
      | refine j_nil ?_
      | (refine r_go ?_; first | refine run_seq ?_ | refine run_region ?_ | refine run_cond_t rfl ?_ | refine run_cond_f rfl ?_ | (refine (run_if rfl (fun hb => ?_) (fun hb => ?_)) <;> first | (exfalso; omega) | skip) | refine run_ret ?_ | refine run_skip ?_ | refine run_condn rfl (fun hb => ?_) (fun hb => ?_))
      | refine seqQ_normal ?_ | refine seqQ_ret ?_)
  all_goals (refine end1 rfl (by first | exact List.Sublist.refl _ | exact sub1 | exact sub2 | exact sub3) ?_ (.inl rfl); first | exact rbF (fun q => by
        obtain ⟨q1, q2, q3, q4, q5⟩ := en.1 q
        exact (by first | exact absurd q1 (al_f (by assumption)) | exact absurd q1 (al_f' (by assumption)) | exact absurd q2 (by assumption) | exact absurd q3 (by assumption) | exact q4 ⟨by assumption, by assumption⟩)) | exact rbN ⟨fun p => en.2 ⟨by first | exact al_t (by assumption) | exact al_t' (by assumption), by assumption, by assumption, by first | (intro q; exact absurd q.1 (by assumption)) | (intro q; exact absurd q.2 (by assumption)), fun i h => Classical.byContradiction fun q => p ⟨_, List.getElem_mem h, q⟩⟩, fun p ⟨x, hx, q⟩ => by
        obtain ⟨i, hi, rfl⟩ := List.getElem_of_mem hx
        exact q ((en.1 p).2.2.2.2 i hi)⟩)

end Go.Proofs.YtkfmjjoalkoncaaGreat
