/-
  The data of the laws' theme 7, as structures, and the helpers of the laws over them: sizes, copies, comparisons. No condition but that the sizes are at most 1048576.
-/
import Derived.Test.YtgjlemedckhlfaaZHBase
import Derived.Test.YtgjlemedckhlfaaZOwn
namespace Go.Proofs.Ytgjlemedckhlfaa
open Go.AI
set_option maxRecDepth 8000

structure Cnf where
  vars : Int
  clauses : List (List Int)
  deriving DecidableEq, Inhabited
def encCnf (x : Cnf) : List A := [.int x.vars, .sl (x.clauses.map (encS encI))]
def szCnf (left : Int) (x : Cnf) : Int := if szSl szR left x.clauses < 0 then -1 else szSl szR left x.clauses
/-- What its size tells of it. -/
structure OkCnf (x : Cnf) : Prop where
  clauses : x.clauses.length ≤ 1048576 ∧ ∀ r ∈ x.clauses, r.length ≤ 1048576
theorem szCnf_le {left : Int} {x : Cnf} (h1 : -1 ≤ left) (h2 : left ≤ 1048576) : -1 ≤ szCnf left x ∧ szCnf left x ≤ 1048576 := by
  have l0 : -1 ≤ szSl szR left x.clauses ∧ szSl szR left x.clauses ≤ 1048576 := szSl_le (fun _ _ p q => szR_le p q) h1 h2
  unfold szCnf
  repeat' split
  all_goals first | omega | assumption
theorem szCnf_ok {left : Int} {x : Cnf} (h1 : -1 ≤ left) (h2 : left ≤ 1048576) (h : ¬ szCnf left x < 0) : OkCnf x := by
  have l0 : -1 ≤ szSl szR left x.clauses ∧ szSl szR left x.clauses ≤ 1048576 := szSl_le (fun _ _ p q => szR_le p q) h1 h2
  unfold szCnf at h
  split at h
  · exact absurd (by decide) h
  rename_i q0
  exact ⟨(szSl_ok (p := fun r => r.length ≤ 1048576) (fun _ _ p q => szR_le p q) (fun _ _ _ q r => szR_ok q r) h1 h2 q0)⟩
theorem c_szCnf (x : Cnf) (left : Int) (h1 : -1 ≤ left) (h2 : left ≤ 1048576) : Gives Try.prog 57 [.agg (encCnf x), .int left] (.int (szCnf left x)) := by
  have l0 : -1 ≤ szSl szR left x.clauses ∧ szSl szR left x.clauses ≤ 1048576 := szSl_le (fun _ _ p q => szR_le p q) h1 h2
  refine fn_of_run tyOk ztOk mix Try.func57 rfl (by decide) Try.ntmps57 (fun w0 h => ?_)
  repeat' (first
      | (refine j_go ?_; first
        | refine j_op0 rfl rfl rfl rfl ?_ | (refine j_kCall rfl rfl rfl rfl ?_; first | refine jc (c_szInt64SS _ _ (by omega) (by omega)) (LeL.refl _) rfl rfl ?_) | refine j_box rfl rfl rfl rfl rfl rfl ?_)
      | refine j_nil ?_
      | (refine r_go ?_; first | refine run_seq ?_ | refine run_region ?_ | (refine (run_if rfl (fun hb => ?_) (fun hb => ?_)) <;> first | (exfalso; omega) | skip) | refine run_ret ?_ | refine run_skip ?_)
      | refine seqQ_normal ?_ | refine seqQ_ret ?_)
  all_goals exact end1 rfl (List.Sublist.refl _) (ai (by unfold szCnf; repeat' split; all_goals first | rfl | contradiction)) (.inl rfl)
theorem c_toCnf (x : Cnf) (hx : OkCnf x) : Gives Try.prog 59 [.agg (encCnf x)] (.agg (encCnf x)) := by
  obtain ⟨⟨k0, m0⟩⟩ := hx
  refine fn_of_run tyOk ztOk mix Try.func59 rfl (by decide) Try.ntmps59 (fun w0 h => ?_)
  repeat' (first
      | (refine j_go ?_; first
        | refine j_op0 rfl rfl rfl rfl ?_ | (refine j_kCall rfl rfl rfl rfl ?_; first | refine jc (c_toInt64SS _ (by assumption) (by assumption)) (LeL.refl _) rfl rfl ?_) | (refine j_kLoad rfl ?_; first | refine j_mload 0 rfl rfl rfl rfl rfl rfl rfl ?_) | (refine j_kStore rfl ?_; first | refine j_store 0 rfl rfl rfl rfl rfl rfl rfl rfl rfl rfl rfl ?_ | refine j_storeN 1 rfl rfl rfl rfl rfl rfl rfl rfl rfl rfl rfl ?_) | refine j_box rfl rfl rfl rfl rfl rfl ?_ | refine j_alloc rfl rfl rfl rfl rfl (fun _ => ?_))
      | refine j_nil ?_
      | (refine r_go ?_; first | refine run_seq ?_ | refine run_region ?_ | refine run_ret ?_)
      | refine seqQ_normal ?_)
  exact end_cellM rfl 1 rfl rfl sub2 (Le.refl _) (.inl rfl)
theorem c_eqCnf (x y : Cnf) : Gives Try.prog 61 [.agg (encCnf x), .agg (encCnf y)] (.raw (.bool (dec (x = y)))) := by
  refine fn_of_run tyOk ztOk mix Try.func61 rfl (by decide) Try.ntmps61 (fun w0 h => ?_)
  repeat' (first
      | (refine j_go ?_; first
        | refine j_op0 rfl rfl rfl rfl ?_ | (refine j_kCall rfl rfl rfl rfl ?_; first | refine jc (c_eqInt64SS _ _) (LeL.refl _) rfl rfl ?_) | refine j_box rfl rfl rfl rfl rfl rfl ?_)
      | refine j_nil ?_
      | (refine r_go ?_; first | refine run_seq ?_ | refine run_region ?_ | (refine (run_ifn rfl (fun hb => ?_) (fun hb => ?_)) <;> first | (exfalso; omega) | skip) | refine run_ret ?_ | refine run_skip ?_)
      | refine seqQ_normal ?_ | refine seqQ_ret ?_)
  all_goals first | exact end1 rfl (List.Sublist.refl _) (rb (dec_f (fun q => hb (by rw [q]))).symm) (.inl rfl) | exact end1 rfl (List.Sublist.refl _) (rb (dec_t (by cases x; cases y; simp_all)).symm) (.inl rfl)

structure Group where
  charge : Int
  contents : List Int
  count : Int
  deriving DecidableEq, Inhabited
def encGroup (x : Group) : List A := [.int x.charge, .sl (x.contents.map encI), .int x.count]
/-- What its size tells of it. -/
structure OkGroup (x : Group) : Prop where
  contents : x.contents.length ≤ 1048576
theorem c_eqGroup (x y : Group) : Gives Try.prog 148 [.agg (encGroup x), .agg (encGroup y)] (.raw (.bool (dec (x = y)))) := by
  refine fn_of_run tyOk ztOk mix Try.func148 rfl (by decide) Try.ntmps148 (fun w0 h => ?_)
  repeat' (first
      | (refine j_go ?_; first
        | refine j_op0 rfl rfl rfl rfl ?_ | (refine j_kCall rfl rfl rfl rfl ?_; first | refine jc (c_eqInt64S _ _) (LeL.refl _) rfl rfl ?_) | refine j_box rfl rfl rfl rfl rfl rfl ?_)
      | refine j_nil ?_
      | (refine r_go ?_; first | refine run_seq ?_ | refine run_region ?_ | (refine (run_ifn rfl (fun hb => ?_) (fun hb => ?_)) <;> first | (exfalso; omega) | skip) | refine run_ret ?_ | refine run_skip ?_)
      | refine seqQ_normal ?_ | refine seqQ_ret ?_)
  all_goals first | exact end1 rfl (List.Sublist.refl _) (rb (dec_f (fun q => hb (by rw [q]))).symm) (.inl rfl) | exact end1 rfl (List.Sublist.refl _) (rb (dec_t (by cases x; cases y; simp_all)).symm) (.inl rfl)
theorem c_eqGroupS (a b : List (Group)) : Gives Try.prog 70 [.sl (a.map encGroup), .sl (b.map encGroup)] (.raw (.bool (dec (a = b)))) := by
  refine fn_of_run tyOk ztOk mix Try.func70 rfl (by decide) Try.ntmps70 (fun w0 h => ?_)
  refine run_len (t := 0) rfl (fun hla => ?_)
  refine run_len (t := 1) rfl (fun hlb => ?_)
  rw [List.length_map] at hla hlb
  repeat' (first
      | (refine j_go ?_; first
        | refine j_op0 rfl rfl rfl rfl ?_ | (refine j_kLen rfl ?_; first | refine j_len rfl rfl rfl rfl rfl rfl ?_))
      | refine j_nil ?_
      | (refine r_go ?_; first | refine run_seq ?_ | refine run_region ?_ | (refine (run_ifn rfl (fun hb => ?_) (fun hb => ?_)) <;> first | (exfalso; omega) | skip) | refine run_block ?_ | refine run_ret ?_ | refine run_skip ?_)
      | refine seqQ_normal ?_ | refine seqQ_ret ?_)
  · exact end1 rfl (List.Sublist.refl _) (rb (dec_f (fun q => hb (by rw [q]))).symm) (.inl rfl)
  · have hn : a.length = b.length := by omega
    refine run_loop (fun k : Nat => [(0, .sl (a.map encGroup)), (1, .sl (b.map encGroup)), (5, .int (k : Int))]) (fun _ => h) (fun k => k ≤ a.length ∧ a.take k = b.take k) (fun k => a.length - k) 0 ⟨rfl, rfl, rfl, trivial⟩ rfl ⟨by omega, rfl⟩ ?_
    intro k ⟨g1, g2⟩
    repeat' (first
      | (refine j_go ?_; first
        | refine j_op0 rfl rfl rfl rfl ?_ | (refine j_kIdx rfl ?_; first | refine j_idx rfl rfl rfl rfl rfl (by omega) rfl rfl rfl ?_) | (refine j_kBin rfl ?_; first | refine j_in rfl rfl ⟨by omega, by omega⟩ rfl rfl ?_) | (refine j_kLen rfl ?_; first | refine j_len rfl rfl rfl rfl rfl rfl ?_) | (refine j_kCall rfl rfl rfl rfl ?_; first | refine jc (c_eqGroup _ _) (LeL.refl _) rfl rfl ?_))
      | refine j_nil ?_
      | (refine r_go ?_; first | refine run_seq ?_ | refine run_region ?_ | (refine (run_if rfl (fun hb => ?_) (fun hb => ?_)) <;> first | (exfalso; omega) | skip) | (refine (run_ifn rfl (fun hb => ?_) (fun hb => ?_)) <;> first | (exfalso; omega) | skip) | refine run_block ?_ | refine run_ret ?_ | refine run_exit ?_ | refine run_skip ?_ | refine run_regionD (by kernel_rfl) ?_)
      | refine seqQ_normal ?_ | refine seqQ_ret ?_ | refine seqQ_exit ?_ | refine blockQ_normal ?_ | refine blockQ_ret ?_ | refine blockQ_eq ?_ | refine loopQ_ret ?_ | refine loopQ_exit ?_)
    · exact end1 rfl (List.Sublist.refl _) (rb (dec_f (fun q => hb (by subst q; rfl))).symm) (.inl rfl)
    · exact loopQ_next (k + 1) ⟨by omega, take_eq_succ g2 (by omega) (by omega) hb⟩ (by omega) rfl ⟨rfl, rfl, nx _, trivial⟩
    · have hk : k = a.length := by omega
      subst hk
      exact end1 rfl (List.Sublist.refl _) (rb (dec_t (by rw [List.take_length, hn, List.take_length] at g2; exact g2)).symm) (.inl rfl)

structure Colony where
  skin : List Int
  groups : List Group
  deriving DecidableEq, Inhabited
def encColony (x : Colony) : List A := [.sl (x.skin.map encI), .sl (x.groups.map encGroup)]
/-- What its size tells of it. -/
structure OkColony (x : Colony) : Prop where
  skin : x.skin.length ≤ 1048576
  groups : x.groups.length ≤ 1048576 ∧ ∀ r ∈ x.groups, OkGroup r
theorem c_eqColony (x y : Colony) : Gives Try.prog 46 [.agg (encColony x), .agg (encColony y)] (.raw (.bool (dec (x = y)))) := by
  refine fn_of_run tyOk ztOk mix Try.func46 rfl (by decide) Try.ntmps46 (fun w0 h => ?_)
  repeat' (first
      | (refine j_go ?_; first
        | refine j_op0 rfl rfl rfl rfl ?_ | (refine j_kCall rfl rfl rfl rfl ?_; first | refine jc (c_eqInt64S _ _) (LeL.refl _) rfl rfl ?_ | refine jc (c_eqGroupS _ _) (LeL.refl _) rfl rfl ?_) | refine j_box rfl rfl rfl rfl rfl rfl ?_)
      | refine j_nil ?_
      | (refine r_go ?_; first | refine run_seq ?_ | refine run_region ?_ | (refine (run_ifn rfl (fun hb => ?_) (fun hb => ?_)) <;> first | (exfalso; omega) | skip) | refine run_ret ?_ | refine run_skip ?_)
      | refine seqQ_normal ?_ | refine seqQ_ret ?_)
  all_goals first | exact end1 rfl (List.Sublist.refl _) (rb (dec_f (fun q => hb (by rw [q]))).symm) (.inl rfl) | exact end1 rfl (List.Sublist.refl _) (rb (dec_t (by cases x; cases y; simp_all)).symm) (.inl rfl)

structure DivRule where
  kind : Int
  charge : Int
  object : Int
  to : Int
  first : List Int
  toB : Int
  second : List Int
  deriving DecidableEq, Inhabited
def encDivRule (x : DivRule) : List A := [.int x.kind, .int x.charge, .int x.object, .int x.to, .sl (x.first.map encI), .int x.toB, .sl (x.second.map encI)]
/-- What its size tells of it. -/
structure OkDivRule (x : DivRule) : Prop where
  first : x.first.length ≤ 1048576
  second : x.second.length ≤ 1048576
theorem c_eqDivRule (x y : DivRule) : Gives Try.prog 196 [.agg (encDivRule x), .agg (encDivRule y)] (.raw (.bool (dec (x = y)))) := by
  refine fn_of_run tyOk ztOk mix Try.func196 rfl (by decide) Try.ntmps196 (fun w0 h => ?_)
  repeat' (first
      | (refine j_go ?_; first
        | refine j_op0 rfl rfl rfl rfl ?_ | (refine j_kCall rfl rfl rfl rfl ?_; first | refine jc (c_eqInt64S _ _) (LeL.refl _) rfl rfl ?_) | refine j_box rfl rfl rfl rfl rfl rfl ?_)
      | refine j_nil ?_
      | (refine r_go ?_; first | refine run_seq ?_ | refine run_region ?_ | (refine (run_ifn rfl (fun hb => ?_) (fun hb => ?_)) <;> first | (exfalso; omega) | skip) | refine run_ret ?_ | refine run_skip ?_)
      | refine seqQ_normal ?_ | refine seqQ_ret ?_)
  all_goals first | exact end1 rfl (List.Sublist.refl _) (rb (dec_f (fun q => hb (by rw [q]))).symm) (.inl rfl) | exact end1 rfl (List.Sublist.refl _) (rb (dec_t (by cases x; cases y; simp_all)).symm) (.inl rfl)
theorem c_eqDivRuleS (a b : List (DivRule)) : Gives Try.prog 106 [.sl (a.map encDivRule), .sl (b.map encDivRule)] (.raw (.bool (dec (a = b)))) := by
  refine fn_of_run tyOk ztOk mix Try.func106 rfl (by decide) Try.ntmps106 (fun w0 h => ?_)
  refine run_len (t := 0) rfl (fun hla => ?_)
  refine run_len (t := 1) rfl (fun hlb => ?_)
  rw [List.length_map] at hla hlb
  repeat' (first
      | (refine j_go ?_; first
        | refine j_op0 rfl rfl rfl rfl ?_ | (refine j_kLen rfl ?_; first | refine j_len rfl rfl rfl rfl rfl rfl ?_))
      | refine j_nil ?_
      | (refine r_go ?_; first | refine run_seq ?_ | refine run_region ?_ | (refine (run_ifn rfl (fun hb => ?_) (fun hb => ?_)) <;> first | (exfalso; omega) | skip) | refine run_block ?_ | refine run_ret ?_ | refine run_skip ?_)
      | refine seqQ_normal ?_ | refine seqQ_ret ?_)
  · exact end1 rfl (List.Sublist.refl _) (rb (dec_f (fun q => hb (by rw [q]))).symm) (.inl rfl)
  · have hn : a.length = b.length := by omega
    refine run_loop (fun k : Nat => [(0, .sl (a.map encDivRule)), (1, .sl (b.map encDivRule)), (5, .int (k : Int))]) (fun _ => h) (fun k => k ≤ a.length ∧ a.take k = b.take k) (fun k => a.length - k) 0 ⟨rfl, rfl, rfl, trivial⟩ rfl ⟨by omega, rfl⟩ ?_
    intro k ⟨g1, g2⟩
    repeat' (first
      | (refine j_go ?_; first
        | refine j_op0 rfl rfl rfl rfl ?_ | (refine j_kIdx rfl ?_; first | refine j_idx rfl rfl rfl rfl rfl (by omega) rfl rfl rfl ?_) | (refine j_kBin rfl ?_; first | refine j_in rfl rfl ⟨by omega, by omega⟩ rfl rfl ?_) | (refine j_kLen rfl ?_; first | refine j_len rfl rfl rfl rfl rfl rfl ?_) | (refine j_kCall rfl rfl rfl rfl ?_; first | refine jc (c_eqDivRule _ _) (LeL.refl _) rfl rfl ?_))
      | refine j_nil ?_
      | (refine r_go ?_; first | refine run_seq ?_ | refine run_region ?_ | (refine (run_if rfl (fun hb => ?_) (fun hb => ?_)) <;> first | (exfalso; omega) | skip) | (refine (run_ifn rfl (fun hb => ?_) (fun hb => ?_)) <;> first | (exfalso; omega) | skip) | refine run_block ?_ | refine run_ret ?_ | refine run_exit ?_ | refine run_skip ?_ | refine run_regionD (by kernel_rfl) ?_)
      | refine seqQ_normal ?_ | refine seqQ_ret ?_ | refine seqQ_exit ?_ | refine blockQ_normal ?_ | refine blockQ_ret ?_ | refine blockQ_eq ?_ | refine loopQ_ret ?_ | refine loopQ_exit ?_)
    · exact end1 rfl (List.Sublist.refl _) (rb (dec_f (fun q => hb (by subst q; rfl))).symm) (.inl rfl)
    · exact loopQ_next (k + 1) ⟨by omega, take_eq_succ g2 (by omega) (by omega) hb⟩ (by omega) rfl ⟨rfl, rfl, nx _, trivial⟩
    · have hk : k = a.length := by omega
      subst hk
      exact end1 rfl (List.Sublist.refl _) (rb (dec_t (by rw [List.take_length, hn, List.take_length] at g2; exact g2)).symm) (.inl rfl)

structure Division where
  objects : Int
  rules : List DivRule
  deriving DecidableEq, Inhabited
def encDivision (x : Division) : List A := [.int x.objects, .sl (x.rules.map encDivRule)]
/-- What its size tells of it. -/
structure OkDivision (x : Division) : Prop where
  rules : x.rules.length ≤ 1048576 ∧ ∀ r ∈ x.rules, OkDivRule r
theorem c_eqDivision (x y : Division) : Gives Try.prog 45 [.agg (encDivision x), .agg (encDivision y)] (.raw (.bool (dec (x = y)))) := by
  refine fn_of_run tyOk ztOk mix Try.func45 rfl (by decide) Try.ntmps45 (fun w0 h => ?_)
  repeat' (first
      | (refine j_go ?_; first
        | refine j_op0 rfl rfl rfl rfl ?_ | (refine j_kCall rfl rfl rfl rfl ?_; first | refine jc (c_eqDivRuleS _ _) (LeL.refl _) rfl rfl ?_) | refine j_box rfl rfl rfl rfl rfl rfl ?_)
      | refine j_nil ?_
      | (refine r_go ?_; first | refine run_seq ?_ | refine run_region ?_ | (refine (run_ifn rfl (fun hb => ?_) (fun hb => ?_)) <;> first | (exfalso; omega) | skip) | refine run_ret ?_ | refine run_skip ?_)
      | refine seqQ_normal ?_ | refine seqQ_ret ?_)
  all_goals first | exact end1 rfl (List.Sublist.refl _) (rb (dec_f (fun q => hb (by rw [q]))).symm) (.inl rfl) | exact end1 rfl (List.Sublist.refl _) (rb (dec_t (by cases x; cases y; simp_all)).symm) (.inl rfl)
end Go.Proofs.Ytgjlemedckhlfaa

/-
  Small functions of the reference and the program over numbers and lists of numbers: bounds, rising, membership, equality. No condition.
-/
namespace Go.Proofs.Ytgjlemedckhlfaa
open Go.AI
set_option maxRecDepth 8000
set_option maxHeartbeats 1600000

theorem c_l00In (n low high : Int) : Gives Try.prog 77 [.int n, .int low, .int high] (.raw (.bool (dec (low ≤ n ∧ n ≤ high)))) := by
  refine fn_of_run tyOk ztOk mix Try.func77 rfl (by decide) Try.ntmps77 (fun w0 h => ?_)
  repeat' (first
      | (refine j_go ?_; first
        | refine j_op0 rfl rfl rfl rfl ?_ | refine j_off rfl rfl rfl ?_ | (refine j_kGuard rfl ?_; first | (refine (j_if rfl rfl rfl (fun hb => ?_) (fun hb => ?_)) <;> first | (exfalso; omega) | skip)))
      | refine j_nil ?_
      | (refine r_go ?_; first | refine run_seq ?_ | refine run_region ?_ | refine run_ret ?_)
      | refine seqQ_normal ?_)
  all_goals first | exact end1 rfl (by first | exact List.Sublist.refl _ | exact sub1 | exact sub2 | exact sub3) (rbT (by omega)) (.inl rfl) | exact end1 rfl (by first | exact List.Sublist.refl _ | exact sub1 | exact sub2 | exact sub3) (rbF (by omega)) (.inl rfl) | exact end1 rfl (List.Sublist.refl _) (rb (by simp [dec_eq]; omega)) (.inl rfl)

theorem c_inRange (n low high : Int) : Gives Try.prog 145 [.int n, .int low, .int high] (.raw (.bool (dec (low ≤ n ∧ n ≤ high)))) := by
  refine fn_of_run tyOk ztOk mix Try.func145 rfl (by decide) Try.ntmps145 (fun w0 h => ?_)
  repeat' (first
      | (refine j_go ?_; first
        | refine j_op0 rfl rfl rfl rfl ?_ | refine j_off rfl rfl rfl ?_ | (refine j_kGuard rfl ?_; first | (refine (j_if rfl rfl rfl (fun hb => ?_) (fun hb => ?_)) <;> first | (exfalso; omega) | skip)))
      | refine j_nil ?_
      | (refine r_go ?_; first | refine run_seq ?_ | refine run_region ?_ | refine run_ret ?_)
      | refine seqQ_normal ?_)
  all_goals first | exact end1 rfl (by first | exact List.Sublist.refl _ | exact sub1 | exact sub2 | exact sub3) (rbT (by omega)) (.inl rfl) | exact end1 rfl (by first | exact List.Sublist.refl _ | exact sub1 | exact sub2 | exact sub3) (rbF (by omega)) (.inl rfl) | exact end1 rfl (List.Sublist.refl _) (rb (by simp [dec_eq]; omega)) (.inl rfl)

/-- Numbers that rise, within bounds. -/
def Rises (lo hi : Int) (l : List Int) : Prop := ∀ i (h : i < l.length), (lo ≤ l[i] ∧ l[i] ≤ hi) ∧ (0 < i → l[i-1] < l[i])

theorem c_l00Rises (l : List Int) (lo hi : Int) : Gives Try.prog 217 [.sl (l.map encI), .int lo, .int hi] (.raw (.bool (dec (Rises lo hi l)))) := by
  refine fn_of_run tyOk ztOk mix Try.func217 rfl (by decide) Try.ntmps217 (fun w0 h => ?_)
  refine run_len (t := 0) rfl (fun hl => ?_)
  rw [List.length_map] at hl
  repeat' (first
      | (refine j_go ?_; first
        | refine j_op0 rfl rfl rfl rfl ?_)
      | refine j_nil ?_
      | (refine r_go ?_; first | refine run_seq ?_ | refine run_region ?_ | refine run_block ?_)
      | refine seqQ_normal ?_)
  refine run_loop (fun k : Nat => [(0, .sl (l.map encI)), (1, .int lo), (2, .int hi), (7, .int (k : Int))]) (fun _ => _) (fun k => k ≤ l.length ∧ (∀ i (h : i < l.length), i < k → (lo ≤ l[i] ∧ l[i] ≤ hi) ∧ (0 < i → l[i-1] < l[i]))) (fun k => l.length - k) 0 ⟨rfl, rfl, rfl, rfl, trivial⟩ rfl ⟨Nat.zero_le _, by first | (intros; omega) | (simp; done) | rfl | trivial | exact ⟨by simp [sumF], by intros; omega⟩ | exact ⟨by omega, by simp⟩⟩ (fun k ⟨kl, kp⟩ => ?_)
  have e : ((k : Int) - 1).toNat = k - 1 := by omega
  repeat' (first
      | (refine j_go ?_; first
        | refine j_op0 rfl rfl rfl rfl ?_ | refine j_off rfl rfl rfl ?_ | (refine j_kIdx rfl ?_; first | refine j_idx rfl rfl rfl rfl rfl (by omega) rfl rfl rfl ?_ | refine j_idxz rfl rfl rfl rfl rfl ⟨by omega, by omega⟩ rfl rfl rfl ?_) | (refine j_kBin rfl ?_; first | refine j_in rfl rfl ⟨by omega, by omega⟩ rfl rfl ?_) | (refine j_kLen rfl ?_; first | refine j_len rfl rfl rfl rfl rfl rfl ?_) | (refine j_kCall rfl rfl rfl rfl ?_; first | refine jc (c_l00In _ _ _) (LeL.refl _) rfl rfl ?_) | (refine j_kGuard rfl ?_; first | (refine (j_if rfl rfl rfl (fun hb => ?_) (fun hb => ?_)) <;> first | (exfalso; omega) | skip) | (refine (j_ifn rfl rfl rfl (fun hb => ?_) (fun hb => ?_)) <;> first | (exfalso; omega) | skip)))
      | refine j_nil ?_
      | (refine r_go ?_; first | refine run_seq ?_ | refine run_region ?_ | refine run_cond_t rfl ?_ | refine run_cond_f rfl ?_ | (refine (run_if rfl (fun hb => ?_) (fun hb => ?_)) <;> first | (exfalso; omega) | skip) | refine run_block ?_ | refine run_ret ?_ | refine run_exit ?_ | refine run_skip ?_ | refine run_regionD (by kernel_rfl) ?_)
      | refine seqQ_normal ?_ | refine seqQ_ret ?_ | refine seqQ_exit ?_ | refine blockQ_normal ?_ | refine blockQ_ret ?_ | refine blockQ_eq ?_ | refine loopQ_ret ?_ | refine loopQ_exit ?_)
  · exact end1 rfl (by first | exact List.Sublist.refl _ | exact sub1 | exact sub2 | exact sub3) (rbF (fun q => hb (q k (by omega)).1)) (.inl rfl)
  · simp only [e] at hb
    exact end1 rfl (by first | exact List.Sublist.refl _ | exact sub1 | exact sub2 | exact sub3) (rbF (fun q => by have := (q k (by omega)).2 (by omega); omega)) (.inl rfl)
  · simp only [e] at hb
    exact loopQ_nextD (k + 1) ⟨by omega, all_step kp (fun _ => ⟨by assumption, fun _ => by omega⟩)⟩ (by omega) (by first | exact List.Sublist.refl _ | exact sub1 | exact sub2 | exact sub3) ⟨rfl, rfl, rfl, nx _, trivial⟩
  · exact loopQ_nextD (k + 1) ⟨by omega, all_step kp (fun _ => ⟨by assumption, fun _ => by omega⟩)⟩ (by omega) (by first | exact List.Sublist.refl _ | exact sub1 | exact sub2 | exact sub3) ⟨rfl, rfl, rfl, nx _, trivial⟩
  · exact end1 rfl (by first | exact List.Sublist.refl _ | exact sub1 | exact sub2 | exact sub3) (rbT (fun i h => kp i h (by omega))) (.inl rfl)

theorem c_l00Has (l : List Int) (n : Int) : Gives Try.prog 218 [.sl (l.map encI), .int n] (.raw (.bool (dec (n ∈ l)))) := by
  refine fn_of_run tyOk ztOk mix Try.func218 rfl (by decide) Try.ntmps218 (fun w0 h => ?_)
  refine run_len (t := 0) rfl (fun hl => ?_)
  rw [List.length_map] at hl
  repeat' (first
      | (refine j_go ?_; first
        | refine j_op0 rfl rfl rfl rfl ?_)
      | refine j_nil ?_
      | (refine r_go ?_; first | refine run_seq ?_ | refine run_region ?_ | refine run_block ?_)
      | refine seqQ_normal ?_)
  refine run_loop (fun k : Nat => [(0, .sl (l.map encI)), (1, .int n), (5, .int (k : Int))]) (fun _ => _) (fun k => k ≤ l.length ∧ (∀ i (h : i < l.length), i < k → l[i] ≠ n)) (fun k => l.length - k) 0 ⟨rfl, rfl, rfl, trivial⟩ rfl ⟨Nat.zero_le _, by first | (intros; omega) | (simp; done) | rfl | trivial | exact ⟨by simp [sumF], by intros; omega⟩ | exact ⟨by omega, by simp⟩⟩ (fun k ⟨kl, kp⟩ => ?_)
  repeat' (first
      | (refine j_go ?_; first
        | refine j_op0 rfl rfl rfl rfl ?_ | (refine j_kIdx rfl ?_; first | refine j_idx rfl rfl rfl rfl rfl (by omega) rfl rfl rfl ?_) | (refine j_kBin rfl ?_; first | refine j_in rfl rfl ⟨by omega, by omega⟩ rfl rfl ?_) | (refine j_kLen rfl ?_; first | refine j_len rfl rfl rfl rfl rfl rfl ?_))
      | refine j_nil ?_
      | (refine r_go ?_; first | refine run_seq ?_ | refine run_region ?_ | (refine (run_if rfl (fun hb => ?_) (fun hb => ?_)) <;> first | (exfalso; omega) | skip) | refine run_block ?_ | refine run_ret ?_ | refine run_exit ?_ | refine run_skip ?_)
      | refine seqQ_normal ?_ | refine seqQ_ret ?_ | refine seqQ_exit ?_ | refine blockQ_normal ?_ | refine blockQ_ret ?_ | refine blockQ_eq ?_ | refine loopQ_ret ?_ | refine loopQ_exit ?_)
  · exact end1 rfl (by first | exact List.Sublist.refl _ | exact sub1 | exact sub2 | exact sub3) (rbT (hb ▸ List.getElem_mem _)) (.inl rfl)
  · exact loopQ_nextD (k + 1) ⟨by omega, all_step kp (fun _ => hb)⟩ (by omega) (by first | exact List.Sublist.refl _ | exact sub1 | exact sub2 | exact sub3) ⟨rfl, rfl, nx _, trivial⟩
  · exact end1 rfl (by first | exact List.Sublist.refl _ | exact sub1 | exact sub2 | exact sub3) (rbF (fun q => by obtain ⟨i, hi, e⟩ := List.getElem_of_mem q; exact kp i hi (by omega) e)) (.inl rfl)

end Go.Proofs.Ytgjlemedckhlfaa

/-
  Formulas: what the reference's and the program's ValidCnf compute. No condition.
-/
namespace Go.Proofs.Ytgjlemedckhlfaa
open Go.AI
set_option maxRecDepth 8000
set_option maxHeartbeats 1600000

def Cnf.Valid (f : Cnf) : Prop := (1 ≤ f.vars ∧ f.vars ≤ 4) ∧ f.clauses.length ≤ 6 ∧ ∀ c ∈ f.clauses, Rises (0 - f.vars) f.vars c ∧ 0 ∉ c

theorem c_l07Cnf (f : Cnf) : Gives Try.prog 130 [.ip (encCnf f)] (.raw (.bool (dec f.Valid))) := by
  refine fn_of_run tyOk ztOk mix Try.func130 rfl (by decide) Try.ntmps130 (fun w0 h => ?_)
  repeat' (first
      | (refine j_go ?_; first
        | refine j_op0 rfl rfl rfl rfl ?_ | refine j_off rfl rfl rfl ?_ | (refine j_kLen rfl ?_; first | refine j_len rfl rfl rfl rfl rfl rfl ?_) | (refine j_kCall rfl rfl rfl rfl ?_; first | refine jc (c_l00In _ _ _) (LeL.refl _) rfl rfl ?_) | (refine j_kGuard rfl ?_; first | (refine (j_ifn rfl rfl rfl (fun hb => ?_) (fun hb => ?_)) <;> first | (exfalso; omega) | skip)))
      | refine j_nil ?_
      | (refine r_go ?_; first | refine run_seq ?_ | refine run_region ?_ | refine run_cond_t rfl ?_ | (refine (run_if rfl (fun hb => ?_) (fun hb => ?_)) <;> first | (exfalso; omega) | skip) | refine run_block ?_ | refine run_ret ?_ | refine run_skip ?_)
      | refine seqQ_normal ?_ | refine seqQ_ret ?_)
  · exact end1 rfl (by first | exact List.Sublist.refl _ | exact sub1 | exact sub2 | exact sub3) (rbF (fun q => hb q.1)) (.inl rfl)
  · exact end1 rfl (by first | exact List.Sublist.refl _ | exact sub1 | exact sub2 | exact sub3) (rbF (fun q => by have := q.2.1; omega)) (.inl rfl)
  · refine run_loop (fun k : Nat => [(0, .ip (encCnf f)), (3, .int (k : Int))]) (fun _ => _) (fun k => k ≤ f.clauses.length ∧ (∀ i (h : i < f.clauses.length), i < k → Rises (0 - f.vars) f.vars f.clauses[i] ∧ 0 ∉ f.clauses[i])) (fun k => f.clauses.length - k) 0 ⟨rfl, rfl, trivial⟩ rfl ⟨Nat.zero_le _, by first | (intros; omega) | (simp; done) | rfl | trivial | exact ⟨by simp [sumF], by intros; omega⟩ | exact ⟨by omega, by simp⟩⟩ (fun k ⟨kl, kp⟩ => ?_)
    repeat' (first
      | (refine j_go ?_; first
        | refine j_op0 rfl rfl rfl rfl ?_ | refine j_off rfl rfl rfl ?_ | (refine j_kIdx rfl ?_; first | refine j_idx rfl rfl rfl rfl rfl (by omega) rfl rfl rfl ?_) | (refine j_kBin rfl ?_; first | refine j_in rfl rfl ⟨by omega, by omega⟩ rfl rfl ?_) | (refine j_kLen rfl ?_; first | refine j_len rfl rfl rfl rfl rfl rfl ?_) | (refine j_kCall rfl rfl rfl rfl ?_; first | refine jc (c_l00Rises _ _ _) (LeL.refl _) rfl rfl ?_ | refine jc (c_l00Has _ _) (LeL.refl _) rfl rfl ?_) | (refine j_kGuard rfl ?_; first | (refine (j_ifn rfl rfl rfl (fun hb => ?_) (fun hb => ?_)) <;> first | (exfalso; omega) | skip)) | refine j_in rfl rfl ⟨by omega, by omega⟩ rfl rfl ?_)
      | refine j_nil ?_
      | (refine r_go ?_; first | refine run_seq ?_ | refine run_region ?_ | refine run_cond_t rfl ?_ | (refine (run_if rfl (fun hb => ?_) (fun hb => ?_)) <;> first | (exfalso; omega) | skip) | refine run_block ?_ | refine run_ret ?_ | refine run_exit ?_ | refine run_skip ?_ | refine run_regionD (by kernel_rfl) ?_)
      | refine seqQ_normal ?_ | refine seqQ_ret ?_ | refine seqQ_exit ?_ | refine blockQ_normal ?_ | refine blockQ_ret ?_ | refine blockQ_eq ?_ | refine loopQ_ret ?_ | refine loopQ_exit ?_)
    · exact end1 rfl (by first | exact List.Sublist.refl _ | exact sub1 | exact sub2 | exact sub3) (rbF (fun q => hb (q.2.2 _ (List.getElem_mem _)).1)) (.inl rfl)
    · exact end1 rfl (by first | exact List.Sublist.refl _ | exact sub1 | exact sub2 | exact sub3) (rbF (fun q => (q.2.2 _ (List.getElem_mem _)).2 hb)) (.inl rfl)
    · exact loopQ_nextD (k + 1) ⟨by omega, all_step kp (fun _ => ⟨by assumption, hb⟩)⟩ (by omega) (by first | exact List.Sublist.refl _ | exact sub1 | exact sub2 | exact sub3) ⟨rfl, nx _, trivial⟩
    · exact end1 rfl (by first | exact List.Sublist.refl _ | exact sub1 | exact sub2 | exact sub3) (rbT (⟨by assumption, by omega, fun c hc => by obtain ⟨i, hi, rfl⟩ := List.getElem_of_mem hc; exact kp i hi (by omega)⟩)) (.inl rfl)


theorem c_iValidCnf (f : Cnf) : Gives Try.prog 132 [.agg (encCnf f)] (.raw (.bool (dec f.Valid))) := by
  refine fn_of_run tyOk ztOk mix Try.func132 rfl (by decide) Try.ntmps132 (fun w0 h => ?_)
  repeat' (first
      | (refine j_go ?_; first
        | refine j_op0 rfl rfl rfl rfl ?_ | refine j_off rfl rfl rfl ?_ | (refine j_kLen rfl ?_; first | refine j_len rfl rfl rfl rfl rfl rfl ?_) | (refine j_kCall rfl rfl rfl rfl ?_; first | refine jc (c_inRange _ _ _) (LeL.refl _) rfl rfl ?_) | (refine j_kGuard rfl ?_; first | (refine (j_ifn rfl rfl rfl (fun hb => ?_) (fun hb => ?_)) <;> first | (exfalso; omega) | skip)) | refine j_box rfl rfl rfl rfl rfl rfl ?_)
      | refine j_nil ?_
      | (refine r_go ?_; first | refine run_seq ?_ | refine run_region ?_ | refine run_cond_t rfl ?_ | (refine (run_if rfl (fun hb => ?_) (fun hb => ?_)) <;> first | (exfalso; omega) | skip) | refine run_block ?_ | refine run_ret ?_ | refine run_skip ?_)
      | refine seqQ_normal ?_ | refine seqQ_ret ?_)
  · exact end1 rfl (by first | exact List.Sublist.refl _ | exact sub1 | exact sub2 | exact sub3) (rbF (fun q => hb q.1)) (.inl rfl)
  · exact end1 rfl (by first | exact List.Sublist.refl _ | exact sub1 | exact sub2 | exact sub3) (rbF (fun q => by have := q.2.1; omega)) (.inl rfl)
  · refine run_loop (fun k : Nat => [(1, .ip (encCnf f)), (18, .sl (f.clauses.map (encS encI))), (19, .int f.clauses.length), (20, .int (k : Int))]) (fun _ => _) (fun k => k ≤ f.clauses.length ∧ (∀ i (h : i < f.clauses.length), i < k → Rises (0 - f.vars) f.vars f.clauses[i] ∧ 0 ∉ f.clauses[i])) (fun k => f.clauses.length - k) 0 ⟨rfl, rfl, rfl, rfl, trivial⟩ rfl ⟨Nat.zero_le _, by first | (intros; omega) | (simp; done) | rfl | trivial | exact ⟨by simp [sumF], by intros; omega⟩ | exact ⟨by omega, by simp⟩⟩ (fun k ⟨kl, kp⟩ => ?_)
    repeat' (first
      | (refine j_go ?_; first
        | refine j_op0 rfl rfl rfl rfl ?_ | (refine j_kIdx rfl ?_; first | refine j_idx rfl rfl rfl rfl rfl (by omega) rfl rfl rfl ?_) | (refine j_kLen rfl ?_; first | refine j_len rfl rfl rfl rfl rfl rfl ?_))
      | refine j_nil ?_
      | (refine r_go ?_; first | refine run_seq ?_ | refine run_region ?_ | (refine (run_if rfl (fun hb => ?_) (fun hb => ?_)) <;> first | (exfalso; omega) | skip) | refine run_block ?_ | refine run_ret ?_ | refine run_exit ?_ | refine run_skip ?_)
      | refine seqQ_normal ?_ | refine seqQ_exit ?_ | refine blockQ_eq ?_ | refine loopQ_exit ?_)
    · have hk : k < f.clauses.length := by omega
      refine run_len (t := 4) rfl (fun hl => ?_)
      rw [List.length_map] at hl
      refine run_loop (fun j : Nat => [(1, .ip (encCnf f)), (4, .sl (f.clauses[k].map encI)), (18, .sl (f.clauses.map (encS encI))), (19, .int f.clauses.length), (20, .int (k : Int)), (24, .sl (f.clauses[k].map encI)), (25, .int f.clauses[k].length), (26, .int (j : Int))]) (fun _ => _) (fun j => j ≤ f.clauses[k].length ∧ (∀ i (h : i < f.clauses[k].length), i < j → ((0 - f.vars ≤ f.clauses[k][i] ∧ f.clauses[k][i] ≤ f.vars) ∧ (0 < i → f.clauses[k][i-1] < f.clauses[k][i])) ∧ f.clauses[k][i] ≠ 0)) (fun j => f.clauses[k].length - j) 0 ⟨rfl, rfl, rfl, rfl, rfl, rfl, rfl, rfl, trivial⟩ rfl ⟨Nat.zero_le _, by first | (intros; omega) | (simp; done) | rfl | trivial | exact ⟨by simp [sumF], by intros; omega⟩ | exact ⟨by omega, by simp⟩⟩ (fun j ⟨jl, jp⟩ => ?_)
      have e : ((j : Int) - 1).toNat = j - 1 := by omega
      repeat' (first
      | (refine j_go ?_; first
        | refine j_op0 rfl rfl rfl rfl ?_ | refine j_off rfl rfl rfl ?_ | (refine j_kIdx rfl ?_; first | refine j_idx rfl rfl rfl rfl rfl (by omega) rfl rfl rfl ?_ | refine j_idxz rfl rfl rfl rfl rfl ⟨by omega, by omega⟩ rfl rfl rfl ?_) | (refine j_kBin rfl ?_; first | refine j_in rfl rfl ⟨by omega, by omega⟩ rfl rfl ?_) | (refine j_kCall rfl rfl rfl rfl ?_; first | refine jc (c_inRange _ _ _) (LeL.refl _) rfl rfl ?_) | (refine j_kGuard rfl ?_; first | (refine (j_if rfl rfl rfl (fun hb => ?_) (fun hb => ?_)) <;> first | (exfalso; omega) | skip) | (refine (j_ifn rfl rfl rfl (fun hb => ?_) (fun hb => ?_)) <;> first | (exfalso; omega) | skip)) | refine j_in rfl rfl ⟨by omega, by omega⟩ rfl rfl ?_)
      | refine j_nil ?_
      | (refine r_go ?_; first | refine run_seq ?_ | refine run_region ?_ | refine run_cond_t rfl ?_ | refine run_cond_f rfl ?_ | (refine (run_if rfl (fun hb => ?_) (fun hb => ?_)) <;> first | (exfalso; omega) | skip) | refine run_block ?_ | refine run_ret ?_ | refine run_exit ?_ | refine run_skip ?_)
      | refine seqQ_normal ?_ | refine seqQ_ret ?_ | refine seqQ_exit ?_ | refine blockQ_normal ?_ | refine blockQ_ret ?_ | refine blockQ_eq ?_ | refine loopQ_ret ?_ | refine loopQ_exit ?_)
      all_goals try simp only [e] at hb
      · exact end1 rfl (by first | exact List.Sublist.refl _ | exact sub1 | exact sub2 | exact sub3) (rbF (fun q => (q.2.2 _ (List.getElem_mem hk)).2 (hb ▸ List.getElem_mem _))) (.inl rfl)
      · exact end1 rfl (by first | exact List.Sublist.refl _ | exact sub1 | exact sub2 | exact sub3) (rbF (fun q => hb ((q.2.2 _ (List.getElem_mem hk)).1 j (by omega)).1)) (.inl rfl)
      · exact end1 rfl (by first | exact List.Sublist.refl _ | exact sub1 | exact sub2 | exact sub3) (rbF (fun q => by have := ((q.2.2 _ (List.getElem_mem hk)).1 j (by omega)).2 (by omega); omega)) (.inl rfl)
      · exact loopQ_nextD (j + 1) ⟨by omega, all_step jp (fun _ => ⟨⟨by assumption, fun _ => by omega⟩, by assumption⟩)⟩ (by omega) (by first | exact List.Sublist.refl _ | exact sub1 | exact sub2 | exact sub3) ⟨rfl, rfl, rfl, rfl, rfl, rfl, rfl, nx _, trivial⟩
      · exact loopQ_nextD (j + 1) ⟨by omega, all_step jp (fun _ => ⟨⟨by assumption, fun _ => by omega⟩, by assumption⟩)⟩ (by omega) (by first | exact List.Sublist.refl _ | exact sub1 | exact sub2 | exact sub3) ⟨rfl, rfl, rfl, rfl, rfl, rfl, rfl, nx _, trivial⟩
      · exact loopQ_nextD (k + 1) ⟨by omega, all_step kp (fun _ => ⟨fun i h => (jp i h (by omega)).1, fun q => by obtain ⟨i, hi, e⟩ := List.getElem_of_mem q; exact (jp i hi (by omega)).2 e⟩)⟩ (by omega) (by first | exact List.Sublist.refl _ | exact sub1 | exact sub2 | exact sub3) ⟨rfl, rfl, rfl, nx _, trivial⟩
    · exact end1 rfl (by first | exact List.Sublist.refl _ | exact sub1 | exact sub2 | exact sub3) (rbT (⟨by assumption, by omega, fun c hc => by obtain ⟨i, hi, rfl⟩ := List.getElem_of_mem hc; exact kp i hi (by omega)⟩)) (.inl rfl)

end Go.Proofs.Ytgjlemedckhlfaa

/-
  Library functions over lists of numbers and lists of lists: the first element of a kind. No condition.
-/
namespace Go.Proofs.Ytgjlemedckhlfaa
open Go.AI
set_option maxRecDepth 8000
set_option maxHeartbeats 1600000

end Go.Proofs.Ytgjlemedckhlfaa

/-
  The data of the laws' theme 2, as structures, and the helpers of the laws over them: sizes, copies, comparisons. No condition but that the sizes are at most 1048576.
-/
namespace Go.Proofs.Ytgjlemedckhlfaa
open Go.AI
set_option maxRecDepth 8000

structure Into where
  cell : Int
  bag : List Int
  deriving DecidableEq, Inhabited
/-- What its size tells of it. -/
structure OkInto (x : Into) : Prop where
  bag : x.bag.length ≤ 1048576
structure Rule where
  cell : Int
  rank : Int
  need : List Int
  have_ : List Int
  lack : List Int
  here : List Int
  out : List Int
  into : List Into
  melts : Bool
  deriving DecidableEq, Inhabited
/-- What its size tells of it. -/
structure OkRule (x : Rule) : Prop where
  need : x.need.length ≤ 1048576
  have_ : x.have_.length ≤ 1048576
  lack : x.lack.length ≤ 1048576
  here : x.here.length ≤ 1048576
  out : x.out.length ≤ 1048576
  into : x.into.length ≤ 1048576 ∧ ∀ r ∈ x.into, OkInto r
structure System where
  kinds : Int
  parents : List Int
  rules : List Rule
  deriving DecidableEq, Inhabited
/-- What its size tells of it. -/
structure OkSystem (x : System) : Prop where
  parents : x.parents.length ≤ 1048576
  rules : x.rules.length ≤ 1048576 ∧ ∀ r ∈ x.rules, OkRule r
structure State where
  alive : List Bool
  bags : List (List Int)
  around : List Int
  deriving DecidableEq, Inhabited
/-- What its size tells of it. -/
structure OkState (x : State) : Prop where
  alive : x.alive.length ≤ 1048576
  bags : x.bags.length ≤ 1048576 ∧ ∀ r ∈ x.bags, r.length ≤ 1048576
  around : x.around.length ≤ 1048576
end Go.Proofs.Ytgjlemedckhlfaa

/-
  Library functions over lists of rules and of what is put into cells: the first element of a kind. No condition.
-/
namespace Go.Proofs.Ytgjlemedckhlfaa
open Go.AI
set_option maxRecDepth 8000
set_option maxHeartbeats 1600000


end Go.Proofs.Ytgjlemedckhlfaa

/-
  Bags: what the small functions on bags of the reference and of the program compute. No condition.
-/
namespace Go.Proofs.Ytgjlemedckhlfaa
open Go.AI
set_option maxRecDepth 8000
set_option maxHeartbeats 1600000

/-- A bag for so many kinds. -/
def BagK (k : Int) (b : List Int) : Prop := Bag b ∧ (b.length : Int) = k
/-! #### The frame of a system -/
def System.Frame (s : System) : Prop := (1 ≤ s.kinds ∧ s.kinds ≤ 8) ∧ (1 ≤ s.parents.length ∧ s.parents.length ≤ 6) ∧ s.parents[0]? = some (-1) ∧ ∀ c (h : c < s.parents.length), 1 ≤ c → 0 ≤ s.parents[c] ∧ s.parents[c] ≤ (c : Int) - 1
theorem System.Frame.zero {s : System} (h : s.Frame) : s.parents[0]'(by have := h.2.1; omega) = -1 := by
  have h1 := h.2.2.1
  rw [List.getElem?_eq_getElem (by have := h.2.1; omega)] at h1
  exact Option.some.inj h1

/-- Cell c lies within cell o. -/
inductive Lies (ps : List Int) (o : Int) : Int → Prop
  | here {c p : Int} (h : ps[c.toNat]? = some p) (hp : 0 ≤ p) (e : p = o) : Lies ps o c
  | up {c p : Int} (h : ps[c.toNat]? = some p) (hp : 0 ≤ p) (t : Lies ps o p) : Lies ps o c
end Go.Proofs.Ytgjlemedckhlfaa

/-
  Rules and systems: what ValidRule and ValidSystem of the reference and of the program compute. No condition.
-/
namespace Go.Proofs.Ytgjlemedckhlfaa
open Go.AI
set_option maxRecDepth 8000
set_option maxHeartbeats 1600000

def System.IntoOk (s : System) (r : Rule) (x : Into) : Prop := (0 ≤ x.cell ∧ x.cell ≤ (s.parents.length : Int) - 1) ∧ Lies s.parents r.cell x.cell ∧ BagK s.kinds x.bag ∧ ¬ tot x.bag = 0
/-- A rule is right for a system. -/
def System.RuleOk (s : System) (r : Rule) : Prop := (0 ≤ r.cell ∧ r.cell ≤ (s.parents.length : Int) - 1) ∧ (0 ≤ r.rank ∧ r.rank ≤ 9) ∧ ¬ (r.melts = true ∧ r.cell = 0) ∧ (r.into.length : Int) ≤ 3 ∧
  BagK s.kinds r.need ∧ BagK s.kinds r.have_ ∧ BagK s.kinds r.lack ∧ BagK s.kinds r.here ∧ BagK s.kinds r.out ∧ ¬ tot r.need = 0 ∧
  ∀ i (h : i < r.into.length), s.IntoOk r r.into[i] ∧ (0 < i → r.into[i-1].cell < r.into[i].cell)
theorem BagK.bag {k : Int} {b : List Int} (h : BagK k b) : Small b := h.1.small

def Rule.bags (r : Rule) : List (List Int) := [r.need, r.have_, r.lack, r.here, r.out]

end Go.Proofs.Ytgjlemedckhlfaa

/-
  Systems: what ValidSystem of the reference and of the program compute. No condition.
-/
namespace Go.Proofs.Ytgjlemedckhlfaa
open Go.AI
set_option maxRecDepth 8000
set_option maxHeartbeats 1600000

/-- How many of some rules each cell has. -/
def cntR (c : Int) (rs : List Rule) : Int := sumF (fun r => one c r.cell) rs
/-- A system is right. -/
def System.Ok (s : System) : Prop := s.Frame ∧ s.rules.length ≤ 16 ∧ ∀ i (h : i < s.rules.length), s.RuleOk s.rules[i] ∧ cntR s.rules[i].cell (s.rules.take (i + 1)) ≤ 8

end Go.Proofs.Ytgjlemedckhlfaa

/-
  States: what ValidState and ParentNow of the reference and of the program compute. No condition.
-/
namespace Go.Proofs.Ytgjlemedckhlfaa
open Go.AI
set_option maxRecDepth 8000
set_option maxHeartbeats 1600000

def System.CellOk (s : System) (al : Option Bool) (b : List Int) : Prop := BagK s.kinds b ∧ (al = some true ∨ tot b ≤ 0)
/-- A state is right for a system. -/
def System.StateOk (s : System) (t : State) : Prop := t.alive.length = s.parents.length ∧ t.bags.length = s.parents.length ∧ t.alive[0]? = some true ∧ BagK s.kinds t.around ∧ ∀ i (h : i < t.bags.length), s.CellOk t.alive[i]? t.bags[i]
/-- The parent now of a cell, from p on. -/
def pnowF (ps : List Int) (al : List Bool) : Nat → Int → Int
  | 0, p => p
  | n + 1, p => if 0 ≤ p ∧ al[p.toNat]? = some false then pnowF ps al n (ps.getD p.toNat (-1)) else p
def pnow (s : System) (t : State) (c : Int) : Int := pnowF s.parents t.alive 6 (s.parents.getD c.toNat (-1))
theorem getD_get {α : Type} {l : List α} {i : Nat} {d : α} (h : i < l.length) : l.getD i d = l[i] := by simp [h]
def State.Lives (t : State) (c : Int) : Prop := t.alive[c.toNat]? = some true



end Go.Proofs.Ytgjlemedckhlfaa

/-
  Steps: which rules are enabled, what the reference and the program compute. No condition.
-/
namespace Go.Proofs.Ytgjlemedckhlfaa
open Go.AI
set_option maxRecDepth 8000
set_option maxHeartbeats 1600000

def Within (a b : List Int) : Prop := ∀ i (ha : i < a.length) (hb : i < b.length), a[i] ≤ b[i]

def bagOf (t : State) (c : Int) : List Int := t.bags.getD c.toNat []
def IntoNow (s : System) (t : State) (r : Rule) (x : Into) : Prop := t.Lives x.cell ∧ pnow s t x.cell = r.cell
/-- A rule is enabled. -/
def EnP (s : System) (t : State) (r : Rule) : Prop := t.Lives r.cell ∧ Within r.need (bagOf t r.cell) ∧ Within r.have_ (bagOf t r.cell) ∧ ¬ (0 < tot r.lack ∧ Within r.lack (bagOf t r.cell)) ∧ ∀ i (h : i < r.into.length), IntoNow s t r r.into[i]
end Go.Proofs.Ytgjlemedckhlfaa

/-
  Steps: which rules are applicable, what the reference and the program compute; IsHalted. No condition.
-/
namespace Go.Proofs.Ytgjlemedckhlfaa
open Go.AI
set_option maxRecDepth 8000
set_option maxHeartbeats 1600000

open Classical in
/-- The greatest rank among those of some rules that are so and that have a cell. -/
noncomputable def bst (init : Int) (en : Rule → Prop) (c : Int) : List Rule → Int
  | [] => init
  | r :: rs => bst (if en r ∧ r.cell = c then max init r.rank else init) en c rs
/-- A rule is applicable. -/
def App (s : System) (t : State) (r : Rule) : Prop := EnP s t r ∧ ∀ x ∈ s.rules, EnP s t x → x.cell = r.cell → x.rank ≤ r.rank
end Go.Proofs.Ytgjlemedckhlfaa

/-
  Steps: the program's list of applicable rules; IsHalted. No condition.
-/
namespace Go.Proofs.Ytgjlemedckhlfaa
open Go.AI
set_option maxRecDepth 8000
set_option maxHeartbeats 1600000

end Go.Proofs.Ytgjlemedckhlfaa

/-
  States: what WeighState of the reference and of the program compute. No condition.
-/
namespace Go.Proofs.Ytgjlemedckhlfaa
open Go.AI
set_option maxRecDepth 8000
set_option maxHeartbeats 1600000

end Go.Proofs.Ytgjlemedckhlfaa

/-
  Choices: what is left of the bags; IsChoice. No condition.
-/
namespace Go.Proofs.Ytgjlemedckhlfaa
open Go.AI
set_option maxRecDepth 8000
set_option maxHeartbeats 1600000

/-- The sum of a list and another one m times. -/
def plusL (a b : List Int) (m : Int) : List Int := List.zipWith (fun x y => x + y * m) a b
/-- What is left of all bags behind the first k counts. -/
def restK (s : System) (t : State) (cs : List Int) : Nat → List (List Int)
  | 0 => t.bags
  | k + 1 => (restK s t cs k).set (s.rules.getD k default).cell.toNat (plusL ((restK s t cs k).getD (s.rules.getD k default).cell.toNat []) (s.rules.getD k default).need (0 - cs.getD k 0))
/-- Counts are a choice. -/
def Ch (s : System) (t : State) (cs : List Int) : Prop := (∀ i (h : i < s.rules.length) (h2 : i < cs.length), 0 < cs[i] → App s t s.rules[i]) ∧ ∀ b ∈ restK s t cs s.rules.length, ∀ x ∈ b, 0 ≤ x
open Classical in
noncomputable def restA (s : System) (t : State) (cs : List Int) : A := if Ch s t cs then .sl ((restK s t cs s.rules.length).map (encS encI)) else .any (fun _ => True)
end Go.Proofs.Ytgjlemedckhlfaa
