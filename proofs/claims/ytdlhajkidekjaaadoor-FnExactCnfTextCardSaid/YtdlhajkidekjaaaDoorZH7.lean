/-
  The data of the laws' theme 7, as structures, and the helpers of the laws over them: sizes, copies, comparisons. No condition but that the sizes are at most 1048576.
-/
import Derived.Test.YtdlhajkidekjaaaDoorZHBase
namespace Go.Proofs.YtdlhajkidekjaaaDoor
open Go.AI
set_option maxRecDepth 8000

structure Cnf where
  vars : Int
  clauses : List (List Int)
  deriving DecidableEq, Inhabited
def encCnf (x : Cnf) : List A := [.int x.vars, .sl (x.clauses.map (encS encI))]
def szCnf (left : Int) (x : Cnf) : Int := if szSl szR left x.clauses < 0 then -1 else szSl szR left x.clauses
/-- What its size tells of it. -/
structure OkCnf (x : Cnf) : Prop where
  clauses : x.clauses.length ≤ 1048576 ∧ ∀ r ∈ x.clauses, r.length ≤ 1048576
theorem szCnf_le {left : Int} {x : Cnf} (h1 : -1 ≤ left) (h2 : left ≤ 1048576) : -1 ≤ szCnf left x ∧ szCnf left x ≤ 1048576 := by
  have l0 : -1 ≤ szSl szR left x.clauses ∧ szSl szR left x.clauses ≤ 1048576 := szSl_le (fun _ _ p q => szR_le p q) h1 h2
  unfold szCnf
  repeat' split
  all_goals first | omega | assumption
theorem szCnf_ok {left : Int} {x : Cnf} (h1 : -1 ≤ left) (h2 : left ≤ 1048576) (h : ¬ szCnf left x < 0) : OkCnf x := by
  have l0 : -1 ≤ szSl szR left x.clauses ∧ szSl szR left x.clauses ≤ 1048576 := szSl_le (fun _ _ p q => szR_le p q) h1 h2
  unfold szCnf at h
  split at h
  · exact absurd (by decide) h
  rename_i q0
  exact ⟨(szSl_ok (p := fun r => r.length ≤ 1048576) (fun _ _ p q => szR_le p q) (fun _ _ _ q r => szR_ok q r) h1 h2 q0)⟩
theorem c_szCnf (x : Cnf) (left : Int) (h1 : -1 ≤ left) (h2 : left ≤ 1048576) : Gives Tryd.prog 10 [.agg (encCnf x), .int left] (.int (szCnf left x)) := by
  have l0 : -1 ≤ szSl szR left x.clauses ∧ szSl szR left x.clauses ≤ 1048576 := szSl_le (fun _ _ p q => szR_le p q) h1 h2
  refine fn_of_run tyOk ztOk mix Tryd.func10 rfl (by decide) Tryd.ntmps10 (fun w0 h => ?_)
  repeat' (first
      | (refine j_go ?_; first
        | refine j_op0 rfl rfl rfl rfl ?_ | (refine j_kBin rfl ?_; first | refine j_in rfl rfl ⟨by omega, by omega⟩ rfl rfl ?_) | (refine j_kCall rfl rfl rfl rfl ?_; first | refine jc (c_szInt64SS _ _ (by omega) (by omega)) (LeL.refl _) rfl rfl ?_ | refine jc (c_szInt64SS _ _ (by omega) (by omega)) (by repeat' (first | exact LeL.nil | refine LeL.cons ?_ ?_ | exact Le.refl _ | exact Le.nilm _ _ | exact Le.nil _ | refine Le.agg ?_)) rfl rfl ?_) | refine j_box rfl rfl rfl rfl rfl rfl ?_)
      | refine j_nil ?_
      | (refine r_go ?_; first | refine run_seq ?_ | refine run_region ?_ | refine run_cond_t rfl ?_ | refine run_cond_f rfl ?_ | (refine (run_if rfl (fun hb => ?_) (fun hb => ?_)) <;> first | (exfalso; omega) | skip) | (refine (run_ifn rfl (fun hb => ?_) (fun hb => ?_)) <;> first | (exfalso; omega) | skip) | refine run_block ?_ | refine run_ret ?_ | refine run_exit ?_ | refine run_skip ?_ | refine run_regionD (by kernel_rfl) ?_ | refine run_condn rfl (fun hb => ?_) (fun hb => ?_) | refine run_cond rfl (fun hb => ?_) (fun hb => ?_))
      | refine seqQ_normal ?_ | refine seqQ_ret ?_ | refine seqQ_exit ?_ | refine blockQ_normal ?_ | refine blockQ_ret ?_ | refine blockQ_eq ?_ | refine blockQ_ne rfl ?_ | refine loopQ_ret ?_ | refine loopQ_exit ?_)
  all_goals exact end1 rfl (List.Sublist.refl _) (ai (by unfold szCnf; repeat' split; all_goals first | rfl | contradiction)) (.inl rfl)
theorem c_toCnf (x : Cnf) (hx : OkCnf x) : Gives Tryd.prog 12 [.agg (encCnf x)] (.agg (encCnf x)) := by
  obtain ⟨⟨k0, m0⟩⟩ := hx
  refine fn_of_run tyOk ztOk mix Tryd.func12 rfl (by decide) Tryd.ntmps12 (fun w0 h => ?_)
  repeat' (first
      | (refine j_go ?_; first
        | refine j_op0 rfl rfl rfl rfl ?_ | (refine j_kCall rfl rfl rfl rfl ?_; first | refine jc (c_toInt64SS _ (by assumption) (by assumption)) (LeL.refl _) rfl rfl ?_ | refine jc (c_toInt64SS _ (by assumption) (by assumption)) (by repeat' (first | exact LeL.nil | refine LeL.cons ?_ ?_ | exact Le.refl _ | exact Le.nilm _ _ | exact Le.nil _ | refine Le.agg ?_)) rfl rfl ?_) | (refine j_kLoad rfl ?_; first | refine j_mload 0 rfl rfl rfl rfl rfl rfl rfl ?_ | refine j_mload 1 rfl rfl rfl rfl rfl rfl rfl ?_ | refine j_mload 2 rfl rfl rfl rfl rfl rfl rfl ?_) | (refine j_kStore rfl ?_; first | refine j_store 0 rfl rfl rfl rfl rfl rfl rfl rfl rfl rfl rfl ?_ | refine j_storeN 0 rfl rfl rfl rfl rfl rfl rfl rfl rfl rfl rfl ?_ | refine j_store 1 rfl rfl rfl rfl rfl rfl rfl rfl rfl rfl rfl ?_ | refine j_storeN 1 rfl rfl rfl rfl rfl rfl rfl rfl rfl rfl rfl ?_ | refine j_store 2 rfl rfl rfl rfl rfl rfl rfl rfl rfl rfl rfl ?_ | refine j_storeN 2 rfl rfl rfl rfl rfl rfl rfl rfl rfl rfl rfl ?_) | refine j_box rfl rfl rfl rfl rfl rfl ?_ | refine j_alloc rfl rfl rfl rfl rfl (fun _ => ?_))
      | refine j_nil ?_
      | (refine r_go ?_; first | refine run_seq ?_ | refine run_region ?_ | refine run_cond_t rfl ?_ | refine run_cond_f rfl ?_ | (refine (run_if rfl (fun hb => ?_) (fun hb => ?_)) <;> first | (exfalso; omega) | skip) | (refine (run_ifn rfl (fun hb => ?_) (fun hb => ?_)) <;> first | (exfalso; omega) | skip) | refine run_block ?_ | refine run_ret ?_ | refine run_exit ?_ | refine run_skip ?_ | refine run_regionD (by kernel_rfl) ?_ | refine run_condn rfl (fun hb => ?_) (fun hb => ?_) | refine run_cond rfl (fun hb => ?_) (fun hb => ?_))
      | refine seqQ_normal ?_ | refine seqQ_ret ?_ | refine seqQ_exit ?_ | refine blockQ_normal ?_ | refine blockQ_ret ?_ | refine blockQ_eq ?_ | refine blockQ_ne rfl ?_ | refine loopQ_ret ?_ | refine loopQ_exit ?_)
  exact end_cellM rfl 1 rfl rfl sub2 (Le.refl _) (.inl rfl)
theorem c_eqCnf (x y : Cnf) : Gives Tryd.prog 14 [.agg (encCnf x), .agg (encCnf y)] (.raw (.bool (dec (x = y)))) := by
  refine fn_of_run tyOk ztOk mix Tryd.func14 rfl (by decide) Tryd.ntmps14 (fun w0 h => ?_)
  repeat' (first
      | (refine j_go ?_; first
        | refine j_op0 rfl rfl rfl rfl ?_ | (refine j_kBin rfl ?_; first | refine j_in rfl rfl ⟨by omega, by omega⟩ rfl rfl ?_) | (refine j_kCall rfl rfl rfl rfl ?_; first | refine jc (c_eqInt64SS _ _) (LeL.refl _) rfl rfl ?_ | refine jc (c_eqInt64SS _ _) (by repeat' (first | exact LeL.nil | refine LeL.cons ?_ ?_ | exact Le.refl _ | exact Le.nilm _ _ | exact Le.nil _ | refine Le.agg ?_)) rfl rfl ?_) | refine j_box rfl rfl rfl rfl rfl rfl ?_)
      | refine j_nil ?_
      | (refine r_go ?_; first | refine run_seq ?_ | refine run_region ?_ | refine run_cond_t rfl ?_ | refine run_cond_f rfl ?_ | (refine (run_if rfl (fun hb => ?_) (fun hb => ?_)) <;> first | (exfalso; omega) | skip) | (refine (run_ifn rfl (fun hb => ?_) (fun hb => ?_)) <;> first | (exfalso; omega) | skip) | refine run_block ?_ | refine run_ret ?_ | refine run_exit ?_ | refine run_skip ?_ | refine run_regionD (by kernel_rfl) ?_ | refine run_condn rfl (fun hb => ?_) (fun hb => ?_) | refine run_cond rfl (fun hb => ?_) (fun hb => ?_))
      | refine seqQ_normal ?_ | refine seqQ_ret ?_ | refine seqQ_exit ?_ | refine blockQ_normal ?_ | refine blockQ_ret ?_ | refine blockQ_eq ?_ | refine blockQ_ne rfl ?_ | refine loopQ_ret ?_ | refine loopQ_exit ?_)
  all_goals first | exact end1 rfl (List.Sublist.refl _) (rb (dec_f (fun q => hb (by rw [q]))).symm) (.inl rfl) | exact end1 rfl (List.Sublist.refl _) (rb (dec_t (by cases x; cases y; simp_all)).symm) (.inl rfl)

structure Group where
  charge : Int
  contents : List Int
  count : Int
  deriving DecidableEq, Inhabited
/-- What its size tells of it. -/
structure OkGroup (x : Group) : Prop where
  contents : x.contents.length ≤ 1048576
structure Colony where
  skin : List Int
  groups : List Group
  deriving DecidableEq, Inhabited
/-- What its size tells of it. -/
structure OkColony (x : Colony) : Prop where
  skin : x.skin.length ≤ 1048576
  groups : x.groups.length ≤ 1048576 ∧ ∀ r ∈ x.groups, OkGroup r
structure DivRule where
  kind : Int
  charge : Int
  object : Int
  to : Int
  first : List Int
  toB : Int
  second : List Int
  deriving DecidableEq, Inhabited
/-- What its size tells of it. -/
structure OkDivRule (x : DivRule) : Prop where
  first : x.first.length ≤ 1048576
  second : x.second.length ≤ 1048576
structure Division where
  objects : Int
  rules : List DivRule
  deriving DecidableEq, Inhabited
/-- What its size tells of it. -/
structure OkDivision (x : Division) : Prop where
  rules : x.rules.length ≤ 1048576 ∧ ∀ r ∈ x.rules, OkDivRule r
end Go.Proofs.YtdlhajkidekjaaaDoor
