/-
  Lists of numbers that hold what a condition picks, and answers in memory of the call's own. No condition.
-/
import Derived.Test.YtblidfklblmheaaZOB
import Derived.Test.YtblidfklblmheaaZM
namespace Go.Proofs.Ytblidfklblmheaa
open Go.AI

open Classical in
/-- A list where a condition holds, else the empty one. -/
noncomputable def lsP (p : Prop) (l : List Int) : List Int := if p then l else []
theorem ls_t {p : Prop} (h : p) (l : List Int) : lsP p l = l := by unfold lsP; rw [if_pos h]
theorem ls_f {p : Prop} (h : ¬p) (l : List Int) : lsP p l = [] := by unfold lsP; rw [if_neg h]
theorem ls_len {p : Prop} {l : List Int} {n : Nat} (h : p → l.length ≤ n) : (lsP p l).length ≤ n := by
  by_cases q : p
  · rw [ls_t q]; exact h q
  · rw [ls_f q]; exact Nat.zero_le _
/-- What a call hands back that answers with a list of numbers in memory of its own, and a code. -/
def OwnI (l : List Int) (c : Int) : A → Heap → Prop := fun v h' => ∃ b cap, v = .tup [.os b l.length cap, .int c] ∧ h' = [⟨b, 2, cap * 1, (l.map encI).flatten⟩]
/-- The numbers below k of which p holds. -/
noncomputable def selL (p : Nat → Prop) (k : Nat) : List Int := ((List.range k).filter (fun i => dec (p i))).map (fun i : Nat => (i : Int))
theorem selL_yes {p : Nat → Prop} {k : Nat} (h : p k) : selL p k ++ [(k : Int)] = selL p (k + 1) := by
  unfold selL
  rw [List.range_succ, List.filter_append, List.map_append, List.filter_cons_of_pos (by exact dec_t h)]
  rfl
theorem selL_no {p : Nat → Prop} {k : Nat} (h : ¬ p k) : selL p k = selL p (k + 1) := by
  unfold selL
  rw [List.range_succ, List.filter_append, List.map_append, List.filter_cons_of_neg (by rw [dec_f h]; simp)]
  simp
theorem selL_len (p : Nat → Prop) (k : Nat) : (selL p k).length ≤ k := by
  unfold selL
  rw [List.length_map]
  exact Nat.le_trans (List.length_filter_le _ _) (by simp)

end Go.Proofs.Ytblidfklblmheaa
