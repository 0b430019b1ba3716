/-
  Lists of numbers that hold what a condition picks, and answers in memory of the call's own. No condition.
-/
import Derived.Test.YtblidfklblmheaaZOB
import Derived.Test.YtblidfklblmheaaZM
namespace Go.Proofs.Ytblidfklblmheaa
open Go.AI

open Classical in
/-- A list where a condition holds, else the empty one. -/
noncomputable def lsP (p : Prop) (l : List Int) : List Int := if p then l else []
theorem ls_t {p : Prop} (h : p) (l : List Int) : lsP p l = l := by unfold lsP; rw [if_pos h]
theorem ls_f {p : Prop} (h : ¬p) (l : List Int) : lsP p l = [] := by unfold lsP; rw [if_neg h]
theorem ls_len {p : Prop} {l : List Int} {n : Nat} (h : p → l.length ≤ n) : (lsP p l).length ≤ n := by
  by_cases q : p
  · rw [ls_t q]; exact h q
  · rw [ls_f q]; exact Nat.zero_le _
/-- What a call hands back that answers with a list of numbers in memory of its own, and a code. -/
def OwnI (l : List Int) (c : Int) : A → Heap → Prop := fun v h' => ∃ b cap, v = .tup [.os b l.length cap, .int c] ∧ h' = [⟨b, 2, cap * 1, (l.map encI).flatten⟩]
end Go.Proofs.Ytblidfklblmheaa
