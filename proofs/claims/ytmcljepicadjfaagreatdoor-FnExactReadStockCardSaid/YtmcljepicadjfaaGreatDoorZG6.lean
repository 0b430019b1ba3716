/-
  Systems: what ValidSystem of the reference and of the program compute. No condition.
-/
import Derived.Test.YtmcljepicadjfaaGreatDoorZS2b
import Derived.Test.YtmcljepicadjfaaGreatDoorZVC
import Derived.Test.YtmcljepicadjfaaGreatDoorZOB
import Derived.Test.YtmcljepicadjfaaGreatDoorZE2
import Derived.Test.YtmcljepicadjfaaGreatDoorZRf
namespace Go.Proofs.YtmcljepicadjfaaGreatDoor
open Go.AI
set_option maxRecDepth 8000
set_option maxHeartbeats 1600000

/-- How many of some rules each cell has. -/
def cntR (c : Int) (rs : List Rule) : Int := sumF (fun r => one c r.cell) rs
/-- A system is right. -/
def System.Ok (s : System) : Prop := s.Frame ∧ s.rules.length ≤ 16 ∧ ∀ i (h : i < s.rules.length), s.RuleOk s.rules[i] ∧ cntR s.rules[i].cell (s.rules.take (i + 1)) ≤ 8




end Go.Proofs.YtmcljepicadjfaaGreatDoor

/-
  States: what ValidState and ParentNow of the reference and of the program compute. No condition.
-/
namespace Go.Proofs.YtmcljepicadjfaaGreatDoor
open Go.AI
set_option maxRecDepth 8000
set_option maxHeartbeats 1600000

def System.CellOk (s : System) (al : Option Bool) (b : List Int) : Prop := BagK s.kinds b ∧ (al = some true ∨ tot b ≤ 0)
/-- A state is right for a system. -/
def System.StateOk (s : System) (t : State) : Prop := t.alive.length = s.parents.length ∧ t.bags.length = s.parents.length ∧ t.alive[0]? = some true ∧ BagK s.kinds t.around ∧ ∀ i (h : i < t.bags.length), s.CellOk t.alive[i]? t.bags[i]
theorem al_t {l : List Bool} {i : Nat} {h : i < l.length} (e : l[i] = true) : l[i]? = some true := by rw [List.getElem?_eq_getElem h, e]
theorem al_t' {l : List Bool} {i : Nat} {h : i < l.length} (e : (!l[i]) = false) : l[i]? = some true := al_t (h := h) (by simpa using e)
theorem al_f' {l : List Bool} {i : Nat} {h : i < l.length} (e : (!l[i]) = true) : ¬ l[i]? = some true := by rw [List.getElem?_eq_getElem h]; simp at e; simp [e]
theorem al_f {l : List Bool} {i : Nat} {h : i < l.length} (e : l[i] = false) : ¬ l[i]? = some true := by rw [List.getElem?_eq_getElem h, e]; simp




/-- The parent now of a cell, from p on. -/
def pnowF (ps : List Int) (al : List Bool) : Nat → Int → Int
  | 0, p => p
  | n + 1, p => if 0 ≤ p ∧ al[p.toNat]? = some false then pnowF ps al n (ps.getD p.toNat (-1)) else p
def pnow (s : System) (t : State) (c : Int) : Int := pnowF s.parents t.alive 6 (s.parents.getD c.toNat (-1))
def State.Lives (t : State) (c : Int) : Prop := t.alive[c.toNat]? = some true



end Go.Proofs.YtmcljepicadjfaaGreatDoor

/-
  Steps: which rules are enabled, what the reference and the program compute. No condition.
-/
namespace Go.Proofs.YtmcljepicadjfaaGreatDoor
open Go.AI
set_option maxRecDepth 8000
set_option maxHeartbeats 1600000

def Within (a b : List Int) : Prop := ∀ i (ha : i < a.length) (hb : i < b.length), a[i] ≤ b[i]


def bagOf (t : State) (c : Int) : List Int := t.bags.getD c.toNat []
def IntoNow (s : System) (t : State) (r : Rule) (x : Into) : Prop := t.Lives x.cell ∧ pnow s t x.cell = r.cell
/-- A rule is enabled. -/
def EnP (s : System) (t : State) (r : Rule) : Prop := t.Lives r.cell ∧ Within r.need (bagOf t r.cell) ∧ Within r.have_ (bagOf t r.cell) ∧ ¬ (0 < tot r.lack ∧ Within r.lack (bagOf t r.cell)) ∧ ∀ i (h : i < r.into.length), IntoNow s t r r.into[i]
end Go.Proofs.YtmcljepicadjfaaGreatDoor

/-
  Steps: which rules are applicable, what the reference and the program compute; IsHalted. No condition.
-/
namespace Go.Proofs.YtmcljepicadjfaaGreatDoor
open Go.AI
set_option maxRecDepth 8000
set_option maxHeartbeats 1600000

open Classical in
/-- The greatest rank among those of some rules that are so and that have a cell. -/
noncomputable def bst (init : Int) (en : Rule → Prop) (c : Int) : List Rule → Int
  | [] => init
  | r :: rs => bst (if en r ∧ r.cell = c then max init r.rank else init) en c rs
/-- A rule is applicable. -/
def App (s : System) (t : State) (r : Rule) : Prop := EnP s t r ∧ ∀ x ∈ s.rules, EnP s t x → x.cell = r.cell → x.rank ≤ r.rank
end Go.Proofs.YtmcljepicadjfaaGreatDoor

/-
  Steps: the program's list of applicable rules; IsHalted. No condition.
-/
namespace Go.Proofs.YtmcljepicadjfaaGreatDoor
open Go.AI
set_option maxRecDepth 8000
set_option maxHeartbeats 1600000

end Go.Proofs.YtmcljepicadjfaaGreatDoor

/-
  States: what WeighState of the reference and of the program compute. No condition.
-/
namespace Go.Proofs.YtmcljepicadjfaaGreatDoor
open Go.AI
set_option maxRecDepth 8000
set_option maxHeartbeats 1600000

end Go.Proofs.YtmcljepicadjfaaGreatDoor

/-
  Choices: what is left of the bags; IsChoice. No condition.
-/
namespace Go.Proofs.YtmcljepicadjfaaGreatDoor
open Go.AI
set_option maxRecDepth 8000
set_option maxHeartbeats 1600000

/-- The sum of a list and another one m times. -/
def plusL (a b : List Int) (m : Int) : List Int := List.zipWith (fun x y => x + y * m) a b
/-- What is left of all bags behind the first k counts. -/
def restK (s : System) (t : State) (cs : List Int) : Nat → List (List Int)
  | 0 => t.bags
  | k + 1 => (restK s t cs k).set (s.rules.getD k default).cell.toNat (plusL ((restK s t cs k).getD (s.rules.getD k default).cell.toNat []) (s.rules.getD k default).need (0 - cs.getD k 0))
/-- Counts are a choice. -/
def Ch (s : System) (t : State) (cs : List Int) : Prop := (∀ i (h : i < s.rules.length) (h2 : i < cs.length), 0 < cs[i] → App s t s.rules[i]) ∧ ∀ b ∈ restK s t cs s.rules.length, ∀ x ∈ b, 0 ≤ x
open Classical in
noncomputable def restA (s : System) (t : State) (cs : List Int) : A := if Ch s t cs then .sl ((restK s t cs s.rules.length).map (encS Go.AI.encI)) else .any (fun _ => True)
theorem Le.tup2 {a b c : A} (h : Le a c) : Le (.tup [a, b]) (.tup [c, b]) := fun S w x r => by
  cases r with
  | tup cs vs hl hr =>
    refine .tup _ vs hl (fun j hj hj' => ?_)
    cases j with
    | zero => exact h _ _ _ (hr 0 (by simp) hj')
    | succ j => exact hr (j + 1) (by simpa using hj) hj'
end Go.Proofs.YtmcljepicadjfaaGreatDoor

/-
  Choices: what the program computes of them; IsChoice, IsMaximal. No condition.
-/
namespace Go.Proofs.YtmcljepicadjfaaGreatDoor
open Go.AI
set_option maxRecDepth 8000
set_option maxHeartbeats 1600000

/-- All rules that are counted are applicable. -/
def AllApp (s : System) (t : State) (cs : List Int) : Prop := ∀ i (h : i < s.rules.length) (h2 : i < cs.length), 0 < cs[i] → App s t s.rules[i]
open Classical in
noncomputable def restI (s : System) (t : State) (cs : List Int) : A := if AllApp s t cs then .sl ((restK s t cs s.rules.length).map (encS Go.AI.encI)) else .os none 0 0
end Go.Proofs.YtmcljepicadjfaaGreatDoor

/-
  Lists of numbers that hold what a condition picks, and answers in memory of the call's own. No condition.
-/
namespace Go.Proofs.YtmcljepicadjfaaGreatDoor
open Go.AI

open Classical in
/-- A list where a condition holds, else the empty one. -/
noncomputable def lsP (p : Prop) (l : List Int) : List Int := if p then l else []
end Go.Proofs.YtmcljepicadjfaaGreatDoor

/-
  The bag of all objects, on both sides: TotalBag. No condition.
-/
namespace Go.Proofs.YtmcljepicadjfaaGreatDoor
open Go.AI
set_option maxRecDepth 8000
set_option maxHeartbeats 1600000

/-- A list in memory of the call's own. -/
def OwnL (l : List Int) : A → Heap → Prop := fun v h' => ∃ b cap, v = .os b l.length cap ∧ h' = [⟨b, 2, cap * 1, (l.map Go.AI.encI).flatten⟩]
theorem OwnL.clo {l : List Int} {v : A} {h1 : Heap} (q : OwnL l v h1) : Clo v ∧ CloH h1 := by
  obtain ⟨b, cap, rfl, rfl⟩ := q
  exact ⟨Clo.os _ _ _, CloH.cons (CloL.mapInt _ _) CloH.nil⟩

theorem bagk_self {l : List Int} : BagK (l.length : Int) l ↔ Bag l := ⟨fun q => q.1, fun q => ⟨q, rfl⟩⟩
theorem c_isBag (l : List Int) : Gives Tryz.prog 92 [.sl (l.map Go.AI.encI)] (.raw (.bool (dec (Bag l)))) := by
  refine fn_of_run tyOk ztOk mix Tryz.func92 rfl (by decide) Tryz.ntmps92 (fun w0 h => ?_)
  repeat' (first
      | (refine j_go ?_; first
        | refine j_op0 rfl rfl rfl rfl ?_ | (refine j_kCall rfl rfl rfl rfl ?_; first | refine jc (c_sizeI _) (LeL.refl _) rfl rfl ?_ | refine jc (c_ValidBag _ _) (LeL.refl _) rfl rfl ?_))
      | refine j_nil ?_
      | (refine r_go ?_; first | refine run_seq ?_ | refine run_region ?_ | refine run_ret ?_)
      | refine seqQ_normal ?_)
  exact end1 rfl (List.Sublist.refl _) (rbD bagk_self) (.inl rfl)

open Classical in
noncomputable def cdL (p : Prop) : Int := if p then 0 else 3
/-- All objects of what is around and of the first k cells. -/
def totK (t : State) : Nat → List Int
  | 0 => t.around
  | k + 1 => plusL (totK t k) (t.bags.getD k []) 1
open Classical in
noncomputable def codeTotalBag (s : System) (t : State) : Int := if s.Ok ∧ s.StateOk t then cdL (Bag (totK t t.bags.length)) else 1
end Go.Proofs.YtmcljepicadjfaaGreatDoor

/-
  The data of the laws' theme 6, as structures, and the helpers of the laws over them: sizes, copies, comparisons. No condition but that the sizes are at most 1048576.
-/
namespace Go.Proofs.YtmcljepicadjfaaGreatDoor
open Go.AI
set_option maxRecDepth 8000

structure PassRule where
  cell : Int
  out : List Int
  in_ : List Int
  deriving DecidableEq, Inhabited
def encPassRule (x : PassRule) : List A := [.int x.cell, .sl (x.out.map Go.AI.encI), .sl (x.in_.map Go.AI.encI)]
def szPassRule (left : Int) (x : PassRule) : Int := if szR left x.out < 0 then -1 else if szR (szR left x.out) x.in_ < 0 then -1 else szR (szR left x.out) x.in_
/-- What its size tells of it. -/
structure OkPassRule (x : PassRule) : Prop where
  out : x.out.length ≤ 1048576
  in_ : x.in_.length ≤ 1048576
theorem szPassRule_le {left : Int} {x : PassRule} (h1 : -1 ≤ left) (h2 : left ≤ 1048576) : -1 ≤ szPassRule left x ∧ szPassRule left x ≤ 1048576 := by
  have l0 : -1 ≤ szR left x.out ∧ szR left x.out ≤ 1048576 := szR_le h1 h2
  have l1 : -1 ≤ szR (szR left x.out) x.in_ ∧ szR (szR left x.out) x.in_ ≤ 1048576 := szR_le l0.1 l0.2
  unfold szPassRule
  repeat' split
  all_goals first | omega | assumption
theorem szPassRule_ok {left : Int} {x : PassRule} (h1 : -1 ≤ left) (h2 : left ≤ 1048576) (h : ¬ szPassRule left x < 0) : OkPassRule x := by
  have l0 : -1 ≤ szR left x.out ∧ szR left x.out ≤ 1048576 := szR_le h1 h2
  have l1 : -1 ≤ szR (szR left x.out) x.in_ ∧ szR (szR left x.out) x.in_ ≤ 1048576 := szR_le l0.1 l0.2
  unfold szPassRule at h
  split at h
  · exact absurd (by decide) h
  rename_i q0
  split at h
  · exact absurd (by decide) h
  rename_i q1
  exact ⟨(szR_ok h2 q0), (szR_ok l0.2 q1)⟩
theorem c_szPassRule (x : PassRule) (left : Int) (h1 : -1 ≤ left) (h2 : left ≤ 1048576) : Gives Tryz.prog 100 [.agg (encPassRule x), .int left] (.int (szPassRule left x)) := by
  have l0 : -1 ≤ szR left x.out ∧ szR left x.out ≤ 1048576 := szR_le h1 h2
  have l1 : -1 ≤ szR (szR left x.out) x.in_ ∧ szR (szR left x.out) x.in_ ≤ 1048576 := szR_le l0.1 l0.2
  refine fn_of_run tyOk ztOk mix Tryz.func100 rfl (by decide) Tryz.ntmps100 (fun w0 h => ?_)
  repeat' (first
      | (refine j_go ?_; first
        | refine j_op0 rfl rfl rfl rfl ?_ | (refine j_kCall rfl rfl rfl rfl ?_; first | refine jc (c_szInt64S _ _ (by omega) (by omega)) (LeL.refl _) rfl rfl ?_) | refine j_box rfl rfl rfl rfl rfl rfl ?_)
      | refine j_nil ?_
      | (refine r_go ?_; first | refine run_seq ?_ | refine run_region ?_ | (refine (run_if rfl (fun hb => ?_) (fun hb => ?_)) <;> first | (exfalso; omega) | skip) | refine run_ret ?_ | refine run_skip ?_)
      | refine seqQ_normal ?_ | refine seqQ_ret ?_)
  all_goals exact end1 rfl (List.Sublist.refl _) (ai (by unfold szPassRule; repeat' split; all_goals first | rfl | contradiction)) (.inl rfl)
theorem c_toPassRule (x : PassRule) (hx : OkPassRule x) : Gives Tryz.prog 103 [.agg (encPassRule x)] (.agg (encPassRule x)) := by
  obtain ⟨k0, k1⟩ := hx
  refine fn_of_run tyOk ztOk mix Tryz.func103 rfl (by decide) Tryz.ntmps103 (fun w0 h => ?_)
  repeat' (first
      | (refine j_go ?_; first
        | refine j_op0 rfl rfl rfl rfl ?_ | (refine j_kCall rfl rfl rfl rfl ?_; first | refine jc (c_toInt64S _ (by assumption)) (LeL.refl _) rfl rfl ?_) | (refine j_kLoad rfl ?_; first | refine j_mload 0 rfl rfl rfl rfl rfl rfl rfl ?_) | (refine j_kStore rfl ?_; first | refine j_store 0 rfl rfl rfl rfl rfl rfl rfl rfl rfl rfl rfl ?_ | refine j_storeN 1 rfl rfl rfl rfl rfl rfl rfl rfl rfl rfl rfl ?_) | refine j_box rfl rfl rfl rfl rfl rfl ?_ | refine j_alloc rfl rfl rfl rfl rfl (fun _ => ?_))
      | refine j_nil ?_
      | (refine r_go ?_; first | refine run_seq ?_ | refine run_region ?_ | refine run_ret ?_)
      | refine seqQ_normal ?_)
  exact end_cellM rfl 1 rfl rfl sub2 (Le.refl _) (.inl rfl)
theorem c_eqPassRule (x y : PassRule) : Gives Tryz.prog 99 [.agg (encPassRule x), .agg (encPassRule y)] (.raw (.bool (dec (x = y)))) := by
  refine fn_of_run tyOk ztOk mix Tryz.func99 rfl (by decide) Tryz.ntmps99 (fun w0 h => ?_)
  repeat' (first
      | (refine j_go ?_; first
        | refine j_op0 rfl rfl rfl rfl ?_ | (refine j_kCall rfl rfl rfl rfl ?_; first | refine jc (c_eqInt64S _ _) (LeL.refl _) rfl rfl ?_) | refine j_box rfl rfl rfl rfl rfl rfl ?_)
      | refine j_nil ?_
      | (refine r_go ?_; first | refine run_seq ?_ | refine run_region ?_ | (refine (run_ifn rfl (fun hb => ?_) (fun hb => ?_)) <;> first | (exfalso; omega) | skip) | refine run_ret ?_ | refine run_skip ?_)
      | refine seqQ_normal ?_ | refine seqQ_ret ?_)
  all_goals first | exact end1 rfl (List.Sublist.refl _) (rb (dec_f (fun q => hb (by rw [q]))).symm) (.inl rfl) | exact end1 rfl (List.Sublist.refl _) (rb (dec_t (by cases x; cases y; simp_all)).symm) (.inl rfl)
theorem c_szPassRuleS (l : List (PassRule)) (left : Int) (h1 : -1 ≤ left) (h2 : left ≤ 1048576) : Gives Tryz.prog 70 [.sl (l.map encPassRule), .int left] (.int (szSl szPassRule left l)) := by
  refine fn_of_run tyOk ztOk mix Tryz.func70 rfl (by decide) Tryz.ntmps70 (fun w0 h => ?_)
  refine run_len (t := 0) rfl (fun hl => ?_)
  rw [List.length_map] at hl
  repeat' (first
      | (refine j_go ?_; first
        | refine j_op0 rfl rfl rfl rfl ?_ | (refine j_kBin rfl ?_; first | refine j_in rfl rfl ⟨by omega, by omega⟩ rfl rfl ?_) | (refine j_kLen rfl ?_; first | refine j_len rfl rfl rfl rfl rfl rfl ?_))
      | refine j_nil ?_
      | (refine r_go ?_; first | refine run_seq ?_ | refine run_region ?_ | (refine (run_if rfl (fun hb => ?_) (fun hb => ?_)) <;> first | (exfalso; omega) | skip) | refine run_block ?_ | refine run_ret ?_ | refine run_skip ?_)
      | refine seqQ_normal ?_ | refine seqQ_ret ?_)
  · exact end1 rfl (List.Sublist.refl _) (by unfold szSl; rw [if_pos hb]; rfl) (.inl rfl)
  · unfold szSl
    rw [if_neg hb]
    refine run_loop (fun s : Nat × Int => [(0, .sl (l.map encPassRule)), (1, .int s.2), (5, .int (s.1 : Int))]) (fun _ => h)
      (fun s => s.1 ≤ l.length ∧ (-1 ≤ s.2 ∧ s.2 ≤ 1048576) ∧ szL szPassRule (left - l.length) l = szL szPassRule s.2 (l.drop s.1)) (fun s => l.length - s.1) (0, left - l.length) ⟨rfl, rfl, rfl, trivial⟩ rfl ⟨by omega, by omega, rfl⟩ ?_
    intro ⟨k, s⟩ ⟨g1, g2, g3⟩
    dsimp only at g1 g2 g3 ⊢
    have gn : ∀ (hk : k < l.length), szL szPassRule s (l.drop k) = if szPassRule s l[k] < 0 then -1 else szL szPassRule (szPassRule s l[k]) (l.drop (k + 1)) := fun hk => by
      rw [List.drop_eq_getElem_cons hk, szL]
    repeat' (first
      | (refine j_go ?_; first
        | refine j_op0 rfl rfl rfl rfl ?_ | (refine j_kIdx rfl ?_; first | refine j_idx rfl rfl rfl rfl rfl (by omega) rfl rfl rfl ?_) | (refine j_kBin rfl ?_; first | refine j_in rfl rfl ⟨by omega, by omega⟩ rfl rfl ?_) | (refine j_kLen rfl ?_; first | refine j_len rfl rfl rfl rfl rfl rfl ?_) | (refine j_kCall rfl rfl rfl rfl ?_; first | refine jc (c_szPassRule _ _ (by omega) (by omega)) (LeL.refl _) rfl rfl ?_))
      | refine j_nil ?_
      | (refine r_go ?_; first | refine run_seq ?_ | refine run_region ?_ | (refine (run_if rfl (fun hb => ?_) (fun hb => ?_)) <;> first | (exfalso; omega) | skip) | refine run_block ?_ | refine run_ret ?_ | refine run_exit ?_ | refine run_skip ?_)
      | refine seqQ_normal ?_ | refine seqQ_ret ?_ | refine seqQ_exit ?_ | refine blockQ_normal ?_ | refine blockQ_ret ?_ | refine blockQ_eq ?_ | refine loopQ_ret ?_ | refine loopQ_exit ?_)
    · rename_i hk
      exact end1 rfl (List.Sublist.refl _) (by rw [g3, gn (by omega), if_pos hb]; rfl) (.inl rfl)
    · rename_i hk
      have hk' : k < l.length := by omega
      exact loopQ_next (k + 1, szPassRule s l[k]) ⟨by dsimp only; omega, szPassRule_le (by omega) (by omega), by rw [g3, gn hk', if_neg hb]⟩ (by dsimp only; omega) rfl ⟨rfl, rfl, nx _, trivial⟩
    · have : k = l.length := by omega
      subst this
      exact end1 rfl (List.Sublist.refl _) (by rw [g3, List.drop_length, szL]) (.inl rfl)
theorem c_toPassRuleS (l : List (PassRule)) (hl : l.length ≤ 1048576) (hl2 : ∀ x ∈ l, (OkPassRule) x) : Gives Tryz.prog 77 [.sl (l.map encPassRule)] (.sl (l.map encPassRule)) := by
  refine fn_of_run tyOk ztOk mix Tryz.func77 rfl (by decide) Tryz.ntmps77 (fun w0 h => ?_)
  repeat' (first
      | (refine j_go ?_; first
        | refine j_op0 rfl rfl rfl rfl ?_ | (refine j_kLen rfl ?_; first | refine j_len rfl rfl rfl rfl rfl rfl ?_))
      | refine j_nil ?_
      | (refine r_go ?_; first | refine run_seq ?_ | refine run_region ?_)
      | refine seqQ_normal ?_)
  refine j_makeI (g := encPassRule) (⟨0, [], []⟩ : PassRule) rfl rfl rfl rfl rfl rfl rfl rfl rfl (by omega) rfl rfl (fun b => ?_)
  repeat' (first
      | (refine j_go ?_; first
        | refine j_op0 rfl rfl rfl rfl ?_)
      | refine j_nil ?_
      | (refine r_go ?_; first | refine run_seq ?_ | refine run_region ?_ | refine run_block ?_)
      | refine seqQ_normal ?_)
  refine run_loop (fun k : Nat => [(0, .sl (l.map encPassRule)), (3, .os (some b) l.length l.length), (4, .int (k : Int))]) (fun k => ⟨some b, 75, l.length * 3, ((l.take k ++ List.replicate (l.length - k) (⟨0, [], []⟩ : PassRule)).map encPassRule).flatten⟩ :: h)
      (fun k => k ≤ l.length) (fun k => l.length - k) 0 ⟨rfl, rfl, rfl, trivial⟩ (by simp) (by omega) ?_
  intro k g1
  repeat' (first
      | (refine j_go ?_; first
        | refine j_op0 rfl rfl rfl rfl ?_ | (refine j_kIdx rfl ?_; first | refine j_idx rfl rfl rfl rfl rfl (by omega) rfl rfl rfl ?_ | refine j_midx rfl rfl rfl rfl rfl (by first | omega | (simp only [List.length_append, List.length_cons, List.length_nil]; omega)) rfl rfl ?_) | (refine j_kLen rfl ?_; first | refine j_len rfl rfl rfl rfl rfl rfl ?_) | (refine j_kCall rfl rfl rfl rfl ?_; first | refine jc (c_toPassRule _ (hl2 _ (List.getElem_mem _))) (LeL.refl _) rfl rfl ?_))
      | refine j_nil ?_
      | (refine r_go ?_; first | refine run_seq ?_ | refine run_region ?_ | (refine (run_if rfl (fun hb => ?_) (fun hb => ?_)) <;> first | (exfalso; omega) | skip) | refine run_block ?_ | refine run_ret ?_ | refine run_exit ?_ | refine run_skip ?_)
      | refine seqQ_normal ?_ | refine seqQ_exit ?_ | refine blockQ_eq ?_ | refine loopQ_exit ?_)
  · have hk : k < l.length := by omega
    refine j_storeE 0 k (g := encPassRule) l[k] rfl rfl rfl rfl rfl rfl rfl rfl rfl (fun _ => rfl : ∀ y, (encPassRule y).length = 3) rfl (by simp; omega) ?_
    repeat' (first
      | (refine j_go ?_; first
        | refine j_op0 rfl rfl rfl rfl ?_ | (refine j_kBin rfl ?_; first | refine j_in rfl rfl ⟨by omega, by omega⟩ rfl rfl ?_))
      | refine j_nil ?_
      | (refine r_go ?_; first | refine run_region ?_)
      | refine seqQ_normal ?_ | refine blockQ_normal ?_)
    exact loopQ_next (k + 1) (by omega) (by omega) (by rw [← take_rep_set hk]; rfl) ⟨rfl, rfl, nx _, trivial⟩
  · have : k = l.length := by omega
    subst this
    refine end_view (view_freeze (g := encPassRule) (z := 3) (ys := l) 0 2 rfl rfl (by simp) (fun _ => rfl : ∀ y, (encPassRule y).length = 3) rfl rfl) ?_
    exact end1 rfl (List.Sublist.refl _) rfl (.inl rfl)
theorem c_eqPassRuleS (a b : List (PassRule)) : Gives Tryz.prog 61 [.sl (a.map encPassRule), .sl (b.map encPassRule)] (.raw (.bool (dec (a = b)))) := by
  refine fn_of_run tyOk ztOk mix Tryz.func61 rfl (by decide) Tryz.ntmps61 (fun w0 h => ?_)
  refine run_len (t := 0) rfl (fun hla => ?_)
  refine run_len (t := 1) rfl (fun hlb => ?_)
  rw [List.length_map] at hla hlb
  repeat' (first
      | (refine j_go ?_; first
        | refine j_op0 rfl rfl rfl rfl ?_ | (refine j_kLen rfl ?_; first | refine j_len rfl rfl rfl rfl rfl rfl ?_))
      | refine j_nil ?_
      | (refine r_go ?_; first | refine run_seq ?_ | refine run_region ?_ | (refine (run_ifn rfl (fun hb => ?_) (fun hb => ?_)) <;> first | (exfalso; omega) | skip) | refine run_block ?_ | refine run_ret ?_ | refine run_skip ?_)
      | refine seqQ_normal ?_ | refine seqQ_ret ?_)
  · exact end1 rfl (List.Sublist.refl _) (rb (dec_f (fun q => hb (by rw [q]))).symm) (.inl rfl)
  · have hn : a.length = b.length := by omega
    refine run_loop (fun k : Nat => [(0, .sl (a.map encPassRule)), (1, .sl (b.map encPassRule)), (5, .int (k : Int))]) (fun _ => h) (fun k => k ≤ a.length ∧ a.take k = b.take k) (fun k => a.length - k) 0 ⟨rfl, rfl, rfl, trivial⟩ rfl ⟨by omega, rfl⟩ ?_
    intro k ⟨g1, g2⟩
    repeat' (first
      | (refine j_go ?_; first
        | refine j_op0 rfl rfl rfl rfl ?_ | (refine j_kIdx rfl ?_; first | refine j_idx rfl rfl rfl rfl rfl (by omega) rfl rfl rfl ?_) | (refine j_kBin rfl ?_; first | refine j_in rfl rfl ⟨by omega, by omega⟩ rfl rfl ?_) | (refine j_kLen rfl ?_; first | refine j_len rfl rfl rfl rfl rfl rfl ?_) | (refine j_kCall rfl rfl rfl rfl ?_; first | refine jc (c_eqPassRule _ _) (LeL.refl _) rfl rfl ?_))
      | refine j_nil ?_
      | (refine r_go ?_; first | refine run_seq ?_ | refine run_region ?_ | (refine (run_if rfl (fun hb => ?_) (fun hb => ?_)) <;> first | (exfalso; omega) | skip) | (refine (run_ifn rfl (fun hb => ?_) (fun hb => ?_)) <;> first | (exfalso; omega) | skip) | refine run_block ?_ | refine run_ret ?_ | refine run_exit ?_ | refine run_skip ?_ | refine run_regionD (by kernel_rfl) ?_)
      | refine seqQ_normal ?_ | refine seqQ_ret ?_ | refine seqQ_exit ?_ | refine blockQ_normal ?_ | refine blockQ_ret ?_ | refine blockQ_eq ?_ | refine loopQ_ret ?_ | refine loopQ_exit ?_)
    · exact end1 rfl (List.Sublist.refl _) (rb (dec_f (fun q => hb (by subst q; rfl))).symm) (.inl rfl)
    · exact loopQ_next (k + 1) ⟨by omega, take_eq_succ g2 (by omega) (by omega) hb⟩ (by omega) rfl ⟨rfl, rfl, nx _, trivial⟩
    · have hk : k = a.length := by omega
      subst hk
      exact end1 rfl (List.Sublist.refl _) (rb (dec_t (by rw [List.take_length, hn, List.take_length] at g2; exact g2)).symm) (.inl rfl)

structure Passing where
  kinds : Int
  parents : List Int
  free : List Bool
  rules : List PassRule
  deriving DecidableEq, Inhabited
def encPassing (x : Passing) : List A := [.int x.kinds, .sl (x.parents.map Go.AI.encI), .sl (x.free.map encB), .sl (x.rules.map encPassRule)]
def szPassing (left : Int) (x : Passing) : Int := if szR left x.parents < 0 then -1 else if szR (szR left x.parents) x.free < 0 then -1 else if szSl szPassRule (szR (szR left x.parents) x.free) x.rules < 0 then -1 else szSl szPassRule (szR (szR left x.parents) x.free) x.rules
/-- What its size tells of it. -/
structure OkPassing (x : Passing) : Prop where
  parents : x.parents.length ≤ 1048576
  free : x.free.length ≤ 1048576
  rules : x.rules.length ≤ 1048576 ∧ ∀ r ∈ x.rules, OkPassRule r
theorem szPassing_le {left : Int} {x : Passing} (h1 : -1 ≤ left) (h2 : left ≤ 1048576) : -1 ≤ szPassing left x ∧ szPassing left x ≤ 1048576 := by
  have l0 : -1 ≤ szR left x.parents ∧ szR left x.parents ≤ 1048576 := szR_le h1 h2
  have l1 : -1 ≤ szR (szR left x.parents) x.free ∧ szR (szR left x.parents) x.free ≤ 1048576 := szR_le l0.1 l0.2
  have l2 : -1 ≤ szSl szPassRule (szR (szR left x.parents) x.free) x.rules ∧ szSl szPassRule (szR (szR left x.parents) x.free) x.rules ≤ 1048576 := szSl_le (fun _ _ p q => szPassRule_le p q) l1.1 l1.2
  unfold szPassing
  repeat' split
  all_goals first | omega | assumption
theorem szPassing_ok {left : Int} {x : Passing} (h1 : -1 ≤ left) (h2 : left ≤ 1048576) (h : ¬ szPassing left x < 0) : OkPassing x := by
  have l0 : -1 ≤ szR left x.parents ∧ szR left x.parents ≤ 1048576 := szR_le h1 h2
  have l1 : -1 ≤ szR (szR left x.parents) x.free ∧ szR (szR left x.parents) x.free ≤ 1048576 := szR_le l0.1 l0.2
  have l2 : -1 ≤ szSl szPassRule (szR (szR left x.parents) x.free) x.rules ∧ szSl szPassRule (szR (szR left x.parents) x.free) x.rules ≤ 1048576 := szSl_le (fun _ _ p q => szPassRule_le p q) l1.1 l1.2
  unfold szPassing at h
  split at h
  · exact absurd (by decide) h
  rename_i q0
  split at h
  · exact absurd (by decide) h
  rename_i q1
  split at h
  · exact absurd (by decide) h
  rename_i q2
  exact ⟨(szR_ok h2 q0), (szR_ok l0.2 q1), (szSl_ok (p := OkPassRule) (fun _ _ p q => szPassRule_le p q) (fun _ _ p q r => szPassRule_ok p q r) l1.1 l1.2 q2)⟩
theorem c_szPassing (x : Passing) (left : Int) (h1 : -1 ≤ left) (h2 : left ≤ 1048576) : Gives Tryz.prog 20 [.agg (encPassing x), .int left] (.int (szPassing left x)) := by
  have l0 : -1 ≤ szR left x.parents ∧ szR left x.parents ≤ 1048576 := szR_le h1 h2
  have l1 : -1 ≤ szR (szR left x.parents) x.free ∧ szR (szR left x.parents) x.free ≤ 1048576 := szR_le l0.1 l0.2
  have l2 : -1 ≤ szSl szPassRule (szR (szR left x.parents) x.free) x.rules ∧ szSl szPassRule (szR (szR left x.parents) x.free) x.rules ≤ 1048576 := szSl_le (fun _ _ p q => szPassRule_le p q) l1.1 l1.2
  refine fn_of_run tyOk ztOk mix Tryz.func20 rfl (by decide) Tryz.ntmps20 (fun w0 h => ?_)
  repeat' (first
      | (refine j_go ?_; first
        | refine j_op0 rfl rfl rfl rfl ?_ | (refine j_kCall rfl rfl rfl rfl ?_; first | refine jc (c_szInt64S _ _ (by omega) (by omega)) (LeL.refl _) rfl rfl ?_ | refine jc (c_szBoolS _ _ (by omega) (by omega)) (LeL.refl _) rfl rfl ?_ | refine jc (c_szPassRuleS _ _ (by omega) (by omega)) (LeL.refl _) rfl rfl ?_) | refine j_box rfl rfl rfl rfl rfl rfl ?_)
      | refine j_nil ?_
      | (refine r_go ?_; first | refine run_seq ?_ | refine run_region ?_ | (refine (run_if rfl (fun hb => ?_) (fun hb => ?_)) <;> first | (exfalso; omega) | skip) | refine run_ret ?_ | refine run_skip ?_)
      | refine seqQ_normal ?_ | refine seqQ_ret ?_)
  all_goals exact end1 rfl (List.Sublist.refl _) (ai (by unfold szPassing; repeat' split; all_goals first | rfl | contradiction)) (.inl rfl)
theorem c_toPassing (x : Passing) (hx : OkPassing x) : Gives Tryz.prog 22 [.agg (encPassing x)] (.agg (encPassing x)) := by
  obtain ⟨k0, k1, ⟨k2, m2⟩⟩ := hx
  refine fn_of_run tyOk ztOk mix Tryz.func22 rfl (by decide) Tryz.ntmps22 (fun w0 h => ?_)
  repeat' (first
      | (refine j_go ?_; first
        | refine j_op0 rfl rfl rfl rfl ?_ | (refine j_kCall rfl rfl rfl rfl ?_; first | refine jc (c_toInt64S _ (by assumption)) (LeL.refl _) rfl rfl ?_ | refine jc (c_toBoolS _ (by assumption)) (LeL.refl _) rfl rfl ?_ | refine jc (c_toPassRuleS _ (by assumption) (by assumption)) (LeL.refl _) rfl rfl ?_) | (refine j_kLoad rfl ?_; first | refine j_mload 0 rfl rfl rfl rfl rfl rfl rfl ?_) | (refine j_kStore rfl ?_; first | refine j_store 0 rfl rfl rfl rfl rfl rfl rfl rfl rfl rfl rfl ?_ | refine j_storeN 1 rfl rfl rfl rfl rfl rfl rfl rfl rfl rfl rfl ?_) | refine j_box rfl rfl rfl rfl rfl rfl ?_ | refine j_alloc rfl rfl rfl rfl rfl (fun _ => ?_))
      | refine j_nil ?_
      | (refine r_go ?_; first | refine run_seq ?_ | refine run_region ?_ | refine run_ret ?_)
      | refine seqQ_normal ?_)
  exact end_cellM rfl 1 rfl rfl sub2 (Le.refl _) (.inl rfl)
theorem c_eqPassing (x y : Passing) : Gives Tryz.prog 17 [.agg (encPassing x), .agg (encPassing y)] (.raw (.bool (dec (x = y)))) := by
  refine fn_of_run tyOk ztOk mix Tryz.func17 rfl (by decide) Tryz.ntmps17 (fun w0 h => ?_)
  repeat' (first
      | (refine j_go ?_; first
        | refine j_op0 rfl rfl rfl rfl ?_ | (refine j_kCall rfl rfl rfl rfl ?_; first | refine jc (c_eqInt64S _ _) (LeL.refl _) rfl rfl ?_ | refine jc (c_eqBoolS _ _) (LeL.refl _) rfl rfl ?_ | refine jc (c_eqPassRuleS _ _) (LeL.refl _) rfl rfl ?_) | refine j_box rfl rfl rfl rfl rfl rfl ?_)
      | refine j_nil ?_
      | (refine r_go ?_; first | refine run_seq ?_ | refine run_region ?_ | (refine (run_ifn rfl (fun hb => ?_) (fun hb => ?_)) <;> first | (exfalso; omega) | skip) | refine run_ret ?_ | refine run_skip ?_)
      | refine seqQ_normal ?_ | refine seqQ_ret ?_)
  all_goals first | exact end1 rfl (List.Sublist.refl _) (rb (dec_f (fun q => hb (by rw [q]))).symm) (.inl rfl) | exact end1 rfl (List.Sublist.refl _) (rb (dec_t (by cases x; cases y; simp_all)).symm) (.inl rfl)

structure Stock where
  cells : List (List Int)
  around : List Int
  deriving DecidableEq, Inhabited
def encStock (x : Stock) : List A := [.sl (x.cells.map (encS Go.AI.encI)), .sl (x.around.map Go.AI.encI)]
/-- What its size tells of it. -/
structure OkStock (x : Stock) : Prop where
  cells : x.cells.length ≤ 1048576 ∧ ∀ r ∈ x.cells, r.length ≤ 1048576
  around : x.around.length ≤ 1048576
theorem c_eqStock (x y : Stock) : Gives Tryz.prog 23 [.agg (encStock x), .agg (encStock y)] (.raw (.bool (dec (x = y)))) := by
  refine fn_of_run tyOk ztOk mix Tryz.func23 rfl (by decide) Tryz.ntmps23 (fun w0 h => ?_)
  repeat' (first
      | (refine j_go ?_; first
        | refine j_op0 rfl rfl rfl rfl ?_ | (refine j_kCall rfl rfl rfl rfl ?_; first | refine jc (c_eqInt64SS _ _) (LeL.refl _) rfl rfl ?_ | refine jc (c_eqInt64S _ _) (LeL.refl _) rfl rfl ?_) | refine j_box rfl rfl rfl rfl rfl rfl ?_)
      | refine j_nil ?_
      | (refine r_go ?_; first | refine run_seq ?_ | refine run_region ?_ | (refine (run_ifn rfl (fun hb => ?_) (fun hb => ?_)) <;> first | (exfalso; omega) | skip) | refine run_ret ?_ | refine run_skip ?_)
      | refine seqQ_normal ?_ | refine seqQ_ret ?_)
  all_goals first | exact end1 rfl (List.Sublist.refl _) (rb (dec_f (fun q => hb (by rw [q]))).symm) (.inl rfl) | exact end1 rfl (List.Sublist.refl _) (rb (dec_t (by cases x; cases y; simp_all)).symm) (.inl rfl)
end Go.Proofs.YtmcljepicadjfaaGreatDoor

/-
  Library functions over lists of passing rules: the first element of a kind. No condition.
-/
namespace Go.Proofs.YtmcljepicadjfaaGreatDoor
open Go.AI
set_option maxRecDepth 8000
set_option maxHeartbeats 1600000

theorem c_ixfP (f : FuncId) (caps : List A) (r : PassRule → Prop) (l : List (PassRule)) (hf : ∀ x ∈ l, Gives Tryz.prog f (.agg (encPassRule x) :: caps) (.raw (.bool (dec (r x))))) : Gives Tryz.prog 93 [.sl (l.map encPassRule), .fn f caps] (.int (fIdx r l)) := by
  refine fn_of_run tyOk ztOk mix Tryz.func93 rfl (by decide) Tryz.ntmps93 (fun w0 h => ?_)
  refine run_len (t := 0) rfl (fun hl => ?_)
  rw [List.length_map] at hl
  repeat' (first
      | (refine j_go ?_; first
        | refine j_op0 rfl rfl rfl rfl ?_ | (refine j_kLen rfl ?_; first | refine j_len rfl rfl rfl rfl rfl rfl ?_))
      | refine j_nil ?_
      | (refine r_go ?_; first | refine run_seq ?_ | refine run_region ?_ | refine run_block ?_)
      | refine seqQ_normal ?_)
  refine run_loop (fun k : Nat => [(0, .sl (l.map encPassRule)), (1, .fn f caps), (7, .int l.length), (8, .int (k : Int))]) (fun _ => _) (fun k => k ≤ l.length ∧ (∀ i (h : i < l.length), i < k → ¬ r l[i])) (fun k => l.length - k) 0 ⟨rfl, rfl, rfl, rfl, trivial⟩ rfl ⟨Nat.zero_le _, by first | (intros; omega) | (simp; done) | rfl | trivial | exact ⟨by simp [sumF], by intros; omega⟩ | exact ⟨by omega, by simp⟩⟩ (fun k ⟨kl, kp⟩ => ?_)
  repeat' (first
      | (refine j_go ?_; first
        | refine j_op0 rfl rfl rfl rfl ?_ | (refine j_kIdx rfl ?_; first | refine j_idx rfl rfl rfl rfl rfl (by omega) rfl rfl rfl ?_) | (refine j_kBin rfl ?_; first | refine j_in rfl rfl ⟨by omega, by omega⟩ rfl rfl ?_) | (refine j_kCall rfl rfl rfl rfl ?_; first | refine jc (hf _ (List.getElem_mem _)) (LeL.refl _) rfl rfl ?_))
      | refine j_nil ?_
      | (refine r_go ?_; first | refine run_seq ?_ | refine run_region ?_ | (refine (run_if rfl (fun hb => ?_) (fun hb => ?_)) <;> first | (exfalso; omega) | skip) | refine run_block ?_ | refine run_ret ?_ | refine run_exit ?_ | refine run_skip ?_)
      | refine seqQ_normal ?_ | refine seqQ_ret ?_ | refine seqQ_exit ?_ | refine blockQ_normal ?_ | refine blockQ_ret ?_ | refine blockQ_eq ?_ | refine loopQ_ret ?_ | refine loopQ_exit ?_)
  · exact end1 rfl (List.Sublist.refl _) (ai (fIdx_at (by omega) hb kp).symm) (.inl rfl)
  · exact loopQ_nextD (k + 1) ⟨by omega, all_step kp (fun _ => hb)⟩ (by omega) (by first | exact List.Sublist.refl _ | exact sub1 | exact sub2 | exact sub3) ⟨rfl, rfl, rfl, nx _, trivial⟩
  · exact end1 rfl (List.Sublist.refl _) (ai (fIdx_none (fun i h => kp i h (by omega))).symm) (.inl rfl)

theorem c_cfP (f : FuncId) (caps : List A) (r : PassRule → Prop) (l : List (PassRule)) (hf : ∀ x ∈ l, Gives Tryz.prog f (.agg (encPassRule x) :: caps) (.raw (.bool (dec (r x))))) : Gives Tryz.prog 45 [.sl (l.map encPassRule), .fn f caps] (.raw (.bool (dec (∃ x ∈ l, r x)))) := by
  refine fn_of_run tyOk ztOk mix Tryz.func45 rfl (by decide) Tryz.ntmps45 (fun w0 h => ?_)
  repeat' (first
      | (refine j_go ?_; first
        | refine j_op0 rfl rfl rfl rfl ?_ | (refine j_kCall rfl rfl rfl rfl ?_; first | refine jc (c_ixfP _ _ r _ hf) (LeL.refl _) rfl rfl ?_))
      | refine j_nil ?_
      | (refine r_go ?_; first | refine run_seq ?_ | refine run_region ?_ | refine run_ret ?_)
      | refine seqQ_normal ?_)
  exact end1 rfl (List.Sublist.refl _) (rbD (fIdx_ex r l)) (.inl rfl)

end Go.Proofs.YtmcljepicadjfaaGreatDoor
