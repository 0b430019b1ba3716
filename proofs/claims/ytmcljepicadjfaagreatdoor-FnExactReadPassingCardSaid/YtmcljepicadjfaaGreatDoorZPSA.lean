/-
  Steps: which rules are enabled, what the reference and the program compute. No condition.
-/
import Derived.Test.YtmcljepicadjfaaGreatDoorZH6
import Derived.Test.YtmcljepicadjfaaGreatDoorZE3
import Derived.Test.YtmcljepicadjfaaGreatDoorZRg
import Derived.Test.YtmcljepicadjfaaGreatDoorZRd
namespace Go.Proofs.YtmcljepicadjfaaGreatDoor
open Go.AI
set_option maxRecDepth 8000
set_option maxHeartbeats 1600000

def Within (a b : List Int) : Prop := ∀ i (ha : i < a.length) (hb : i < b.length), a[i] ≤ b[i]


def bagOf (t : State) (c : Int) : List Int := t.bags.getD c.toNat []
def IntoNow (s : System) (t : State) (r : Rule) (x : Into) : Prop := t.Lives x.cell ∧ pnow s t x.cell = r.cell
/-- A rule is enabled. -/
def EnP (s : System) (t : State) (r : Rule) : Prop := t.Lives r.cell ∧ Within r.need (bagOf t r.cell) ∧ Within r.have_ (bagOf t r.cell) ∧ ¬ (0 < tot r.lack ∧ Within r.lack (bagOf t r.cell)) ∧ ∀ i (h : i < r.into.length), IntoNow s t r r.into[i]
end Go.Proofs.YtmcljepicadjfaaGreatDoor

/-
  Steps: which rules are applicable, what the reference and the program compute; IsHalted. No condition.
-/
namespace Go.Proofs.YtmcljepicadjfaaGreatDoor
open Go.AI
set_option maxRecDepth 8000
set_option maxHeartbeats 1600000

open Classical in
/-- The greatest rank among those of some rules that are so and that have a cell. -/
noncomputable def bst (init : Int) (en : Rule → Prop) (c : Int) : List Rule → Int
  | [] => init
  | r :: rs => bst (if en r ∧ r.cell = c then max init r.rank else init) en c rs
/-- A rule is applicable. -/
def App (s : System) (t : State) (r : Rule) : Prop := EnP s t r ∧ ∀ x ∈ s.rules, EnP s t x → x.cell = r.cell → x.rank ≤ r.rank
end Go.Proofs.YtmcljepicadjfaaGreatDoor

/-
  Steps: the program's list of applicable rules; IsHalted. No condition.
-/
namespace Go.Proofs.YtmcljepicadjfaaGreatDoor
open Go.AI
set_option maxRecDepth 8000
set_option maxHeartbeats 1600000

end Go.Proofs.YtmcljepicadjfaaGreatDoor

/-
  States: what WeighState of the reference and of the program compute. No condition.
-/
namespace Go.Proofs.YtmcljepicadjfaaGreatDoor
open Go.AI
set_option maxRecDepth 8000
set_option maxHeartbeats 1600000

end Go.Proofs.YtmcljepicadjfaaGreatDoor

/-
  Choices: what is left of the bags; IsChoice. No condition.
-/
namespace Go.Proofs.YtmcljepicadjfaaGreatDoor
open Go.AI
set_option maxRecDepth 8000
set_option maxHeartbeats 1600000

/-- The sum of a list and another one m times. -/
def plusL (a b : List Int) (m : Int) : List Int := List.zipWith (fun x y => x + y * m) a b
/-- What is left of all bags behind the first k counts. -/
def restK (s : System) (t : State) (cs : List Int) : Nat → List (List Int)
  | 0 => t.bags
  | k + 1 => (restK s t cs k).set (s.rules.getD k default).cell.toNat (plusL ((restK s t cs k).getD (s.rules.getD k default).cell.toNat []) (s.rules.getD k default).need (0 - cs.getD k 0))
/-- Counts are a choice. -/
def Ch (s : System) (t : State) (cs : List Int) : Prop := (∀ i (h : i < s.rules.length) (h2 : i < cs.length), 0 < cs[i] → App s t s.rules[i]) ∧ ∀ b ∈ restK s t cs s.rules.length, ∀ x ∈ b, 0 ≤ x
open Classical in
noncomputable def restA (s : System) (t : State) (cs : List Int) : A := if Ch s t cs then .sl ((restK s t cs s.rules.length).map (encS Go.AI.encI)) else .any (fun _ => True)
theorem Le.tup2 {a b c : A} (h : Le a c) : Le (.tup [a, b]) (.tup [c, b]) := fun S w x r => by
  cases r with
  | tup cs vs hl hr =>
    refine .tup _ vs hl (fun j hj hj' => ?_)
    cases j with
    | zero => exact h _ _ _ (hr 0 (by simp) hj')
    | succ j => exact hr (j + 1) (by simpa using hj) hj'
end Go.Proofs.YtmcljepicadjfaaGreatDoor

/-
  Choices: what the program computes of them; IsChoice, IsMaximal. No condition.
-/
namespace Go.Proofs.YtmcljepicadjfaaGreatDoor
open Go.AI
set_option maxRecDepth 8000
set_option maxHeartbeats 1600000

/-- All rules that are counted are applicable. -/
def AllApp (s : System) (t : State) (cs : List Int) : Prop := ∀ i (h : i < s.rules.length) (h2 : i < cs.length), 0 < cs[i] → App s t s.rules[i]
open Classical in
noncomputable def restI (s : System) (t : State) (cs : List Int) : A := if AllApp s t cs then .sl ((restK s t cs s.rules.length).map (encS Go.AI.encI)) else .os none 0 0
end Go.Proofs.YtmcljepicadjfaaGreatDoor

/-
  Lists of numbers that hold what a condition picks, and answers in memory of the call's own. No condition.
-/
namespace Go.Proofs.YtmcljepicadjfaaGreatDoor
open Go.AI

open Classical in
/-- A list where a condition holds, else the empty one. -/
noncomputable def lsP (p : Prop) (l : List Int) : List Int := if p then l else []
end Go.Proofs.YtmcljepicadjfaaGreatDoor

/-
  The bag of all objects, on both sides: TotalBag. No condition.
-/
namespace Go.Proofs.YtmcljepicadjfaaGreatDoor
open Go.AI
set_option maxRecDepth 8000
set_option maxHeartbeats 1600000

/-- A list in memory of the call's own. -/
def OwnL (l : List Int) : A → Heap → Prop := fun v h' => ∃ b cap, v = .os b l.length cap ∧ h' = [⟨b, 2, cap * 1, (l.map Go.AI.encI).flatten⟩]
theorem OwnL.clo {l : List Int} {v : A} {h1 : Heap} (q : OwnL l v h1) : Clo v ∧ CloH h1 := by
  obtain ⟨b, cap, rfl, rfl⟩ := q
  exact ⟨Clo.os _ _ _, CloH.cons (CloL.mapInt _ _) CloH.nil⟩

theorem bagk_self {l : List Int} : BagK (l.length : Int) l ↔ Bag l := ⟨fun q => q.1, fun q => ⟨q, rfl⟩⟩
theorem c_isBag (l : List Int) : Gives Tryz.prog 92 [.sl (l.map Go.AI.encI)] (.raw (.bool (dec (Bag l)))) := by
  refine fn_of_run tyOk ztOk mix Tryz.func92 rfl (by decide) Tryz.ntmps92 (fun w0 h => ?_)
  repeat' (first
      | (refine j_go ?_; first
        | refine j_op0 rfl rfl rfl rfl ?_ | (refine j_kCall rfl rfl rfl rfl ?_; first | refine jc (c_sizeI _) (LeL.refl _) rfl rfl ?_ | refine jc (c_ValidBag _ _) (LeL.refl _) rfl rfl ?_))
      | refine j_nil ?_
      | (refine r_go ?_; first | refine run_seq ?_ | refine run_region ?_ | refine run_ret ?_)
      | refine seqQ_normal ?_)
  exact end1 rfl (List.Sublist.refl _) (rbD bagk_self) (.inl rfl)

open Classical in
noncomputable def cdL (p : Prop) : Int := if p then 0 else 3
/-- All objects of what is around and of the first k cells. -/
def totK (t : State) : Nat → List Int
  | 0 => t.around
  | k + 1 => plusL (totK t k) (t.bags.getD k []) 1
open Classical in
noncomputable def codeTotalBag (s : System) (t : State) : Int := if s.Ok ∧ s.StateOk t then cdL (Bag (totK t t.bags.length)) else 1
end Go.Proofs.YtmcljepicadjfaaGreatDoor

/-
  Copies of the data of theme 6 in memory of the call's own, and their marks. No condition but that the sizes are bounded.
-/
namespace Go.Proofs.YtmcljepicadjfaaGreatDoor
open Go.AI
set_option maxRecDepth 8000
set_option maxHeartbeats 1600000

end Go.Proofs.YtmcljepicadjfaaGreatDoor

/-
  Stocks in memory of the call's own: their marks, and what is held of them. No condition but that the sizes are bounded.
-/
namespace Go.Proofs.YtmcljepicadjfaaGreatDoor
open Go.AI
set_option maxRecDepth 8000
set_option maxHeartbeats 1600000
def ROStock (x : Stock) (a : A) (h : Heap) : Prop := ∃ (a1 : A) (h1 : Heap), ROII x.cells a1 h1 ∧ ∃ (a2 : A) (h2 : Heap), ROI x.around a2 h2 ∧ a = .agg [a1, a2] ∧ h = h1 ++ h2
theorem ROStock.frz {x : Stock} {a : A} {h : Heap} (o : ROStock x a h) : Frz h a (.agg (encStock x)) := by
  obtain ⟨a1, h1, o1, a2, h2, o2, rfl, rfl⟩ := o
  exact Frz.agg (FrzL.cons (Frz.mono (fun _ hk => by simp [hk]) o1.frz) (FrzL.cons (Frz.mono (fun _ hk => by simp [hk]) o2.frz) (FrzL.nil _)))
theorem ROStock.frzF {x : Stock} {a : A} {h : Heap} (o : ROStock x a h) : FrzF h a (.agg (encStock x)) := by
  obtain ⟨a1, h1, o1, a2, h2, o2, rfl, rfl⟩ := o
  have q := FrzLF.cons o1.frzF (FrzLF.cons o2.frzF (FrzLF.nil (h := [])))
  rw [List.append_nil] at q
  exact FrzF.agg q
theorem ROStock.clo {x : Stock} {a : A} {h : Heap} (o : ROStock x a h) : Clo a ∧ CloH h := by
  obtain ⟨a1, h1, o1, a2, h2, o2, rfl, rfl⟩ := o
  exact ⟨Clo.agg (CloL.cons o1.clo.1 (CloL.cons o2.clo.1 CloL.nil)), o1.clo.2.append o2.clo.2⟩
theorem ROStock.cells {x : Stock} {a : A} {h : Heap} (o : ROStock x a h) : ∃ a0 a1, a = .agg [a0, a1] ∧ [a0, a1].all okCell = true := by
  obtain ⟨a1, h1, o1, a2, h2, o2, rfl, rfl⟩ := o
  exact ⟨a1, a2, rfl, by simp only [List.all_cons, List.all_nil, OwnLL.okc o1, OwnF.okc o2]; rfl⟩
end Go.Proofs.YtmcljepicadjfaaGreatDoor

/-
  Lists of structs with memory of their own. No condition.
-/
namespace Go.Proofs.YtmcljepicadjfaaGreatDoor
open Go.AI
set_option maxRecDepth 8000
set_option maxHeartbeats 1600000
/-- A list of elements with memory of their own: a block, or none at all. -/
def OwnS {α : Type} (E : α → List A → Heap → Prop) (T z : Nat) (L : List α) (a : A) (h : Heap) : Prop := OwnC E T z L a h ∨ (L = [] ∧ a = .sl [] ∧ h = [])
theorem OwnS.frz {α : Type} {E : α → List A → Heap → Prop} {enc : α → List A} {T z : Nat} {L : List α} {a : A} {h : Heap} (hz : ∀ x, (enc x).length = z) (hz0 : Nat.blt 0 z = true) (hE : ∀ x cs h, E x cs h → FrzL h cs (enc x)) (o : OwnS E T z L a h) : Frz h a (.sl (L.map enc)) := by
  rcases o with o | ⟨rfl, rfl, rfl⟩
  · exact o.frz hz hz0 hE
  · exact Frz.same _ _
theorem OwnS.frzF {α : Type} {E : α → List A → Heap → Prop} {enc : α → List A} {T z : Nat} {L : List α} {a : A} {h : Heap} (hz : ∀ x, (enc x).length = z) (hz0 : Nat.blt 0 z = true) (hE : ∀ x cs h, E x cs h → FrzLF h cs (enc x)) (o : OwnS E T z L a h) : FrzF h a (.sl (L.map enc)) := by
  rcases o with o | ⟨rfl, rfl, rfl⟩
  · exact o.frzF hz hz0 hE
  · exact FrzF.same _ _
theorem OwnS.clo {α : Type} {E : α → List A → Heap → Prop} {T z : Nat} {L : List α} {a : A} {h : Heap} (hE : ∀ x cs h, E x cs h → CloL cs ∧ CloH h) (o : OwnS E T z L a h) : Clo a ∧ CloH h := by
  rcases o with o | ⟨rfl, rfl, rfl⟩
  · exact o.clo hE
  · exact ⟨Clo.nil, CloH.nil⟩
theorem OwnS.okc {α : Type} {E : α → List A → Heap → Prop} {T z : Nat} {L : List α} {a : A} {h : Heap} (o : OwnS E T z L a h) : okCell a = true := by
  rcases o with ⟨b, cap, css, hs, _, _, _, rfl, rfl⟩ | ⟨rfl, rfl, rfl⟩ <;> rfl
/-- What stands in a list that was marked element by element. -/
def mksL {α : Type} (cnt : α → Nat) (mk : Nat → α → α) : Nat → List α → List α
  | _, [] => []
  | k, x :: L => mk k x :: mksL cnt mk (k + cnt x) L
theorem mksL_len {α : Type} {cnt : α → Nat} {mk : Nat → α → α} : ∀ (L : List α) (k : Nat), (mksL cnt mk k L).length = L.length
  | [], _ => rfl
  | x :: L, k => by simp [mksL, mksL_len L]
theorem mksL_get {α : Type} {cnt : α → Nat} {mk : Nat → α → α} : ∀ (L : List α) (k i : Nat) (h : i < L.length), (mksL cnt mk k L)[i]'(by rw [mksL_len]; exact h) = mk (k + mcnt cnt (L.take i)) L[i]
  | [], _, i, h => absurd h (Nat.not_lt_zero _)
  | x :: L, k, 0, h => by simp [mksL, mcnt]
  | x :: L, k, i + 1, h => by
    have := mksL_get (cnt := cnt) (mk := mk) L (k + cnt x) i (by simpa using h)
    simp only [mksL, List.getElem_cons_succ, this, List.take_succ_cons, mcnt, List.map_cons, List.sum_cons]
    rw [Nat.add_assoc]
end Go.Proofs.YtmcljepicadjfaaGreatDoor

/-
  Passing systems in memory of the call's own: their marks, and what is held of them. No condition but that the sizes are bounded.
-/
namespace Go.Proofs.YtmcljepicadjfaaGreatDoor
open Go.AI
set_option maxRecDepth 8000
set_option maxHeartbeats 1600000
def ERPassRule (x : PassRule) (cs : List A) (h : Heap) : Prop := ∃ (a0 : A) (h0 : Heap), ROI x.out a0 h0 ∧ ∃ (a1 : A) (h1 : Heap), ROI x.in_ a1 h1 ∧ cs = [.int x.cell, a0, a1] ∧ h = h0 ++ h1
theorem ERPassRule.frz {x : PassRule} {cs : List A} {h : Heap} (q : ERPassRule x cs h) : FrzL h cs (encPassRule x) := by
  obtain ⟨a0, h0, o0, a1, h1, o1, rfl, rfl⟩ := q
  exact FrzL.cons (Frz.same _ _) (FrzL.cons (Frz.mono (fun _ hk => by simp [hk]) o0.frz) (FrzL.cons (Frz.mono (fun _ hk => by simp [hk]) o1.frz) (FrzL.nil _)))
theorem ERPassRule.frzF {x : PassRule} {cs : List A} {h : Heap} (q : ERPassRule x cs h) : FrzLF h cs (encPassRule x) := by
  obtain ⟨a0, h0, o0, a1, h1, o1, rfl, rfl⟩ := q
  have := FrzLF.cons (FrzF.same [] (.int x.cell)) (FrzLF.cons o0.frzF (FrzLF.cons o1.frzF (FrzLF.nil (h := []))))
  simp only [List.append_nil, List.nil_append] at this
  exact this
theorem ERPassRule.clo {x : PassRule} {cs : List A} {h : Heap} (q : ERPassRule x cs h) : CloL cs ∧ CloH h := by
  obtain ⟨a0, h0, o0, a1, h1, o1, rfl, rfl⟩ := q
  exact ⟨CloL.cons (Clo.int _) (CloL.cons o0.clo.1 (CloL.cons o1.clo.1 CloL.nil)), o0.clo.2.append o1.clo.2⟩
def ROPassRules (L : List PassRule) (a : A) (h : Heap) : Prop := OwnS ERPassRule 75 3 L a h
def ROPassing (x : Passing) (a : A) (h : Heap) : Prop := ∃ (a1 : A) (h1 : Heap), ROI x.parents a1 h1 ∧ ∃ (a2 : A) (h2 : Heap), ROB x.free a2 h2 ∧ ∃ (a3 : A) (h3 : Heap), ROPassRules x.rules a3 h3 ∧ a = .agg [.int x.kinds, a1, a2, a3] ∧ h = h1 ++ (h2 ++ h3)
theorem ROPassing.frz {x : Passing} {a : A} {h : Heap} (o : ROPassing x a h) : Frz h a (.agg (encPassing x)) := by
  obtain ⟨a1, h1, o1, a2, h2, o2, a3, h3, o3, rfl, rfl⟩ := o
  exact Frz.agg (FrzL.cons (Frz.same _ _) (FrzL.cons (Frz.mono (fun _ hk => by simp [hk]) o1.frz) (FrzL.cons (Frz.mono (fun _ hk => by simp [hk]) o2.frz) (FrzL.cons (Frz.mono (fun _ hk => by simp [hk]) (OwnS.frz (enc := encPassRule) (fun _ => rfl) rfl (fun _ _ _ q => q.frz) o3)) (FrzL.nil _)))))
theorem ROPassing.frzF {x : Passing} {a : A} {h : Heap} (o : ROPassing x a h) : FrzF h a (.agg (encPassing x)) := by
  obtain ⟨a1, h1, o1, a2, h2, o2, a3, h3, o3, rfl, rfl⟩ := o
  have q := FrzLF.cons (FrzF.same [] (.int x.kinds)) (FrzLF.cons o1.frzF (FrzLF.cons o2.frzF (FrzLF.cons (OwnS.frzF (enc := encPassRule) (fun _ => rfl) rfl (fun _ _ _ q => q.frzF) o3) (FrzLF.nil (h := [])))))
  simp only [List.append_nil, List.nil_append] at q
  exact FrzF.agg q
theorem ROPassing.clo {x : Passing} {a : A} {h : Heap} (o : ROPassing x a h) : Clo a ∧ CloH h := by
  obtain ⟨a1, h1, o1, a2, h2, o2, a3, h3, o3, rfl, rfl⟩ := o
  have q := OwnS.clo (fun _ _ _ q => ERPassRule.clo q) o3
  exact ⟨Clo.agg (CloL.cons (Clo.int _) (CloL.cons o1.clo.1 (CloL.cons o2.clo.1 (CloL.cons q.1 CloL.nil)))), o1.clo.2.append (o2.clo.2.append q.2)⟩
theorem ROPassing.cells {x : Passing} {a : A} {h : Heap} (o : ROPassing x a h) : ∃ a0 a1 a2 a3, a = .agg [a0, a1, a2, a3] ∧ [a0, a1, a2, a3].all okCell = true := by
  obtain ⟨a1, h1, o1, a2, h2, o2, a3, h3, o3, rfl, rfl⟩ := o
  exact ⟨_, a1, a2, a3, rfl, by simp only [List.all_cons, List.all_nil, OwnF.okc o1, OwnF.okc o2, OwnS.okc o3]; rfl⟩
end Go.Proofs.YtmcljepicadjfaaGreatDoor

/-
  Passing systems in memory of the call's own: their marks, and what is held of the marks. No condition but that the sizes are bounded.
-/
namespace Go.Proofs.YtmcljepicadjfaaGreatDoor
open Go.AI
set_option maxRecDepth 8000
set_option maxHeartbeats 1600000
def rcPassRule (x : PassRule) : Nat := 1 + x.out.length + x.in_.length
def mkPassRule (k : Nat) (x : PassRule) : PassRule := ⟨(k : Int), markedI (k + 1) x.out.length, markedI (k + 1 + x.out.length) x.in_.length⟩
theorem mark_mid {b : Blk} {n ms r : Heap} : (n ++ ((b :: ms) ++ r)).Perm (b :: (n ++ (ms ++ r))) := by classical exact List.perm_iff_count.2 fun _ => by simp only [List.count_append, List.count_cons]; omega
theorem r_markPassRule (L : List PassRule) (a : A) (h : Heap) (k0 : Nat) (o : ROPassRules L a h) (hk : k0 + mcnt rcPassRule L ≤ 4611686018427387904) :
    Does Tryz.prog 64 [a, .int (k0 : Int)] h (fun v h' => v = .int ((k0 + mcnt rcPassRule L : Nat) : Int) ∧ ROPassRules (mksL rcPassRule mkPassRule k0 L) a h') := by
  rcases o with ⟨b, cap, css, hs, l1, l2, hall, rfl, rfl⟩ | ⟨rfl, rfl, rfl⟩
  case inr =>
    refine fn_of_runD tyOk ztOk mix Tryz.func64 rfl (by decide) Tryz.ntmps64 (fun w0 F => ?_)
    change Run _ _ _ _ _ F
    repeat' (first
      | (refine j_go ?_; first
        | refine j_op0 rfl rfl rfl rfl ?_)
      | refine j_nil ?_
      | (refine r_go ?_; first | refine run_seq ?_ | refine run_region ?_ | refine run_block ?_)
      | refine seqQ_normal ?_)
    refine run_loop (fun _ : Unit => [(0, .sl []), (1, .int (k0 : Int)), (5, .int 0)]) (fun _ => F) (fun _ => True) (fun _ => 0) () ⟨rfl, rfl, rfl, trivial⟩ rfl trivial (fun _ _ => ?_)
    repeat' (first
      | (refine j_go ?_; first
        | refine j_op0 rfl rfl rfl rfl ?_ | (refine j_kLen rfl ?_; first | refine j_op rfl rfl rfl rfl ?_))
      | refine j_nil ?_
      | (refine r_go ?_; first | refine run_seq ?_ | refine run_region ?_ | (refine (run_if rfl (fun hb => ?_) (fun hb => ?_)) <;> first | (exfalso; omega) | skip) | refine run_block ?_ | refine run_ret ?_ | refine run_exit ?_ | refine run_skip ?_)
      | refine seqQ_normal ?_ | refine seqQ_exit ?_ | refine blockQ_eq ?_ | refine loopQ_exit ?_)
    · exact absurd hb (by simp)
    exact endD_ret (h1 := []) rfl (vs := [_]) (.cons (.tmp rfl) .nil) (Le.refl _) ⟨rfl, .inr ⟨rfl, rfl, rfl⟩⟩ (.inl rfl)
  refine fn_of_runD tyOk ztOk mix Tryz.func64 rfl (by decide) Tryz.ntmps64 (fun w0 F => ?_)
  change Run _ _ _ _ _ (⟨b, 75, cap * 3, (css.map Subtype.val).flatten⟩ :: (hs.flatten ++ F))
  refine run_olen (t := 0) rfl (fun hol => ?_)
  repeat' (first
      | (refine j_go ?_; first
        | refine j_op0 rfl rfl rfl rfl ?_)
      | refine j_nil ?_
      | (refine r_go ?_; first | refine run_seq ?_ | refine run_region ?_ | refine run_block ?_)
      | refine seqQ_normal ?_)
  refine run_loop (fun s : Nat × List (Cells 3) × List Heap => [(0, .os b L.length cap), (1, .int ((k0 + mcnt rcPassRule (L.take s.1) : Nat) : Int)), (5, .int (s.1 : Int))])
    (fun s => ⟨b, 75, cap * 3, (s.2.1.map Subtype.val).flatten⟩ :: (s.2.2.flatten ++ ((hs.drop s.1).flatten ++ F)))
    (fun s => s.1 ≤ L.length ∧ s.2.1.length = L.length ∧ s.2.2.length = s.1 ∧ (∀ i, s.1 ≤ i → s.2.1[i]? = css[i]?) ∧ ∀ i (h0 : i < L.length) (h1 : i < s.2.1.length) (h2 : i < s.2.2.length), ERPassRule (mkPassRule (k0 + mcnt rcPassRule (L.take i)) L[i]) s.2.1[i].1 s.2.2[i]) (fun s => L.length - s.1) (0, css, []) ⟨rfl, (by simp [mcnt]; rfl), rfl, trivial⟩ (by simp) ⟨by simp, l1, rfl, fun _ _ => rfl, fun _ _ _ h2 => absurd h2 (Nat.not_lt_zero _)⟩ ?_
  intro ⟨k, cc, ms⟩ ⟨g1, g2, g3, g4, g5⟩
  dsimp only at g1 g2 g3 g4 g5 ⊢
  by_cases hkl : k < L.length
  · have hc1 : k < css.length := by omega
    have hc2 : k < hs.length := by omega
    have hc3 : k < cc.length := by omega
    have e1 : cc[k] = css[k] := by have := g4 k (Nat.le_refl _); simpa [hc1, hc3] using this
    have hsn := mcnt_take (f := rcPassRule) hkl
    have hlt := mcnt_take_le (f := rcPassRule) (k + 1) L
    have hd : (hs.drop k).flatten = hs[k] ++ (hs.drop (k + 1)).flatten := by rw [List.drop_eq_getElem_cons hc2]; rfl
    generalize eK : k0 + mcnt rcPassRule (L.take k) = K
    have hcn : rcPassRule L[k] = 1 + L[k].out.length + L[k].in_.length := rfl
    obtain ⟨a0, h0, o0, a1, h1, o1, ea, eh⟩ := hall k hkl hc1 hc2
    have e0 : cc = cc.set k (⟨[.int L[k].cell, a0, a1], rfl⟩ : Cells 3) := set_own hc3 (by rw [e1, ea])
    have hne : ((cc.set k (⟨[.int L[k].cell, a0, a1], rfl⟩ : Cells 3)).map Subtype.val).flatten ≠ [] := fun q => by have := flat_len (f := Subtype.val) (z := 3) (fun y : Cells 3 => y.2) cc; rw [← e0] at q; rw [q] at this; simp at this; omega
    refine run_heq (h' := ⟨b, 75, cap * 3, ((cc.set k (⟨[.int L[k].cell, a0, a1], rfl⟩ : Cells 3)).map Subtype.val).flatten⟩ :: (ms.flatten ++ (h0 ++ (h1 ++ ((hs.drop (k + 1)).flatten ++ F))))) (by rw [← e0, hd, eh]; simp only [List.append_assoc]) ?_
    refine run_some 0 rfl hne (fun b2 hb2 => ?_)
    subst hb2
    clear eh
    have oka0 := OwnF.okc o0
    have oka1 := OwnF.okc o1
    repeat' (first
      | (refine j_go ?_; first
        | refine j_op0 rfl rfl rfl rfl ?_ | (refine j_kIdx rfl ?_; first | refine j_midx rfl rfl rfl rfl rfl (by first | omega | (simp only [List.length_append, List.length_cons, List.length_nil]; omega)) rfl rfl ?_) | (refine j_kLen rfl ?_; first | refine j_op rfl rfl rfl rfl ?_))
      | refine j_nil ?_
      | (refine r_go ?_; first | refine run_seq ?_ | refine run_region ?_ | (refine (run_if rfl (fun hb => ?_) (fun hb => ?_)) <;> first | (exfalso; omega) | skip) | refine run_block ?_ | refine run_skip ?_)
      | refine seqQ_normal ?_)
    refine j_storeS 0 k 0 rfl rfl rfl rfl rfl rfl rfl rfl rfl rfl rfl hc3 rfl ?_
    repeat' (first
      | (refine j_go ?_; first
        | refine j_op0 rfl rfl rfl rfl ?_ | (refine j_kIdx rfl ?_; first | refine j_midx rfl rfl rfl rfl rfl (by first | omega | (simp only [List.length_append, List.length_cons, List.length_nil]; omega)) rfl rfl ?_) | (refine j_kBin rfl ?_; first | refine j_in rfl rfl ⟨by omega, by omega⟩ rfl rfl ?_))
      | refine j_nil ?_
      | (refine r_go ?_; first | refine run_seq ?_ | refine run_region ?_)
      | refine seqQ_normal ?_)
    refine j_loadS 0 k 1 rfl rfl rfl rfl rfl hc3 rfl (fun rest => rfl) rfl rfl ?_
    repeat' (first
      | (refine j_go ?_; first
        | refine j_op0 rfl rfl rfl rfl ?_))
    refine j_kCall rfl rfl rfl rfl ?_
    refine jcp _ (r_markI _ _ _ (K + 1) o0 (by omega)) (pmid0 (l1 := _ :: ms.flatten)) (LeL.refl _) rfl rfl (fun v n0 hR => ?_)
    obtain ⟨rfl, p0⟩ := hR
    refine j_view (view_perm (h' := ⟨some b2, 75, cap * 3, ((cc.set k (⟨[.int ((K : Nat) : Int), a0, a1], rfl⟩ : Cells 3)).map Subtype.val).flatten⟩ :: (n0 ++ (ms.flatten ++ (h1 ++ ((hs.drop (k + 1)).flatten ++ F))))) mark_mid) ?_
    repeat' (first
      | (refine j_go ?_; first
        | refine j_op0 rfl rfl rfl rfl ?_ | (refine j_kIdx rfl ?_; first | refine j_midx rfl rfl rfl rfl rfl (by first | omega | (simp only [List.length_append, List.length_cons, List.length_nil]; omega)) rfl rfl ?_))
      | refine j_nil ?_
      | (refine r_go ?_; first | refine run_region ?_)
      | refine seqQ_normal ?_)
    refine j_loadS 0 k 2 rfl rfl rfl rfl rfl hc3 rfl (fun rest => rfl) rfl rfl ?_
    repeat' (first
      | (refine j_go ?_; first
        | refine j_op0 rfl rfl rfl rfl ?_))
    refine j_kCall rfl rfl rfl rfl ?_
    refine jcp _ (r_markI _ _ _ (K + 1 + L[k].out.length) o1 (by omega)) (pmid2 (l1 := _ :: n0) (l2 := ms.flatten)) (LeL.refl _) rfl rfl (fun v n1 hR => ?_)
    obtain ⟨rfl, p1⟩ := hR
    refine j_view (view_perm (h' := ⟨some b2, 75, cap * 3, ((cc.set k (⟨[.int ((K : Nat) : Int), a0, a1], rfl⟩ : Cells 3)).map Subtype.val).flatten⟩ :: (n1 ++ (n0 ++ (ms.flatten ++ ((hs.drop (k + 1)).flatten ++ F))))) mark_mid) ?_
    repeat' (first
      | (refine j_go ?_; first
        | refine j_op0 rfl rfl rfl rfl ?_ | (refine j_kBin rfl ?_; first | refine j_in rfl rfl ⟨by omega, by omega⟩ rfl rfl ?_))
      | refine j_nil ?_
      | (refine r_go ?_; first | refine run_region ?_)
      | refine seqQ_normal ?_ | refine blockQ_normal ?_)
    refine loopQ_view (view_perm (h' := ⟨some b2, 75, cap * 3, ((cc.set k (⟨[.int ((K : Nat) : Int), a0, a1], rfl⟩ : Cells 3)).map Subtype.val).flatten⟩ :: ((ms ++ [(n0 ++ n1)]).flatten ++ ((hs.drop (k + 1)).flatten ++ F))) (List.Perm.cons _ (by
      simp only [List.flatten_append, List.flatten_cons, List.flatten_nil, List.append_nil, List.append_assoc, List.cons_append]
      exact (by classical exact List.perm_iff_count.2 fun _ => by simp only [List.count_append, List.count_cons]; omega)))) ?_
    refine loopQ_next (k + 1, cc.set k (⟨[.int ((K : Nat) : Int), a0, a1], rfl⟩ : Cells 3), ms ++ [(n0 ++ n1)]) ⟨by dsimp only; omega, by dsimp only; rw [List.length_set]; omega, by simp [g3], fun i hi => by dsimp only at hi ⊢; rw [List.getElem?_set_ne (by omega)]; exact g4 i (by omega), fun i h0 h1' h2' => ?_⟩ (by dsimp only; omega) rfl ⟨rfl, (by dsimp only; rw [hsn, ← Nat.add_assoc, eK, hcn]; exact si (by omega)), nx _, trivial⟩
    dsimp only at h1' h2' ⊢
    by_cases hik : i < k
    · have e9 : (cc.set k (⟨[.int ((K : Nat) : Int), a0, a1], rfl⟩ : Cells 3))[i] = cc[i]'(by omega) := List.getElem_set_ne (by omega) _
      have e8 : (ms ++ [(n0 ++ n1)])[i] = ms[i]'(by omega) := List.getElem_append_left (by omega)
      rw [e9, e8]; exact g5 i h0 _ _
    · have : i = k := by simp at h2'; omega
      subst this
      have e9 : (cc.set i (⟨[.int ((K : Nat) : Int), a0, a1], rfl⟩ : Cells 3))[i] = ⟨[.int ((K : Nat) : Int), a0, a1], rfl⟩ := List.getElem_set_self _
      have e8 : (ms ++ [(n0 ++ n1)])[i] = (n0 ++ n1) := by rw [List.getElem_append_right (by omega)]; simp [g3]
      rw [e9, e8, eK]
      exact ⟨a0, n0, p0, a1, n1, p1, rfl, rfl⟩
  · repeat' (first
      | (refine j_go ?_; first
        | refine j_op0 rfl rfl rfl rfl ?_ | (refine j_kLen rfl ?_; first | refine j_op rfl rfl rfl rfl ?_))
      | refine j_nil ?_
      | (refine r_go ?_; first | refine run_seq ?_ | refine run_region ?_ | (refine (run_if rfl (fun hb => ?_) (fun hb => ?_)) <;> first | (exfalso; omega) | skip) | refine run_ret ?_ | refine run_exit ?_)
      | refine seqQ_normal ?_ | refine seqQ_exit ?_ | refine blockQ_eq ?_ | refine loopQ_exit ?_)
    have : k = L.length := by omega
    subst this
    have e : (hs.drop L.length).flatten = [] := by rw [List.drop_of_length_le (by omega)]; rfl
    have e2 : mcnt rcPassRule (L.take L.length) = mcnt rcPassRule L := by rw [List.take_length]
    exact endD_ret (h1 := ⟨b, 75, cap * 3, (cc.map Subtype.val).flatten⟩ :: ms.flatten) (by rw [e]; simp) (.cons (.tmp rfl) .nil) (Le.refl _) ⟨by rw [e2]; rfl, .inl ⟨b, cap, cc, ms, by rw [mksL_len]; exact g2, by rw [mksL_len]; exact g3, fun i h0 h1 h2 => by
      rw [mksL_get L k0 i (by rw [mksL_len] at h0; exact h0)]
      exact g5 i (by rw [mksL_len] at h0; exact h0) h1 h2, by rw [mksL_len], rfl⟩⟩ (.inl rfl)
theorem c_heldPassRuleS (L : List PassRule) (k0 : Nat) (hk : k0 + mcnt rcPassRule L ≤ 4611686018427387904) : Gives Tryz.prog 67 [.sl ((mksL rcPassRule mkPassRule k0 L).map encPassRule), .int (k0 : Int)] (.int ((k0 + mcnt rcPassRule L : Nat) : Int)) := by
  have hn : (mksL rcPassRule mkPassRule k0 L).length = L.length := mksL_len L k0
  refine fn_of_run tyOk ztOk mix Tryz.func67 rfl (by decide) Tryz.ntmps67 (fun w0 h => ?_)
  refine run_len (t := 0) rfl (fun hmx => ?_)
  rw [List.length_map, hn] at hmx
  repeat' (first
      | (refine j_go ?_; first
        | refine j_op0 rfl rfl rfl rfl ?_)
      | refine j_nil ?_
      | (refine r_go ?_; first | refine run_seq ?_ | refine run_region ?_ | refine run_block ?_)
      | refine seqQ_normal ?_)
  refine run_loop (fun i : Nat => [(0, .sl ((mksL rcPassRule mkPassRule k0 L).map encPassRule)), (1, .int ((k0 + mcnt rcPassRule (L.take i) : Nat) : Int)), (5, .int (i : Int))]) (fun _ => h) (fun i => i ≤ L.length) (fun i => L.length - i) 0 ⟨rfl, (by simp [mcnt]; rfl), rfl, trivial⟩ rfl (by omega) ?_
  intro i g1
  by_cases hi : i < L.length
  · have hLi := mksL_get (cnt := rcPassRule) (mk := mkPassRule) L k0 i hi
    have hsn := mcnt_take (f := rcPassRule) hi
    have hlt := mcnt_take_le (f := rcPassRule) (i + 1) L
    have hcn : rcPassRule L[i] = 1 + L[i].out.length + L[i].in_.length := rfl
    generalize eK : k0 + mcnt rcPassRule (L.take i) = K at hLi ⊢
    have e0 : (mksL rcPassRule mkPassRule k0 L)[i].cell = ((K : Nat) : Int) := by rw [hLi]; rfl
    have q1 := c_heldInt64S (mksL rcPassRule mkPassRule k0 L)[i].out (K + 1) (by rw [hLi]; exact fun _ _ => markedI_get _) (by rw [hLi]; simp only [mkPassRule, markedI_len]; omega)
    rw [show (mksL rcPassRule mkPassRule k0 L)[i].out.length = L[i].out.length from by rw [hLi]; exact markedI_len] at q1
    have q2 := c_heldInt64S (mksL rcPassRule mkPassRule k0 L)[i].in_ (K + 1 + L[i].out.length) (by rw [hLi]; exact fun _ _ => markedI_get _) (by rw [hLi]; simp only [mkPassRule, markedI_len]; omega)
    rw [show (mksL rcPassRule mkPassRule k0 L)[i].in_.length = L[i].in_.length from by rw [hLi]; exact markedI_len] at q2
    repeat' (first
      | (refine j_go ?_; first
        | refine j_op0 rfl rfl rfl rfl ?_ | (refine j_kIdx rfl ?_; first | refine j_idx rfl rfl rfl rfl rfl (by omega) rfl rfl rfl ?_) | (refine j_kBin rfl ?_; first | refine j_in rfl rfl ⟨by omega, by omega⟩ rfl rfl ?_) | (refine j_kLen rfl ?_; first | refine j_len rfl rfl rfl rfl rfl rfl ?_) | (refine j_kCall rfl rfl rfl rfl ?_; first | refine jc (q1) (LeL.refl _) rfl rfl ?_ | refine jc (q2) (LeL.refl _) rfl rfl ?_))
      | refine j_nil ?_
      | (refine r_go ?_; first | refine run_seq ?_ | refine run_region ?_ | (refine (run_if rfl (fun hb => ?_) (fun hb => ?_)) <;> first | (exfalso; omega) | skip) | (refine (run_ifn rfl (fun hb => ?_) (fun hb => ?_)) <;> first | (exfalso; omega) | skip) | refine run_block ?_ | refine run_skip ?_)
      | refine seqQ_normal ?_ | refine blockQ_normal ?_)
    all_goals first | exact loopQ_next (i + 1) (by omega) (by omega) rfl ⟨rfl, (by rw [hsn, ← Nat.add_assoc, eK, hcn]; exact si (by omega)), nx _, trivial⟩ | (exfalso; omega) | trace_state
  · repeat' (first
      | (refine j_go ?_; first
        | refine j_op0 rfl rfl rfl rfl ?_ | (refine j_kLen rfl ?_; first | refine j_len rfl rfl rfl rfl rfl rfl ?_))
      | refine j_nil ?_
      | (refine r_go ?_; first | refine run_seq ?_ | refine run_region ?_ | (refine (run_if rfl (fun hb => ?_) (fun hb => ?_)) <;> first | (exfalso; omega) | skip) | refine run_ret ?_ | refine run_exit ?_)
      | refine seqQ_normal ?_ | refine seqQ_exit ?_ | refine blockQ_eq ?_ | refine loopQ_exit ?_)
    have : i = L.length := by omega
    subst this
    exact end1 rfl (List.Sublist.refl _) (by rw [List.take_length]) (.inl rfl)

def rcPassing (x : Passing) : Nat := x.parents.length + x.free.length + mcnt rcPassRule x.rules
noncomputable def mkPassing (k : Nat) (x : Passing) : Passing := ⟨x.kinds, markedI k x.parents.length, markedB (k + x.parents.length) x.free.length, mksL rcPassRule mkPassRule (k + x.parents.length + x.free.length) x.rules⟩
theorem r_markPassing (x : Passing) (a : A) (h : Heap) (k0 : Nat) (o : ROPassing x a h) (hk : k0 + rcPassing x ≤ 4611686018427387904) : Does Tryz.prog 18 [a, .int (k0 : Int)] h (fun v h' => v = .int ((k0 + rcPassing x : Nat) : Int) ∧ ROPassing (mkPassing k0 x) a h') := by
  obtain ⟨a1, h1, o1, a2, h2, o2, a3, h3, o3, rfl, rfl⟩ := o
  unfold rcPassing at hk
  refine fn_of_runD tyOk ztOk mix Tryz.func18 rfl (by decide) Tryz.ntmps18 (fun w0 F => ?_)
  refine run_heq (h' := h1 ++ (h2 ++ (h3 ++ F))) (by simp only [List.append_assoc]) ?_
  repeat' (first
      | (refine j_go ?_; first
        | refine j_op0 rfl rfl rfl rfl ?_ | refine j_box rfl rfl rfl rfl rfl rfl ?_)
      | refine j_nil ?_
      | (refine r_go ?_; first | refine run_seq ?_ | refine run_region ?_)
      | refine seqQ_normal ?_)
  refine j_kCall rfl rfl rfl rfl ?_
  refine jcp _ (r_markI _ _ _ k0 o1 (by omega)) (List.Perm.refl _) (LeL.refl _) rfl rfl (fun v n1 hR => ?_)
  obtain ⟨rfl, p1⟩ := hR
  repeat' (first
      | (refine j_go ?_; first
        | refine j_op0 rfl rfl rfl rfl ?_)
      | refine j_nil ?_
      | (refine r_go ?_; first | refine run_seq ?_ | refine run_region ?_)
      | refine seqQ_normal ?_)
  refine j_kCall rfl rfl rfl rfl ?_
  refine jcp _ (r_markB _ _ _ (k0 + x.parents.length) o2 (by omega)) (pmid0 (l1 := n1)) (LeL.refl _) rfl rfl (fun v n2 hR => ?_)
  obtain ⟨rfl, p2⟩ := hR
  refine j_view (view_perm (h' := h3 ++ (n1 ++ (n2 ++ F))) (by classical exact List.perm_iff_count.2 fun _ => by simp only [List.count_append]; omega)) ?_
  repeat' (first
      | (refine j_go ?_; first
        | refine j_op0 rfl rfl rfl rfl ?_)
      | refine j_nil ?_
      | (refine r_go ?_; first | refine run_seq ?_ | refine run_region ?_)
      | refine seqQ_normal ?_)
  refine j_kCall rfl rfl rfl rfl ?_
  refine jcp _ (r_markPassRule _ _ _ (k0 + x.parents.length + x.free.length) o3 (by omega)) (List.Perm.refl _) (LeL.refl _) rfl rfl (fun v n3 hR => ?_)
  obtain ⟨rfl, p3⟩ := hR
  repeat' (first
      | (refine j_go ?_; first
        | refine j_op0 rfl rfl rfl rfl ?_)
      | refine j_nil ?_
      | (refine r_go ?_; first | refine run_seq ?_ | refine run_region ?_ | refine run_ret ?_)
      | refine seqQ_normal ?_)
  refine endD_view (view_perm (h' := (n1 ++ (n2 ++ n3)) ++ F) (by classical exact List.perm_iff_count.2 fun _ => by simp only [List.count_append]; omega)) ?_
  exact endD_ret (h1 := n1 ++ (n2 ++ n3)) rfl (.cons (.tmp rfl) .nil) (Le.refl _) ⟨ani (by unfold rcPassing; omega), a1, n1, p1, a2, n2, p2, a3, n3, p3, rfl, rfl⟩ (.inl rfl)
theorem c_heldPassing (x : Passing) (k0 : Nat) (hk : k0 + rcPassing x ≤ 4611686018427387904) : Gives Tryz.prog 19 [.agg (encPassing (mkPassing k0 x)), .int (k0 : Int)] (.int ((k0 + rcPassing x : Nat) : Int)) := by
  unfold rcPassing at hk
  refine fn_of_run tyOk ztOk mix Tryz.func19 rfl (by decide) Tryz.ntmps19 (fun w0 h => ?_)
  have q1 := c_heldInt64S (markedI k0 x.parents.length) k0 (fun _ _ => markedI_get _) (by rw [markedI_len]; omega)
  have q2 := c_heldBoolS (k0 + x.parents.length) x.free.length (by omega)
  have q3 := c_heldPassRuleS x.rules (k0 + x.parents.length + x.free.length) (by omega)
  rw [markedI_len] at q1
  repeat' (first
      | (refine j_go ?_; first
        | refine j_op0 rfl rfl rfl rfl ?_ | (refine j_kCall rfl rfl rfl rfl ?_; first | refine jc (q1) (LeL.refl _) rfl rfl ?_ | refine jc (q2) (LeL.refl _) rfl rfl ?_ | refine jc (q3) (LeL.refl _) rfl rfl ?_) | refine j_box rfl rfl rfl rfl rfl rfl ?_)
      | refine j_nil ?_
      | (refine r_go ?_; first | refine run_seq ?_ | refine run_region ?_ | (refine (run_if rfl (fun hb => ?_) (fun hb => ?_)) <;> first | (exfalso; omega) | skip) | refine run_ret ?_ | refine run_skip ?_)
      | refine seqQ_normal ?_)
  all_goals first | (exfalso; omega) | exact end1 rfl (List.Sublist.refl _) (ani (by unfold rcPassing; omega)) (.inl rfl) | trace_state
end Go.Proofs.YtmcljepicadjfaaGreatDoor
