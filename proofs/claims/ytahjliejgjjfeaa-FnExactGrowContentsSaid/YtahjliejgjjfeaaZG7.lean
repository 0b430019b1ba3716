/-
  Copies of lists in memory of the call's own, their marks, and what is held. No condition but that the sizes are bounded.
-/
import Derived.Test.YtahjliejgjjfeaaZS3e
import Derived.Test.YtahjliejgjjfeaaZJO
namespace Go.Proofs.Ytahjliejgjjfeaa
open Go.AI
set_option maxRecDepth 8000
set_option maxHeartbeats 1600000
def EI (x : Int) (cs : List A) (h : Heap) : Prop := cs = Go.AI.encI x ∧ h = []
theorem EI_frz (x : Int) (cs : List A) (h : Heap) (q : EI x cs h) : FrzL h cs (Go.AI.encI x) := by obtain ⟨rfl, rfl⟩ := q; exact FrzL.cons (Frz.same _ _) (FrzL.nil _)
theorem n_toInt64S (l : List Int) (hl : l.length ≤ 1048576) : Does Try.prog 31 [.sl (l.map Go.AI.encI)] [] (fun v h' => OwnSl EI 2 1 l v h') := by
  refine fn_of_runD tyOk ztOk mix Try.func31 rfl (by decide) Try.ntmps31 (fun w0 F => ?_)
  change Run _ _ _ _ _ F
  repeat' (first
      | (refine j_go ?_; first
        | refine j_op0 rfl rfl rfl rfl ?_ | (refine j_kLen rfl ?_; first | refine j_len rfl rfl rfl rfl rfl rfl ?_))
      | refine j_nil ?_
      | (refine r_go ?_; first | refine run_seq ?_ | refine run_region ?_)
      | refine seqQ_normal ?_)
  refine j_makeI (g := Go.AI.encI) 0 rfl rfl rfl rfl rfl rfl rfl rfl rfl (by omega) rfl rfl (fun b => ?_)
  repeat' (first
      | (refine j_go ?_; first
        | refine j_op0 rfl rfl rfl rfl ?_)
      | refine j_nil ?_
      | (refine r_go ?_; first | refine run_seq ?_ | refine run_region ?_ | refine run_block ?_)
      | refine seqQ_normal ?_)
  refine run_loop (fun k : Nat => [(0, .sl (l.map Go.AI.encI)), (3, .os (some b) l.length l.length), (4, .int (k : Int))]) (fun k => ⟨some b, 2, l.length * 1, ((l.take k ++ List.replicate (l.length - k) 0).map Go.AI.encI).flatten⟩ :: F)
      (fun k => k ≤ l.length) (fun k => l.length - k) 0 ⟨rfl, rfl, rfl, trivial⟩ (by simp) (by omega) ?_
  intro k g1
  repeat' (first
      | (refine j_go ?_; first
        | refine j_op0 rfl rfl rfl rfl ?_ | (refine j_kIdx rfl ?_; first | refine j_idx rfl rfl rfl rfl rfl (by omega) rfl rfl rfl ?_ | refine j_midx rfl rfl rfl rfl rfl (by first | omega | (simp only [List.length_append, List.length_cons, List.length_nil]; omega)) rfl rfl ?_) | (refine j_kLen rfl ?_; first | refine j_len rfl rfl rfl rfl rfl rfl ?_))
      | refine j_nil ?_
      | (refine r_go ?_; first | refine run_seq ?_ | refine run_region ?_ | (refine (run_if rfl (fun hb => ?_) (fun hb => ?_)) <;> first | (exfalso; omega) | skip) | refine run_block ?_ | refine run_ret ?_ | refine run_exit ?_ | refine run_skip ?_)
      | refine seqQ_normal ?_ | refine seqQ_exit ?_ | refine blockQ_eq ?_ | refine loopQ_exit ?_)
  · have hk : k < l.length := by omega
    refine j_storeE 0 k (g := Go.AI.encI) l[k] rfl rfl rfl rfl rfl rfl rfl rfl rfl (fun _ => rfl : ∀ y, (Go.AI.encI y).length = 1) rfl (by simp; omega) ?_
    repeat' (first
      | (refine j_go ?_; first
        | refine j_op0 rfl rfl rfl rfl ?_ | (refine j_kBin rfl ?_; first | refine j_in rfl rfl ⟨by omega, by omega⟩ rfl rfl ?_))
      | refine j_nil ?_
      | (refine r_go ?_; first | refine run_region ?_)
      | refine seqQ_normal ?_ | refine blockQ_normal ?_)
    exact loopQ_next (k + 1) (by omega) (by omega) (by rw [← take_rep_set hk]; rfl) ⟨rfl, rfl, nx _, trivial⟩
  · have : k = l.length := by omega
    subst this
    refine endD_ret (h1 := [⟨some b, 2, l.length * 1, (l.map Go.AI.encI).flatten⟩]) (by simp) (.cons (.tmp rfl) .nil) (Le.refl _) (own_flat fun _ => rfl) (.inl rfl)
/-- .. whatever stood there. -/
theorem x_markInt64S (b : Option Nat) (cap room k0 : Nat) (cs : List A) (hk : k0 + cs.length ≤ 4611686018427387904) :
    Does Try.prog 35 [.os b cs.length cap, .int (k0 : Int)] [⟨b, 2, room, (cs.map fun a => [a]).flatten⟩] (fun v h' => v = .int ((k0 + cs.length : Nat) : Int) ∧ h' = [⟨b, 2, room, (((List.range cs.length).map fun i => A.int ((k0 + i : Nat) : Int)).map fun a => [a]).flatten⟩]) := by
  refine fn_of_runD tyOk ztOk mix Try.func35 rfl (by decide) Try.ntmps35 (fun w0 F => ?_)
  repeat' (first
      | (refine j_go ?_; first
        | refine j_op0 rfl rfl rfl rfl ?_)
      | refine j_nil ?_
      | (refine r_go ?_; first | refine run_seq ?_ | refine run_region ?_ | refine run_block ?_)
      | refine seqQ_normal ?_)
  refine run_loop (fun i : Nat => [(0, .os b cs.length cap), (1, .int ((k0 + i : Nat) : Int)), (5, .int (i : Int))]) (fun i => ⟨b, 2, room, ((((List.range i).map fun q => A.int ((k0 + q : Nat) : Int)) ++ cs.drop i).map fun a => [a]).flatten⟩ :: F)
      (fun i => i ≤ cs.length) (fun i => cs.length - i) 0 ⟨rfl, rfl, rfl, trivial⟩ (by simp) (by omega) ?_
  intro i g1
  by_cases hi : i < cs.length
  · refine run_some 0 rfl (by rw [sing_flat]; intro q; have := congrArg List.length q; simp at this; omega) (fun b' hb' => ?_)
    subst hb'
    repeat' (first
      | (refine j_go ?_; first
        | refine j_op0 rfl rfl rfl rfl ?_ | (refine j_kIdx rfl ?_; first | refine j_midx rfl rfl rfl rfl rfl (by first | omega | (simp only [List.length_append, List.length_cons, List.length_nil]; omega)) rfl rfl ?_) | (refine j_kLen rfl ?_; first | refine j_op rfl rfl rfl rfl ?_))
      | refine j_nil ?_
      | (refine r_go ?_; first | refine run_seq ?_ | refine run_region ?_ | (refine (run_if rfl (fun hb => ?_) (fun hb => ?_)) <;> first | (exfalso; omega) | skip) | refine run_block ?_ | refine run_skip ?_)
      | refine seqQ_normal ?_)
    refine j_storeE 0 i (g := fun a => [a]) (A.int ((k0 + i : Nat) : Int)) rfl rfl rfl rfl rfl rfl rfl rfl rfl (fun _ => rfl : ∀ y, ([y] : List A).length = 1) rfl (by simp; omega) ?_
    repeat' (first
      | (refine j_go ?_; first
        | refine j_op0 rfl rfl rfl rfl ?_ | (refine j_kBin rfl ?_; first | refine j_in rfl rfl ⟨by omega, by omega⟩ rfl rfl ?_))
      | refine j_nil ?_
      | (refine r_go ?_; first | refine run_region ?_)
      | refine seqQ_normal ?_ | refine blockQ_normal ?_)
    exact loopQ_next (i + 1) (by omega) (by omega) (by rw [← range_set (f := fun q => A.int ((k0 + q : Nat) : Int)) _ rfl hi]; rfl) ⟨rfl, nx (k0 + i), nx _, trivial⟩
  · repeat' (first
      | (refine j_go ?_; first
        | refine j_op0 rfl rfl rfl rfl ?_ | (refine j_kLen rfl ?_; first | refine j_op rfl rfl rfl rfl ?_))
      | refine j_nil ?_
      | (refine r_go ?_; first | refine run_seq ?_ | refine run_region ?_ | (refine (run_if rfl (fun hb => ?_) (fun hb => ?_)) <;> first | (exfalso; omega) | skip) | refine run_ret ?_ | refine run_exit ?_)
      | refine seqQ_normal ?_ | refine seqQ_exit ?_ | refine blockQ_eq ?_ | refine loopQ_exit ?_)
    have : i = cs.length := by omega
    subst this
    exact endD_ret (h1 := [_]) rfl (.cons (.tmp rfl) .nil) (Le.refl _) ⟨rfl, by rw [List.drop_length, List.append_nil]⟩ (.inl rfl)
theorem m_markInt64S (l : List Int) (a : A) (h : Heap) (k0 : Nat) (ho : OwnSl EI 2 1 l a h) (hk : k0 + l.length ≤ 4611686018427387904) : Does Try.prog 35 [a, .int (k0 : Int)] h (fun v h' => v = .int ((k0 + l.length : Nat) : Int) ∧ h' = []) := by
  obtain ⟨b, cs, rfl, hc, rfl⟩ := own_unflat (fun x => ⟨_, rfl⟩) ho
  have := x_markInt64S (some b) l.length (l.length * 1) k0 cs (by omega)
  rw [hc] at this
  exact this.drop fun v h' ⟨q1, q2⟩ => ⟨h', [], .refl _, List.nil_sublist _, q1, rfl⟩
theorem c_heldInt64S (L : List Int) (k0 : Nat) (hL : ∀ i (h : i < L.length), L[i] = ((k0 + i : Nat) : Int)) (hk : k0 + L.length ≤ 4611686018427387904) : Gives Try.prog 36 [.sl (L.map Go.AI.encI), .int (k0 : Int)] (.int ((k0 + L.length : Nat) : Int)) := by
  refine fn_of_run tyOk ztOk mix Try.func36 rfl (by decide) Try.ntmps36 (fun w0 h => ?_)
  repeat' (first
      | (refine j_go ?_; first
        | refine j_op0 rfl rfl rfl rfl ?_)
      | refine j_nil ?_
      | (refine r_go ?_; first | refine run_seq ?_ | refine run_region ?_ | refine run_block ?_)
      | refine seqQ_normal ?_)
  refine run_loop (fun i : Nat => [(0, .sl (L.map Go.AI.encI)), (1, .int ((k0 + i : Nat) : Int)), (5, .int (i : Int))]) (fun _ => h) (fun i => i ≤ L.length) (fun i => L.length - i) 0 ⟨rfl, rfl, rfl, trivial⟩ rfl (by omega) ?_
  intro i g1
  by_cases hi : i < L.length
  · have hLi := hL i hi
    repeat' (first
      | (refine j_go ?_; first
        | refine j_op0 rfl rfl rfl rfl ?_ | (refine j_kIdx rfl ?_; first | refine j_idx rfl rfl rfl rfl rfl (by omega) rfl rfl rfl ?_) | (refine j_kBin rfl ?_; first | refine j_in rfl rfl ⟨by omega, by omega⟩ rfl rfl ?_) | (refine j_kLen rfl ?_; first | refine j_len rfl rfl rfl rfl rfl rfl ?_))
      | refine j_nil ?_
      | (refine r_go ?_; first | refine run_seq ?_ | refine run_region ?_ | (refine (run_if rfl (fun hb => ?_) (fun hb => ?_)) <;> first | (exfalso; omega) | skip) | (refine (run_ifn rfl (fun hb => ?_) (fun hb => ?_)) <;> first | (exfalso; omega) | skip) | refine run_block ?_ | refine run_skip ?_)
      | refine seqQ_normal ?_ | refine blockQ_normal ?_)
    all_goals first | exact loopQ_next (i + 1) (by omega) (by omega) rfl ⟨rfl, nx (k0 + i), nx _, trivial⟩ | exact absurd hLi hb
  · repeat' (first
      | (refine j_go ?_; first
        | refine j_op0 rfl rfl rfl rfl ?_ | (refine j_kLen rfl ?_; first | refine j_len rfl rfl rfl rfl rfl rfl ?_))
      | refine j_nil ?_
      | (refine r_go ?_; first | refine run_seq ?_ | refine run_region ?_ | (refine (run_if rfl (fun hb => ?_) (fun hb => ?_)) <;> first | (exfalso; omega) | skip) | refine run_ret ?_ | refine run_exit ?_)
      | refine seqQ_normal ?_ | refine seqQ_exit ?_ | refine blockQ_eq ?_ | refine loopQ_exit ?_)
    have : i = L.length := by omega
    subst this
    exact end1 rfl (List.Sublist.refl _) rfl (.inl rfl)
def marked (k0 n : Nat) : List Int := (List.range n).map fun i => ((k0 + i : Nat) : Int)
theorem marked_len {k0 n : Nat} : (marked k0 n).length = n := by simp [marked]
theorem marked_get {k0 n : Nat} (i : Nat) (h : i < (marked k0 n).length) : (marked k0 n)[i] = ((k0 + i : Nat) : Int) := by simp [marked]
theorem c_heldM (k0 n : Nat) (hk : k0 + n ≤ 4611686018427387904) : Gives Try.prog 36 [.sl ((marked k0 n).map Go.AI.encI), .int (k0 : Int)] (.int ((k0 + n : Nat) : Int)) := by
  have := c_heldInt64S (marked k0 n) k0 marked_get (by rw [marked_len]; exact hk)
  rw [marked_len] at this
  exact this
theorem x_markI (b : Option Nat) (cap k0 : Nat) (r : List Int) (hk : k0 + r.length ≤ 4611686018427387904) :
    Does Try.prog 35 [.os b r.length cap, .int (k0 : Int)] [⟨b, 2, cap * 1, (r.map Go.AI.encI).flatten⟩] (fun v h' => v = .int ((k0 + r.length : Nat) : Int) ∧ h' = [⟨b, 2, cap * 1, ((marked k0 r.length).map Go.AI.encI).flatten⟩]) := by
  have := x_markInt64S b cap (cap * 1) k0 (r.map A.int) (by simpa using hk)
  have e1 : ((r.map A.int).map fun a => [a]) = r.map Go.AI.encI := by simp [Go.AI.encI]
  have e2 : (((List.range r.length).map fun i => A.int ((k0 + i : Nat) : Int)).map fun a => [a]) = (marked k0 r.length).map Go.AI.encI := by simp [Go.AI.encI, marked]
  rw [e1, List.length_map, e2] at this
  exact this
theorem Frz.markI {b : Option Nat} {T cap k0 n : Nat} : Frz [⟨b, T, cap * 1, ((marked k0 n).map Go.AI.encI).flatten⟩] (.os b n cap) (.sl ((marked k0 n).map Go.AI.encI)) := Frz.flat marked_len.symm rfl (fun _ => rfl) rfl rfl
end Go.Proofs.Ytahjliejgjjfeaa

/-
  Lists of numbers that hold what a condition picks, and answers in memory of the call's own. No condition.
-/
namespace Go.Proofs.Ytahjliejgjjfeaa
open Go.AI

open Classical in
/-- A list where a condition holds, else the empty one. -/
noncomputable def lsP (p : Prop) (l : List Int) : List Int := if p then l else []
theorem ls_t {p : Prop} (h : p) (l : List Int) : lsP p l = l := by unfold lsP; rw [if_pos h]
theorem ls_f {p : Prop} (h : ¬p) (l : List Int) : lsP p l = [] := by unfold lsP; rw [if_neg h]
theorem ls_len {p : Prop} {l : List Int} {n : Nat} (h : p → l.length ≤ n) : (lsP p l).length ≤ n := by
  by_cases q : p
  · rw [ls_t q]; exact h q
  · rw [ls_f q]; exact Nat.zero_le _
/-- What a call hands back that answers with a list of numbers in memory of its own, and a code. -/
def OwnI (l : List Int) (c : Int) : A → Heap → Prop := fun v h' => ∃ b cap, v = .tup [.os b l.length cap, .int c] ∧ h' = [⟨b, 2, cap * 1, (l.map Go.AI.encI).flatten⟩]
end Go.Proofs.Ytahjliejgjjfeaa

/-
  The bag of all objects, on both sides: TotalBag. No condition.
-/
namespace Go.Proofs.Ytahjliejgjjfeaa
open Go.AI
set_option maxRecDepth 8000
set_option maxHeartbeats 1600000

/-- A list in memory of the call's own. -/
def OwnL (l : List Int) : A → Heap → Prop := fun v h' => ∃ b cap, v = .os b l.length cap ∧ h' = [⟨b, 2, cap * 1, (l.map Go.AI.encI).flatten⟩]
theorem OwnL.clo {l : List Int} {v : A} {h1 : Heap} (q : OwnL l v h1) : Clo v ∧ CloH h1 := by
  obtain ⟨b, cap, rfl, rfl⟩ := q
  exact ⟨Clo.os _ _ _, CloH.cons (CloL.mapInt _ _) CloH.nil⟩
open Classical in
noncomputable def cdL (p : Prop) : Int := if p then 0 else 3
/-- All objects of what is around and of the first k cells. -/
def totK (t : State) : Nat → List Int
  | 0 => t.around
  | k + 1 => plusL (totK t k) (t.bags.getD k []) 1
open Classical in
noncomputable def codeTotalBag (s : System) (t : State) : Int := if s.Ok ∧ s.StateOk t then cdL (Bag (totK t t.bags.length)) else 1
end Go.Proofs.Ytahjliejgjjfeaa

/-
  The data of the laws' theme 7, as structures, and the helpers of the laws over them: sizes, copies, comparisons. No condition but that the sizes are at most 1048576.
-/
namespace Go.Proofs.Ytahjliejgjjfeaa
open Go.AI
set_option maxRecDepth 8000

structure Cnf where
  vars : Int
  clauses : List (List Int)
  deriving DecidableEq, Inhabited
/-- What its size tells of it. -/
structure OkCnf (x : Cnf) : Prop where
  clauses : x.clauses.length ≤ 1048576 ∧ ∀ r ∈ x.clauses, r.length ≤ 1048576
structure Group where
  charge : Int
  contents : List Int
  count : Int
  deriving DecidableEq, Inhabited
def encGroup (x : Group) : List A := [.int x.charge, .sl (x.contents.map Go.AI.encI), .int x.count]
/-- What its size tells of it. -/
structure OkGroup (x : Group) : Prop where
  contents : x.contents.length ≤ 1048576
structure Colony where
  skin : List Int
  groups : List Group
  deriving DecidableEq, Inhabited
def encColony (x : Colony) : List A := [.sl (x.skin.map Go.AI.encI), .sl (x.groups.map encGroup)]
/-- What its size tells of it. -/
structure OkColony (x : Colony) : Prop where
  skin : x.skin.length ≤ 1048576
  groups : x.groups.length ≤ 1048576 ∧ ∀ r ∈ x.groups, OkGroup r
structure DivRule where
  kind : Int
  charge : Int
  object : Int
  to : Int
  first : List Int
  toB : Int
  second : List Int
  deriving DecidableEq, Inhabited
def encDivRule (x : DivRule) : List A := [.int x.kind, .int x.charge, .int x.object, .int x.to, .sl (x.first.map Go.AI.encI), .int x.toB, .sl (x.second.map Go.AI.encI)]
def szDivRule (left : Int) (x : DivRule) : Int := if szR left x.first < 0 then -1 else if szR (szR left x.first) x.second < 0 then -1 else szR (szR left x.first) x.second
/-- What its size tells of it. -/
structure OkDivRule (x : DivRule) : Prop where
  first : x.first.length ≤ 1048576
  second : x.second.length ≤ 1048576
theorem szDivRule_le {left : Int} {x : DivRule} (h1 : -1 ≤ left) (h2 : left ≤ 1048576) : -1 ≤ szDivRule left x ∧ szDivRule left x ≤ 1048576 := by
  have l0 : -1 ≤ szR left x.first ∧ szR left x.first ≤ 1048576 := szR_le h1 h2
  have l1 : -1 ≤ szR (szR left x.first) x.second ∧ szR (szR left x.first) x.second ≤ 1048576 := szR_le l0.1 l0.2
  unfold szDivRule
  repeat' split
  all_goals first | omega | assumption
theorem szDivRule_ok {left : Int} {x : DivRule} (h1 : -1 ≤ left) (h2 : left ≤ 1048576) (h : ¬ szDivRule left x < 0) : OkDivRule x := by
  have l0 : -1 ≤ szR left x.first ∧ szR left x.first ≤ 1048576 := szR_le h1 h2
  have l1 : -1 ≤ szR (szR left x.first) x.second ∧ szR (szR left x.first) x.second ≤ 1048576 := szR_le l0.1 l0.2
  unfold szDivRule at h
  split at h
  · exact absurd (by decide) h
  rename_i q0
  split at h
  · exact absurd (by decide) h
  rename_i q1
  exact ⟨(szR_ok h2 q0), (szR_ok l0.2 q1)⟩
theorem c_szDivRule (x : DivRule) (left : Int) (h1 : -1 ≤ left) (h2 : left ≤ 1048576) : Gives Try.prog 146 [.agg (encDivRule x), .int left] (.int (szDivRule left x)) := by
  have l0 : -1 ≤ szR left x.first ∧ szR left x.first ≤ 1048576 := szR_le h1 h2
  have l1 : -1 ≤ szR (szR left x.first) x.second ∧ szR (szR left x.first) x.second ≤ 1048576 := szR_le l0.1 l0.2
  refine fn_of_run tyOk ztOk mix Try.func146 rfl (by decide) Try.ntmps146 (fun w0 h => ?_)
  repeat' (first
      | (refine j_go ?_; first
        | refine j_op0 rfl rfl rfl rfl ?_ | (refine j_kCall rfl rfl rfl rfl ?_; first | refine jc (c_szInt64S _ _ (by omega) (by omega)) (LeL.refl _) rfl rfl ?_) | refine j_box rfl rfl rfl rfl rfl rfl ?_)
      | refine j_nil ?_
      | (refine r_go ?_; first | refine run_seq ?_ | refine run_region ?_ | (refine (run_if rfl (fun hb => ?_) (fun hb => ?_)) <;> first | (exfalso; omega) | skip) | refine run_ret ?_ | refine run_skip ?_)
      | refine seqQ_normal ?_ | refine seqQ_ret ?_)
  all_goals exact end1 rfl (List.Sublist.refl _) (ai (by unfold szDivRule; repeat' split; all_goals first | rfl | contradiction)) (.inl rfl)
theorem c_toDivRule (x : DivRule) (hx : OkDivRule x) : Gives Try.prog 148 [.agg (encDivRule x)] (.agg (encDivRule x)) := by
  obtain ⟨k0, k1⟩ := hx
  refine fn_of_run tyOk ztOk mix Try.func148 rfl (by decide) Try.ntmps148 (fun w0 h => ?_)
  repeat' (first
      | (refine j_go ?_; first
        | refine j_op0 rfl rfl rfl rfl ?_ | (refine j_kCall rfl rfl rfl rfl ?_; first | refine jc (c_toInt64S _ (by assumption)) (LeL.refl _) rfl rfl ?_) | (refine j_kLoad rfl ?_; first | refine j_mload 0 rfl rfl rfl rfl rfl rfl rfl ?_) | (refine j_kStore rfl ?_; first | refine j_store 0 rfl rfl rfl rfl rfl rfl rfl rfl rfl rfl rfl ?_ | refine j_storeN 1 rfl rfl rfl rfl rfl rfl rfl rfl rfl rfl rfl ?_) | refine j_box rfl rfl rfl rfl rfl rfl ?_ | refine j_alloc rfl rfl rfl rfl rfl (fun _ => ?_))
      | refine j_nil ?_
      | (refine r_go ?_; first | refine run_seq ?_ | refine run_region ?_ | refine run_ret ?_)
      | refine seqQ_normal ?_)
  exact end_cellM rfl 1 rfl rfl sub2 (Le.refl _) (.inl rfl)
theorem c_eqDivRule (x y : DivRule) : Gives Try.prog 156 [.agg (encDivRule x), .agg (encDivRule y)] (.raw (.bool (dec (x = y)))) := by
  refine fn_of_run tyOk ztOk mix Try.func156 rfl (by decide) Try.ntmps156 (fun w0 h => ?_)
  repeat' (first
      | (refine j_go ?_; first
        | refine j_op0 rfl rfl rfl rfl ?_ | (refine j_kCall rfl rfl rfl rfl ?_; first | refine jc (c_eqInt64S _ _) (LeL.refl _) rfl rfl ?_) | refine j_box rfl rfl rfl rfl rfl rfl ?_)
      | refine j_nil ?_
      | (refine r_go ?_; first | refine run_seq ?_ | refine run_region ?_ | (refine (run_ifn rfl (fun hb => ?_) (fun hb => ?_)) <;> first | (exfalso; omega) | skip) | refine run_ret ?_ | refine run_skip ?_)
      | refine seqQ_normal ?_ | refine seqQ_ret ?_)
  all_goals first | exact end1 rfl (List.Sublist.refl _) (rb (dec_f (fun q => hb (by rw [q]))).symm) (.inl rfl) | exact end1 rfl (List.Sublist.refl _) (rb (dec_t (by cases x; cases y; simp_all)).symm) (.inl rfl)
theorem c_szDivRuleS (l : List (DivRule)) (left : Int) (h1 : -1 ≤ left) (h2 : left ≤ 1048576) : Gives Try.prog 62 [.sl (l.map encDivRule), .int left] (.int (szSl szDivRule left l)) := by
  refine fn_of_run tyOk ztOk mix Try.func62 rfl (by decide) Try.ntmps62 (fun w0 h => ?_)
  refine run_len (t := 0) rfl (fun hl => ?_)
  rw [List.length_map] at hl
  repeat' (first
      | (refine j_go ?_; first
        | refine j_op0 rfl rfl rfl rfl ?_ | (refine j_kBin rfl ?_; first | refine j_in rfl rfl ⟨by omega, by omega⟩ rfl rfl ?_) | (refine j_kLen rfl ?_; first | refine j_len rfl rfl rfl rfl rfl rfl ?_))
      | refine j_nil ?_
      | (refine r_go ?_; first | refine run_seq ?_ | refine run_region ?_ | (refine (run_if rfl (fun hb => ?_) (fun hb => ?_)) <;> first | (exfalso; omega) | skip) | refine run_block ?_ | refine run_ret ?_ | refine run_skip ?_)
      | refine seqQ_normal ?_ | refine seqQ_ret ?_)
  · exact end1 rfl (List.Sublist.refl _) (by unfold szSl; rw [if_pos hb]; rfl) (.inl rfl)
  · unfold szSl
    rw [if_neg hb]
    refine run_loop (fun s : Nat × Int => [(0, .sl (l.map encDivRule)), (1, .int s.2), (5, .int (s.1 : Int))]) (fun _ => h)
      (fun s => s.1 ≤ l.length ∧ (-1 ≤ s.2 ∧ s.2 ≤ 1048576) ∧ szL szDivRule (left - l.length) l = szL szDivRule s.2 (l.drop s.1)) (fun s => l.length - s.1) (0, left - l.length) ⟨rfl, rfl, rfl, trivial⟩ rfl ⟨by omega, by omega, rfl⟩ ?_
    intro ⟨k, s⟩ ⟨g1, g2, g3⟩
    dsimp only at g1 g2 g3 ⊢
    have gn : ∀ (hk : k < l.length), szL szDivRule s (l.drop k) = if szDivRule s l[k] < 0 then -1 else szL szDivRule (szDivRule s l[k]) (l.drop (k + 1)) := fun hk => by
      rw [List.drop_eq_getElem_cons hk, szL]
    repeat' (first
      | (refine j_go ?_; first
        | refine j_op0 rfl rfl rfl rfl ?_ | (refine j_kIdx rfl ?_; first | refine j_idx rfl rfl rfl rfl rfl (by omega) rfl rfl rfl ?_) | (refine j_kBin rfl ?_; first | refine j_in rfl rfl ⟨by omega, by omega⟩ rfl rfl ?_) | (refine j_kLen rfl ?_; first | refine j_len rfl rfl rfl rfl rfl rfl ?_) | (refine j_kCall rfl rfl rfl rfl ?_; first | refine jc (c_szDivRule _ _ (by omega) (by omega)) (LeL.refl _) rfl rfl ?_))
      | refine j_nil ?_
      | (refine r_go ?_; first | refine run_seq ?_ | refine run_region ?_ | (refine (run_if rfl (fun hb => ?_) (fun hb => ?_)) <;> first | (exfalso; omega) | skip) | refine run_block ?_ | refine run_ret ?_ | refine run_exit ?_ | refine run_skip ?_)
      | refine seqQ_normal ?_ | refine seqQ_ret ?_ | refine seqQ_exit ?_ | refine blockQ_normal ?_ | refine blockQ_ret ?_ | refine blockQ_eq ?_ | refine loopQ_ret ?_ | refine loopQ_exit ?_)
    · rename_i hk
      exact end1 rfl (List.Sublist.refl _) (by rw [g3, gn (by omega), if_pos hb]; rfl) (.inl rfl)
    · rename_i hk
      have hk' : k < l.length := by omega
      exact loopQ_next (k + 1, szDivRule s l[k]) ⟨by dsimp only; omega, szDivRule_le (by omega) (by omega), by rw [g3, gn hk', if_neg hb]⟩ (by dsimp only; omega) rfl ⟨rfl, rfl, nx _, trivial⟩
    · have : k = l.length := by omega
      subst this
      exact end1 rfl (List.Sublist.refl _) (by rw [g3, List.drop_length, szL]) (.inl rfl)
theorem c_toDivRuleS (l : List (DivRule)) (hl : l.length ≤ 1048576) (hl2 : ∀ x ∈ l, (OkDivRule) x) : Gives Try.prog 66 [.sl (l.map encDivRule)] (.sl (l.map encDivRule)) := by
  refine fn_of_run tyOk ztOk mix Try.func66 rfl (by decide) Try.ntmps66 (fun w0 h => ?_)
  repeat' (first
      | (refine j_go ?_; first
        | refine j_op0 rfl rfl rfl rfl ?_ | (refine j_kLen rfl ?_; first | refine j_len rfl rfl rfl rfl rfl rfl ?_))
      | refine j_nil ?_
      | (refine r_go ?_; first | refine run_seq ?_ | refine run_region ?_)
      | refine seqQ_normal ?_)
  refine j_makeI (g := encDivRule) (⟨0, 0, 0, 0, [], 0, []⟩ : DivRule) rfl rfl rfl rfl rfl rfl rfl rfl rfl (by omega) rfl rfl (fun b => ?_)
  repeat' (first
      | (refine j_go ?_; first
        | refine j_op0 rfl rfl rfl rfl ?_)
      | refine j_nil ?_
      | (refine r_go ?_; first | refine run_seq ?_ | refine run_region ?_ | refine run_block ?_)
      | refine seqQ_normal ?_)
  refine run_loop (fun k : Nat => [(0, .sl (l.map encDivRule)), (3, .os (some b) l.length l.length), (4, .int (k : Int))]) (fun k => ⟨some b, 187, l.length * 7, ((l.take k ++ List.replicate (l.length - k) (⟨0, 0, 0, 0, [], 0, []⟩ : DivRule)).map encDivRule).flatten⟩ :: h)
      (fun k => k ≤ l.length) (fun k => l.length - k) 0 ⟨rfl, rfl, rfl, trivial⟩ (by simp) (by omega) ?_
  intro k g1
  repeat' (first
      | (refine j_go ?_; first
        | refine j_op0 rfl rfl rfl rfl ?_ | (refine j_kIdx rfl ?_; first | refine j_idx rfl rfl rfl rfl rfl (by omega) rfl rfl rfl ?_ | refine j_midx rfl rfl rfl rfl rfl (by first | omega | (simp only [List.length_append, List.length_cons, List.length_nil]; omega)) rfl rfl ?_) | (refine j_kLen rfl ?_; first | refine j_len rfl rfl rfl rfl rfl rfl ?_) | (refine j_kCall rfl rfl rfl rfl ?_; first | refine jc (c_toDivRule _ (hl2 _ (List.getElem_mem _))) (LeL.refl _) rfl rfl ?_))
      | refine j_nil ?_
      | (refine r_go ?_; first | refine run_seq ?_ | refine run_region ?_ | (refine (run_if rfl (fun hb => ?_) (fun hb => ?_)) <;> first | (exfalso; omega) | skip) | refine run_block ?_ | refine run_ret ?_ | refine run_exit ?_ | refine run_skip ?_)
      | refine seqQ_normal ?_ | refine seqQ_exit ?_ | refine blockQ_eq ?_ | refine loopQ_exit ?_)
  · have hk : k < l.length := by omega
    refine j_storeE 0 k (g := encDivRule) l[k] rfl rfl rfl rfl rfl rfl rfl rfl rfl (fun _ => rfl : ∀ y, (encDivRule y).length = 7) rfl (by simp; omega) ?_
    repeat' (first
      | (refine j_go ?_; first
        | refine j_op0 rfl rfl rfl rfl ?_ | (refine j_kBin rfl ?_; first | refine j_in rfl rfl ⟨by omega, by omega⟩ rfl rfl ?_))
      | refine j_nil ?_
      | (refine r_go ?_; first | refine run_region ?_)
      | refine seqQ_normal ?_ | refine blockQ_normal ?_)
    exact loopQ_next (k + 1) (by omega) (by omega) (by rw [← take_rep_set hk]; rfl) ⟨rfl, rfl, nx _, trivial⟩
  · have : k = l.length := by omega
    subst this
    refine end_view (view_freeze (g := encDivRule) (z := 7) (ys := l) 0 2 rfl rfl (by simp) (fun _ => rfl : ∀ y, (encDivRule y).length = 7) rfl rfl) ?_
    exact end1 rfl (List.Sublist.refl _) rfl (.inl rfl)
theorem c_eqDivRuleS (a b : List (DivRule)) : Gives Try.prog 69 [.sl (a.map encDivRule), .sl (b.map encDivRule)] (.raw (.bool (dec (a = b)))) := by
  refine fn_of_run tyOk ztOk mix Try.func69 rfl (by decide) Try.ntmps69 (fun w0 h => ?_)
  refine run_len (t := 0) rfl (fun hla => ?_)
  refine run_len (t := 1) rfl (fun hlb => ?_)
  rw [List.length_map] at hla hlb
  repeat' (first
      | (refine j_go ?_; first
        | refine j_op0 rfl rfl rfl rfl ?_ | (refine j_kLen rfl ?_; first | refine j_len rfl rfl rfl rfl rfl rfl ?_))
      | refine j_nil ?_
      | (refine r_go ?_; first | refine run_seq ?_ | refine run_region ?_ | (refine (run_ifn rfl (fun hb => ?_) (fun hb => ?_)) <;> first | (exfalso; omega) | skip) | refine run_block ?_ | refine run_ret ?_ | refine run_skip ?_)
      | refine seqQ_normal ?_ | refine seqQ_ret ?_)
  · exact end1 rfl (List.Sublist.refl _) (rb (dec_f (fun q => hb (by rw [q]))).symm) (.inl rfl)
  · have hn : a.length = b.length := by omega
    refine run_loop (fun k : Nat => [(0, .sl (a.map encDivRule)), (1, .sl (b.map encDivRule)), (5, .int (k : Int))]) (fun _ => h) (fun k => k ≤ a.length ∧ a.take k = b.take k) (fun k => a.length - k) 0 ⟨rfl, rfl, rfl, trivial⟩ rfl ⟨by omega, rfl⟩ ?_
    intro k ⟨g1, g2⟩
    repeat' (first
      | (refine j_go ?_; first
        | refine j_op0 rfl rfl rfl rfl ?_ | (refine j_kIdx rfl ?_; first | refine j_idx rfl rfl rfl rfl rfl (by omega) rfl rfl rfl ?_) | (refine j_kBin rfl ?_; first | refine j_in rfl rfl ⟨by omega, by omega⟩ rfl rfl ?_) | (refine j_kLen rfl ?_; first | refine j_len rfl rfl rfl rfl rfl rfl ?_) | (refine j_kCall rfl rfl rfl rfl ?_; first | refine jc (c_eqDivRule _ _) (LeL.refl _) rfl rfl ?_))
      | refine j_nil ?_
      | (refine r_go ?_; first | refine run_seq ?_ | refine run_region ?_ | (refine (run_if rfl (fun hb => ?_) (fun hb => ?_)) <;> first | (exfalso; omega) | skip) | (refine (run_ifn rfl (fun hb => ?_) (fun hb => ?_)) <;> first | (exfalso; omega) | skip) | refine run_block ?_ | refine run_ret ?_ | refine run_exit ?_ | refine run_skip ?_ | refine run_regionD (by kernel_rfl) ?_)
      | refine seqQ_normal ?_ | refine seqQ_ret ?_ | refine seqQ_exit ?_ | refine blockQ_normal ?_ | refine blockQ_ret ?_ | refine blockQ_eq ?_ | refine loopQ_ret ?_ | refine loopQ_exit ?_)
    · exact end1 rfl (List.Sublist.refl _) (rb (dec_f (fun q => hb (by subst q; rfl))).symm) (.inl rfl)
    · exact loopQ_next (k + 1) ⟨by omega, take_eq_succ g2 (by omega) (by omega) hb⟩ (by omega) rfl ⟨rfl, rfl, nx _, trivial⟩
    · have hk : k = a.length := by omega
      subst hk
      exact end1 rfl (List.Sublist.refl _) (rb (dec_t (by rw [List.take_length, hn, List.take_length] at g2; exact g2)).symm) (.inl rfl)

structure Division where
  objects : Int
  rules : List DivRule
  deriving DecidableEq, Inhabited
def encDivision (x : Division) : List A := [.int x.objects, .sl (x.rules.map encDivRule)]
def szDivision (left : Int) (x : Division) : Int := if szSl szDivRule left x.rules < 0 then -1 else szSl szDivRule left x.rules
/-- What its size tells of it. -/
structure OkDivision (x : Division) : Prop where
  rules : x.rules.length ≤ 1048576 ∧ ∀ r ∈ x.rules, OkDivRule r
theorem szDivision_le {left : Int} {x : Division} (h1 : -1 ≤ left) (h2 : left ≤ 1048576) : -1 ≤ szDivision left x ∧ szDivision left x ≤ 1048576 := by
  have l0 : -1 ≤ szSl szDivRule left x.rules ∧ szSl szDivRule left x.rules ≤ 1048576 := szSl_le (fun _ _ p q => szDivRule_le p q) h1 h2
  unfold szDivision
  repeat' split
  all_goals first | omega | assumption
theorem szDivision_ok {left : Int} {x : Division} (h1 : -1 ≤ left) (h2 : left ≤ 1048576) (h : ¬ szDivision left x < 0) : OkDivision x := by
  have l0 : -1 ≤ szSl szDivRule left x.rules ∧ szSl szDivRule left x.rules ≤ 1048576 := szSl_le (fun _ _ p q => szDivRule_le p q) h1 h2
  unfold szDivision at h
  split at h
  · exact absurd (by decide) h
  rename_i q0
  exact ⟨(szSl_ok (p := OkDivRule) (fun _ _ p q => szDivRule_le p q) (fun _ _ p q r => szDivRule_ok p q r) h1 h2 q0)⟩
theorem c_szDivision (x : Division) (left : Int) (h1 : -1 ≤ left) (h2 : left ≤ 1048576) : Gives Try.prog 9 [.agg (encDivision x), .int left] (.int (szDivision left x)) := by
  have l0 : -1 ≤ szSl szDivRule left x.rules ∧ szSl szDivRule left x.rules ≤ 1048576 := szSl_le (fun _ _ p q => szDivRule_le p q) h1 h2
  refine fn_of_run tyOk ztOk mix Try.func9 rfl (by decide) Try.ntmps9 (fun w0 h => ?_)
  repeat' (first
      | (refine j_go ?_; first
        | refine j_op0 rfl rfl rfl rfl ?_ | (refine j_kCall rfl rfl rfl rfl ?_; first | refine jc (c_szDivRuleS _ _ (by omega) (by omega)) (LeL.refl _) rfl rfl ?_) | refine j_box rfl rfl rfl rfl rfl rfl ?_)
      | refine j_nil ?_
      | (refine r_go ?_; first | refine run_seq ?_ | refine run_region ?_ | (refine (run_if rfl (fun hb => ?_) (fun hb => ?_)) <;> first | (exfalso; omega) | skip) | refine run_ret ?_ | refine run_skip ?_)
      | refine seqQ_normal ?_ | refine seqQ_ret ?_)
  all_goals exact end1 rfl (List.Sublist.refl _) (ai (by unfold szDivision; repeat' split; all_goals first | rfl | contradiction)) (.inl rfl)
theorem c_toDivision (x : Division) (hx : OkDivision x) : Gives Try.prog 12 [.agg (encDivision x)] (.agg (encDivision x)) := by
  obtain ⟨⟨k0, m0⟩⟩ := hx
  refine fn_of_run tyOk ztOk mix Try.func12 rfl (by decide) Try.ntmps12 (fun w0 h => ?_)
  repeat' (first
      | (refine j_go ?_; first
        | refine j_op0 rfl rfl rfl rfl ?_ | (refine j_kCall rfl rfl rfl rfl ?_; first | refine jc (c_toDivRuleS _ (by assumption) (by assumption)) (LeL.refl _) rfl rfl ?_) | (refine j_kLoad rfl ?_; first | refine j_mload 0 rfl rfl rfl rfl rfl rfl rfl ?_) | (refine j_kStore rfl ?_; first | refine j_store 0 rfl rfl rfl rfl rfl rfl rfl rfl rfl rfl rfl ?_ | refine j_storeN 1 rfl rfl rfl rfl rfl rfl rfl rfl rfl rfl rfl ?_) | refine j_box rfl rfl rfl rfl rfl rfl ?_ | refine j_alloc rfl rfl rfl rfl rfl (fun _ => ?_))
      | refine j_nil ?_
      | (refine r_go ?_; first | refine run_seq ?_ | refine run_region ?_ | refine run_ret ?_)
      | refine seqQ_normal ?_)
  exact end_cellM rfl 1 rfl rfl sub2 (Le.refl _) (.inl rfl)
theorem c_eqDivision (x y : Division) : Gives Try.prog 15 [.agg (encDivision x), .agg (encDivision y)] (.raw (.bool (dec (x = y)))) := by
  refine fn_of_run tyOk ztOk mix Try.func15 rfl (by decide) Try.ntmps15 (fun w0 h => ?_)
  repeat' (first
      | (refine j_go ?_; first
        | refine j_op0 rfl rfl rfl rfl ?_ | (refine j_kCall rfl rfl rfl rfl ?_; first | refine jc (c_eqDivRuleS _ _) (LeL.refl _) rfl rfl ?_) | refine j_box rfl rfl rfl rfl rfl rfl ?_)
      | refine j_nil ?_
      | (refine r_go ?_; first | refine run_seq ?_ | refine run_region ?_ | (refine (run_ifn rfl (fun hb => ?_) (fun hb => ?_)) <;> first | (exfalso; omega) | skip) | refine run_ret ?_ | refine run_skip ?_)
      | refine seqQ_normal ?_ | refine seqQ_ret ?_)
  all_goals first | exact end1 rfl (List.Sublist.refl _) (rb (dec_f (fun q => hb (by rw [q]))).symm) (.inl rfl) | exact end1 rfl (List.Sublist.refl _) (rb (dec_t (by cases x; cases y; simp_all)).symm) (.inl rfl)
end Go.Proofs.Ytahjliejgjjfeaa

/-
  Library functions over lists of rules and of groups: the first element of a kind. No condition.
-/
namespace Go.Proofs.Ytahjliejgjjfeaa
open Go.AI
set_option maxRecDepth 8000
set_option maxHeartbeats 1600000

theorem c_ixfD (f : FuncId) (caps : List A) (r : DivRule → Prop) (l : List (DivRule)) (hf : ∀ x ∈ l, Gives Try.prog f (.agg (encDivRule x) :: caps) (.raw (.bool (dec (r x))))) : Gives Try.prog 211 [.sl (l.map encDivRule), .fn f caps] (.int (fIdx r l)) := by
  refine fn_of_run tyOk ztOk mix Try.func211 rfl (by decide) Try.ntmps211 (fun w0 h => ?_)
  refine run_len (t := 0) rfl (fun hl => ?_)
  rw [List.length_map] at hl
  repeat' (first
      | (refine j_go ?_; first
        | refine j_op0 rfl rfl rfl rfl ?_ | (refine j_kLen rfl ?_; first | refine j_len rfl rfl rfl rfl rfl rfl ?_))
      | refine j_nil ?_
      | (refine r_go ?_; first | refine run_seq ?_ | refine run_region ?_ | refine run_block ?_)
      | refine seqQ_normal ?_)
  refine run_loop (fun k : Nat => [(0, .sl (l.map encDivRule)), (1, .fn f caps), (7, .int l.length), (8, .int (k : Int))]) (fun _ => _) (fun k => k ≤ l.length ∧ (∀ i (h : i < l.length), i < k → ¬ r l[i])) (fun k => l.length - k) 0 ⟨rfl, rfl, rfl, rfl, trivial⟩ rfl ⟨Nat.zero_le _, by first | (intros; omega) | (simp; done) | rfl | trivial | exact ⟨by simp [sumF], by intros; omega⟩ | exact ⟨by omega, by simp⟩⟩ (fun k ⟨kl, kp⟩ => ?_)
  repeat' (first
      | (refine j_go ?_; first
        | refine j_op0 rfl rfl rfl rfl ?_ | (refine j_kIdx rfl ?_; first | refine j_idx rfl rfl rfl rfl rfl (by omega) rfl rfl rfl ?_) | (refine j_kBin rfl ?_; first | refine j_in rfl rfl ⟨by omega, by omega⟩ rfl rfl ?_) | (refine j_kCall rfl rfl rfl rfl ?_; first | refine jc (hf _ (List.getElem_mem _)) (LeL.refl _) rfl rfl ?_))
      | refine j_nil ?_
      | (refine r_go ?_; first | refine run_seq ?_ | refine run_region ?_ | (refine (run_if rfl (fun hb => ?_) (fun hb => ?_)) <;> first | (exfalso; omega) | skip) | refine run_block ?_ | refine run_ret ?_ | refine run_exit ?_ | refine run_skip ?_)
      | refine seqQ_normal ?_ | refine seqQ_ret ?_ | refine seqQ_exit ?_ | refine blockQ_normal ?_ | refine blockQ_ret ?_ | refine blockQ_eq ?_ | refine loopQ_ret ?_ | refine loopQ_exit ?_)
  · exact end1 rfl (List.Sublist.refl _) (ai (fIdx_at (by omega) hb kp).symm) (.inl rfl)
  · exact loopQ_nextD (k + 1) ⟨by omega, all_step kp (fun _ => hb)⟩ (by omega) (by first | exact List.Sublist.refl _ | exact sub1 | exact sub2 | exact sub3) ⟨rfl, rfl, rfl, nx _, trivial⟩
  · exact end1 rfl (List.Sublist.refl _) (ai (fIdx_none (fun i h => kp i h (by omega))).symm) (.inl rfl)

theorem c_cfD (f : FuncId) (caps : List A) (r : DivRule → Prop) (l : List (DivRule)) (hf : ∀ x ∈ l, Gives Try.prog f (.agg (encDivRule x) :: caps) (.raw (.bool (dec (r x))))) : Gives Try.prog 168 [.sl (l.map encDivRule), .fn f caps] (.raw (.bool (dec (∃ x ∈ l, r x)))) := by
  refine fn_of_run tyOk ztOk mix Try.func168 rfl (by decide) Try.ntmps168 (fun w0 h => ?_)
  repeat' (first
      | (refine j_go ?_; first
        | refine j_op0 rfl rfl rfl rfl ?_ | (refine j_kCall rfl rfl rfl rfl ?_; first | refine jc (c_ixfD _ _ r _ hf) (LeL.refl _) rfl rfl ?_))
      | refine j_nil ?_
      | (refine r_go ?_; first | refine run_seq ?_ | refine run_region ?_ | refine run_ret ?_)
      | refine seqQ_normal ?_)
  exact end1 rfl (List.Sublist.refl _) (rbD (fIdx_ex r l)) (.inl rfl)
end Go.Proofs.Ytahjliejgjjfeaa
