/-
  The system that decides a formula: what it is, and the reference's side. No condition.
-/
import Derived.Test.YtgjlemedckhlfaaZS3d
import Derived.Test.YtgjlemedckhlfaaZPB
import Derived.Test.YtgjlemedckhlfaaZPS7
namespace Go.Proofs.Ytgjlemedckhlfaa
open Go.AI
set_option maxRecDepth 8000
set_option maxHeartbeats 1600000

def Cnf.mark (f : Cnf) : Int := 3 * f.vars
def Cnf.phase (f : Cnf) : Int := f.mark + (f.clauses.length : Int)
def Cnf.pend (f : Cnf) : Int := f.phase + f.vars + 2
def Cnf.round (f : Cnf) : Int := f.pend + 1
def Cnf.yes (f : Cnf) : Int := f.round + (f.clauses.length : Int) + 1
theorem Cnf.nums (f : Cnf) : f.mark = 3 * f.vars ∧ f.phase = f.mark + (f.clauses.length : Int) ∧ f.pend = f.phase + f.vars + 2 ∧ f.round = f.pend + 1 ∧ f.yes = f.round + (f.clauses.length : Int) + 1 := ⟨rfl, rfl, rfl, rfl, rfl⟩
/-- The marks of the first k clauses that hold a literal. -/
noncomputable def Cnf.mks (f : Cnf) (v : Int) (k : Nat) : List Int := (selL (fun i => v ∈ f.clauses.getD i []) k).map fun x => f.mark + x
theorem mks_len (f : Cnf) (v : Int) (k : Nat) : (f.mks v k).length ≤ k := by
  unfold Cnf.mks; rw [List.length_map]; exact selL_len _ _
theorem mks_yes {f : Cnf} {v : Int} {k : Nat} (hk : k < f.clauses.length) (h : v ∈ f.clauses[k]) : f.mks v k ++ [f.mark + (k : Int)] = f.mks v (k + 1) := by
  have := selL_yes (p := fun i => v ∈ f.clauses.getD i []) (k := k) (by rw [getD_get hk]; exact h)
  unfold Cnf.mks; rw [← this, List.map_append]; rfl
theorem mks_no {f : Cnf} {v : Int} {k : Nat} (hk : k < f.clauses.length) (h : ¬ v ∈ f.clauses[k]) : f.mks v k = f.mks v (k + 1) := by
  have := selL_no (p := fun i => v ∈ f.clauses.getD i []) (k := k) (by rw [getD_get hk]; exact h)
  unfold Cnf.mks; rw [this]
def upto (g : Nat → DivRule) (k : Nat) : List DivRule := (List.range k).map g
theorem upto_len {g : Nat → DivRule} {k : Nat} : (upto g k).length = k := by simp [upto]
theorem upto_succ (P : List DivRule) (g : Nat → DivRule) (k : Nat) : (P ++ upto g k) ++ [g k] = P ++ upto g (k + 1) := by
  unfold upto; rw [List.range_succ, List.map_append, List.append_assoc]; rfl
noncomputable def Cnf.g1 (f : Cnf) (k : Nat) : DivRule := ⟨6, 0, (k : Int), 0, [f.vars + (k : Int)], 0, [2 * f.vars + (k : Int)]⟩
noncomputable def Cnf.l1 (f : Cnf) (k : Nat) : List DivRule := [] ++ upto f.g1 k
theorem l1_zero (f : Cnf) : f.l1 0 = [] := by unfold Cnf.l1; exact List.append_nil _
theorem l1_succ (f : Cnf) (k : Nat) : f.l1 k ++ [f.g1 k] = f.l1 (k + 1) := upto_succ _ _ _
theorem l1_len (f : Cnf) (k : Nat) : (f.l1 k).length ≤ 0 + k := by unfold Cnf.l1; rw [List.length_append, upto_len]; simp only [List.length_nil]; omega
noncomputable def Cnf.x2 (f : Cnf) : DivRule := ⟨3, 0, f.phase + f.vars + 1, 1, [], 0, []⟩
noncomputable def Cnf.l2 (f : Cnf) : List DivRule := f.l1 f.vars.toNat ++ [f.x2]
theorem l2_len (f : Cnf) : (f.l2).length ≤ 0 + f.vars.toNat + 1 := by unfold Cnf.l2; rw [List.length_append]; have := l1_len f (f.vars.toNat); simp only [List.length_cons, List.length_nil]; omega
noncomputable def Cnf.g3 (f : Cnf) (k : Nat) : DivRule := ⟨1, 0, f.vars + (k : Int), 0, f.mks ((k : Int) + 1) f.clauses.length, 0, []⟩
noncomputable def Cnf.l3 (f : Cnf) (k : Nat) : List DivRule := f.l2 ++ upto f.g3 k
theorem l3_zero (f : Cnf) : f.l3 0 = f.l2 := by unfold Cnf.l3; exact List.append_nil _
theorem l3_succ (f : Cnf) (k : Nat) : f.l3 k ++ [f.g3 k] = f.l3 (k + 1) := upto_succ _ _ _
theorem l3_len (f : Cnf) (k : Nat) : (f.l3 k).length ≤ 0 + f.vars.toNat + 1 + k := by unfold Cnf.l3; rw [List.length_append, upto_len]; have := l2_len f; omega
noncomputable def Cnf.g4 (f : Cnf) (k : Nat) : DivRule := ⟨1, 0, 2 * f.vars + (k : Int), 0, f.mks (0 - (k : Int) - 1) f.clauses.length, 0, []⟩
noncomputable def Cnf.l4 (f : Cnf) (k : Nat) : List DivRule := f.l3 f.vars.toNat ++ upto f.g4 k
theorem l4_zero (f : Cnf) : f.l4 0 = f.l3 f.vars.toNat := by unfold Cnf.l4; exact List.append_nil _
theorem l4_succ (f : Cnf) (k : Nat) : f.l4 k ++ [f.g4 k] = f.l4 (k + 1) := upto_succ _ _ _
theorem l4_len (f : Cnf) (k : Nat) : (f.l4 k).length ≤ 0 + f.vars.toNat + 1 + f.vars.toNat + k := by unfold Cnf.l4; rw [List.length_append, upto_len]; have := l3_len f (f.vars.toNat); omega
noncomputable def Cnf.g5 (f : Cnf) (k : Nat) : DivRule := ⟨1, 0, f.phase + (k : Int), 0, [f.phase + (k : Int) + 1], 0, []⟩
noncomputable def Cnf.l5 (f : Cnf) (k : Nat) : List DivRule := f.l4 f.vars.toNat ++ upto f.g5 k
theorem l5_zero (f : Cnf) : f.l5 0 = f.l4 f.vars.toNat := by unfold Cnf.l5; exact List.append_nil _
theorem l5_succ (f : Cnf) (k : Nat) : f.l5 k ++ [f.g5 k] = f.l5 (k + 1) := upto_succ _ _ _
theorem l5_len (f : Cnf) (k : Nat) : (f.l5 k).length ≤ 0 + f.vars.toNat + 1 + f.vars.toNat + f.vars.toNat + k := by unfold Cnf.l5; rw [List.length_append, upto_len]; have := l4_len f (f.vars.toNat); omega
noncomputable def Cnf.x6 (f : Cnf) : DivRule := ⟨4, 1, f.round + (f.clauses.length : Int), 0, [f.yes], 0, []⟩
noncomputable def Cnf.l6 (f : Cnf) : List DivRule := f.l5 (f.vars.toNat + 1) ++ [f.x6]
theorem l6_len (f : Cnf) : (f.l6).length ≤ 0 + f.vars.toNat + 1 + f.vars.toNat + f.vars.toNat + (f.vars.toNat + 1) + 1 := by unfold Cnf.l6; rw [List.length_append]; have := l5_len f ((f.vars.toNat + 1)); simp only [List.length_cons, List.length_nil]; omega
noncomputable def Cnf.x7 (f : Cnf) : DivRule := ⟨3, 1, f.mark, -1, [], 0, []⟩
noncomputable def Cnf.l7 (f : Cnf) : List DivRule := if 0 < f.clauses.length then f.l6 ++ [f.x7] else f.l6
theorem l7_t {f : Cnf} (h : 0 < f.clauses.length) : f.l7 = f.l6 ++ [f.x7] := if_pos h
theorem l7_f {f : Cnf} (h : ¬ 0 < f.clauses.length) : f.l7 = f.l6 := if_neg h
theorem l7_len (f : Cnf) : (f.l7).length ≤ 0 + f.vars.toNat + 1 + f.vars.toNat + f.vars.toNat + (f.vars.toNat + 1) + 1 + 1 := by unfold Cnf.l7; have := l6_len f; split <;> (try rw [List.length_append]; simp only [List.length_cons, List.length_nil]) <;> omega
noncomputable def Cnf.x8 (f : Cnf) : DivRule := ⟨3, -1, f.pend, 1, [f.pend], 0, []⟩
noncomputable def Cnf.l8 (f : Cnf) : List DivRule := f.l7 ++ [f.x8]
theorem l8_len (f : Cnf) : (f.l8).length ≤ 0 + f.vars.toNat + 1 + f.vars.toNat + f.vars.toNat + (f.vars.toNat + 1) + 1 + 1 + 1 := by unfold Cnf.l8; rw [List.length_append]; have := l7_len f; simp only [List.length_cons, List.length_nil]; omega
noncomputable def Cnf.g9 (f : Cnf) (k : Nat) : DivRule := ⟨1, -1, f.mark + (k : Int), 0, if 0 < k then [f.mark + (k : Int) - 1] else [], 0, []⟩
noncomputable def Cnf.l9 (f : Cnf) (k : Nat) : List DivRule := f.l8 ++ upto f.g9 k
theorem l9_zero (f : Cnf) : f.l9 0 = f.l8 := by unfold Cnf.l9; exact List.append_nil _
theorem l9_succ (f : Cnf) (k : Nat) : f.l9 k ++ [f.g9 k] = f.l9 (k + 1) := upto_succ _ _ _
theorem l9_len (f : Cnf) (k : Nat) : (f.l9 k).length ≤ 0 + f.vars.toNat + 1 + f.vars.toNat + f.vars.toNat + (f.vars.toNat + 1) + 1 + 1 + 1 + k := by unfold Cnf.l9; rw [List.length_append, upto_len]; have := l8_len f; omega
noncomputable def Cnf.g10 (f : Cnf) (k : Nat) : DivRule := ⟨1, -1, f.round + (k : Int), 0, [f.round + (k : Int) + 1], 0, []⟩
noncomputable def Cnf.l10 (f : Cnf) (k : Nat) : List DivRule := f.l9 f.clauses.length ++ upto f.g10 k
theorem l10_zero (f : Cnf) : f.l10 0 = f.l9 f.clauses.length := by unfold Cnf.l10; exact List.append_nil _
theorem l10_succ (f : Cnf) (k : Nat) : f.l10 k ++ [f.g10 k] = f.l10 (k + 1) := upto_succ _ _ _
theorem l10_len (f : Cnf) (k : Nat) : (f.l10 k).length ≤ 0 + f.vars.toNat + 1 + f.vars.toNat + f.vars.toNat + (f.vars.toNat + 1) + 1 + 1 + 1 + f.clauses.length + k := by unfold Cnf.l10; rw [List.length_append, upto_len]; have := l9_len f (f.clauses.length); omega
noncomputable def Cnf.division (f : Cnf) : Division := ⟨f.yes + 1, f.l10 f.clauses.length⟩
def iotaI (k : Nat) : List Int := (List.range k).map fun i : Nat => (i : Int)
theorem iotaI_succ (k : Nat) : iotaI k ++ [(k : Int)] = iotaI (k + 1) := by unfold iotaI; rw [List.range_succ, List.map_append]; rfl
theorem iotaI_len {k : Nat} : (iotaI k).length = k := by simp [iotaI]
def Cnf.conts (f : Cnf) : List Int := iotaI f.vars.toNat ++ [f.phase, f.pend, f.round]
def Cnf.colony (f : Cnf) : Colony := ⟨[], [⟨0, f.conts, 1⟩]⟩
theorem o_l07Marks (f : Cnf) (v : Int) (hv : f.Valid) : Does Try.prog 219 [.ip (encCnf f), .int v] [] (OwnL (f.mks v f.clauses.length)) := by
  refine fn_of_runD tyOk ztOk mix Try.func219 rfl (by decide) Try.ntmps219 (fun w0 F => ?_)
  change Run _ _ _ _ _ F
  have v1 := hv.1
  have m6 := hv.2.1
  have nm := f.nums
  repeat' (first
      | (refine j_go ?_; first
        | refine j_op0 rfl rfl rfl rfl ?_ | (refine j_kBsl rfl ?_; first | refine j_bs0 rfl rfl rfl rfl rfl rfl ?_))
      | refine j_nil ?_
      | (refine r_go ?_; first | refine run_seq ?_ | refine run_region ?_ | refine run_block ?_)
      | refine seqQ_normal ?_)
  refine run_view (view_none 2 0 rfl) ?_
  refine run_loop (fun x : Nat × Option Nat × Nat => [(0, .ip (encCnf f)), (1, .int v), (5, .os x.2.1 (f.mks v x.1).length x.2.2), (6, .int (x.1 : Int))]) (fun x => ⟨x.2.1, 2, x.2.2 * 1, ((f.mks v x.1).map encI).flatten⟩ :: F)
    (fun x => x.1 ≤ f.clauses.length) (fun x => f.clauses.length - x.1) (0, none, 0) ⟨rfl, rfl, rfl, rfl, trivial⟩ rfl (Nat.zero_le _) (fun ⟨k, ob, cp⟩ kl => ?_)
  dsimp only at kl ⊢
  have il := mks_len f v k
  by_cases hk : k < f.clauses.length
  · repeat' (first
      | (refine j_go ?_; first
        | refine j_op0 rfl rfl rfl rfl ?_ | (refine j_kIdx rfl ?_; first | refine j_idx rfl rfl rfl rfl rfl (by omega) rfl rfl rfl ?_) | (refine j_kBin rfl ?_; first | refine j_in rfl rfl ⟨by omega, by omega⟩ rfl rfl ?_) | (refine j_kLen rfl ?_; first | refine j_len rfl rfl rfl rfl rfl rfl ?_) | (refine j_kCall rfl rfl rfl rfl ?_; first | refine jc (c_l00Has _ _) (LeL.refl _) rfl rfl ?_) | (refine j_kBsl rfl ?_; first | refine j_bsl rfl rfl rfl rfl rfl rfl rfl rfl rfl rfl rfl ?_))
      | refine j_nil ?_
      | (refine r_go ?_; first | refine run_seq ?_ | refine run_region ?_ | (refine (run_if rfl (fun hb => ?_) (fun hb => ?_)) <;> first | (exfalso; omega) | skip) | refine run_block ?_ | refine run_skip ?_)
      | refine seqQ_normal ?_ | refine blockQ_normal ?_)
    · refine j_append 0 (g := encI) [f.mark + (k : Int)] rfl rfl rfl rfl rfl rfl rfl rfl rfl rfl rfl rfl (fun _ => rfl) (fun _ _ => rfl) ⟨by simp only [List.length_cons, List.length_nil]; omega, by simp only [List.length_cons, List.length_nil]; omega⟩ rfl rfl (fun b' cap' => ?_)
      rw [mks_yes hk (by assumption)]
      repeat' (first
      | (refine j_go ?_; first
        | refine j_op0 rfl rfl rfl rfl ?_ | (refine j_kBin rfl ?_; first | refine j_in rfl rfl ⟨by omega, by omega⟩ rfl rfl ?_))
      | refine j_nil ?_
      | (refine r_go ?_; first | refine run_region ?_)
      | refine seqQ_normal ?_ | refine blockQ_normal ?_)
      exact loopQ_next (k + 1, b', cap') (by dsimp only; omega) (by dsimp only; omega) rfl ⟨rfl, rfl, rfl, nx _, trivial⟩
    · have es := mks_no (f := f) (v := v) hk (by assumption)
      exact loopQ_next (k + 1, ob, cp) (by dsimp only; omega) (by dsimp only; omega) (by dsimp only; rw [← es]) ⟨rfl, rfl, (by dsimp only; rw [← es]; rfl), nx _, trivial⟩
  · have hke : k = f.clauses.length := by omega
    subst hke
    repeat' (first
      | (refine j_go ?_; first
        | refine j_op0 rfl rfl rfl rfl ?_ | (refine j_kLen rfl ?_; first | refine j_len rfl rfl rfl rfl rfl rfl ?_))
      | refine j_nil ?_
      | (refine r_go ?_; first | refine run_seq ?_ | refine run_region ?_ | (refine (run_if rfl (fun hb => ?_) (fun hb => ?_)) <;> first | (exfalso; omega) | skip) | refine run_ret ?_ | refine run_exit ?_)
      | refine seqQ_normal ?_ | refine seqQ_exit ?_ | refine blockQ_eq ?_ | refine loopQ_exit ?_)
    exact endD_ret (h1 := [_]) rfl (.cons (.tmp rfl) .nil) (Le.refl _) ⟨ob, cp, rfl, rfl⟩ (.inl rfl)
theorem c_l07Marks (f : Cnf) (v : Int) (hv : f.Valid) : Gives Try.prog 219 [.ip (encCnf f), .int v] (.sl ((f.mks v f.clauses.length).map encI)) := (o_l07Marks f v hv).frozen fun _ _ ⟨b, cap, q1, q2⟩ => by rw [q1, q2]; exact FrzF.flat rfl rfl (fun _ => rfl) rfl rfl

/-- Rules whose cells are data. -/
structure RF (L : List DivRule) (css : List (Cells 7)) : Prop where
  l1 : css.length = L.length
  all : ∀ i (hi : i < L.length) (h1 : i < css.length), LeL css[i].1 (encDivRule L[i])
theorem RF.nil : RF [] [] := ⟨rfl, fun _ hi => absurd hi (Nat.not_lt_zero _)⟩
theorem RF.snoc {L : List DivRule} {css : List (Cells 7)} (R : RF L css) {r : DivRule} {c : Cells 7} (q : LeL c.1 (encDivRule r)) : RF (L ++ [r]) (css ++ [c]) := by
  obtain ⟨l1, all⟩ := R
  refine ⟨by simp [l1], fun i hi h1 => ?_⟩
  by_cases hk : i < L.length
  · rw [List.getElem_append_left hk, List.getElem_append_left (by omega)]; exact all i hk _
  · have e : i = L.length := by simp at hi; omega
    subst e
    rw [List.getElem_append_right (by omega), List.getElem_append_right (by omega)]
    simpa [l1] using q
theorem RF.le : ∀ {L : List DivRule} {css : List (Cells 7)}, RF L css → LeL (css.map Subtype.val).flatten (L.map encDivRule).flatten
  | [], [], _ => LeL.nil
  | [], _ :: _, R => absurd R.l1 (by simp)
  | _ :: _, [], R => absurd R.l1 (by simp)
  | r :: L, c :: css, R => by
    simp only [List.map_cons, List.flatten_cons]
    exact LeL.append (R.all 0 (by simp) (by simp)) (RF.le ⟨by have := R.l1; simpa using this, fun i hi h1 => R.all (i + 1) (by simpa using hi) (by simpa using h1)⟩)
/-- What the reference's system is, in memory of the call's own. -/
def MDs (f : Cnf) : A → Heap → Prop := fun v h' => ∃ a, OwnF encDivRule 191 7 (f.l10 f.clauses.length) a h' ∧ v = .tup [.agg [.int (f.yes + 1), a], .agg (encColony f.colony)]
theorem FrzF.tupL {h : Heap} {cs cs' : List A} (H : FrzLF h cs cs') : FrzF h (.tup cs) (.tup cs') := fun F w v ho r => by
  obtain ⟨vs, rfl, rl⟩ := r.tup_inv
  have q := H F w vs ho rl
  exact .tup _ _ q.1 q.2
theorem MDs.frz {f : Cnf} {v : A} {h1 : Heap} (q : MDs f v h1) : FrzF h1 v (.tup [.agg (encDivision f.division), .agg (encColony f.colony)]) := by
  obtain ⟨a, o, rfl⟩ := q
  have q := FrzLF.cons (FrzF.same [] (.int (f.yes + 1))) (FrzLF.cons (OwnF.frzF (g := encDivRule) (l := f.l10 f.clauses.length) (fun _ => rfl) rfl o) (FrzLF.nil (h := [])))
  simp only [List.append_nil, List.nil_append] at q
  have q2 := FrzLF.cons (FrzF.agg q) (FrzLF.cons (FrzF.same [] (.agg (encColony f.colony))) (FrzLF.nil (h := [])))
  simp only [List.append_nil] at q2
  exact FrzF.tupL q2
theorem o_l07Made (f : Cnf) (hv : f.Valid) : Does Try.prog 131 [.ip (encCnf f)] [] (MDs f) := by
  refine fn_of_runD tyOk ztOk mix Try.func131 rfl (by decide) Try.ntmps131 (fun w0 F => ?_)
  change Run _ _ _ _ _ F
  have v1 := hv.1
  have m6 := hv.2.1
  obtain ⟨e1, e2, e3, e4, e5⟩ := f.nums
  repeat' (first
      | (refine j_go ?_; first
        | refine j_op0 rfl rfl rfl rfl ?_ | (refine j_kBin rfl ?_; first | refine j_in rfl rfl ⟨by omega, by omega⟩ rfl rfl ?_) | (refine j_kLen rfl ?_; first | refine j_len rfl rfl rfl rfl rfl rfl ?_) | (refine j_kStore rfl ?_; first | refine j_storeN 0 rfl rfl rfl rfl rfl rfl rfl rfl rfl rfl rfl ?_) | refine j_build rfl rfl rfl rfl rfl rfl rfl ?_ | refine j_alloc rfl rfl rfl rfl rfl (fun _ => ?_) | refine j_in rfl rfl ⟨by omega, by omega⟩ rfl rfl ?_)
      | refine j_nil ?_
      | (refine r_go ?_; first | refine run_seq ?_ | refine run_region ?_ | refine run_block ?_)
      | refine seqQ_normal ?_)
  rename_i r2 r3 d
  refine run_view (view_none 191 0 rfl) ?_
  refine run_loop (fun x : Nat × Option Nat × Nat × List (Cells 7) => [(0, .ip (encCnf f)), (2, .op (some r2) 0), (3, .op (some r3) 0), (4, .int f.vars), (5, .int f.clauses.length), (6, .int f.mark), (7, .int f.phase), (8, .int f.pend), (9, .int f.round), (10, .int f.yes), (11, .op (some d) 0), (12, .int (x.1 : Int))]) (fun x => ⟨x.2.1, 191, x.2.2.1 * 7, (x.2.2.2.map Subtype.val).flatten⟩ :: ⟨some d, 82, 2, [.int (f.yes + 1), .os x.2.1 x.2.2.2.length x.2.2.1]⟩ :: ⟨some r3, 86, 2, [.os none 0 0, .os none 0 0]⟩ :: ⟨some r2, 82, 2, [.int 0, .os none 0 0]⟩ :: F)
    (fun x => x.1 ≤ f.vars.toNat ∧ RF (f.l1 x.1) x.2.2.2) (fun x => f.vars.toNat - x.1) (0, none, 0, []) ⟨rfl, rfl, rfl, rfl, rfl, rfl, rfl, rfl, rfl, rfl, rfl, rfl, trivial⟩ rfl ⟨Nat.zero_le _, by dsimp only; rw [l1_zero]; exact RF.nil⟩ (fun ⟨k, ob, cp, css⟩ ⟨kl, R⟩ => ?_)
  dsimp only at kl R ⊢
  have il := l1_len f k
  have il2 := R.l1
  by_cases hk : k < f.vars.toNat
  case pos =>
    repeat' (first
      | (refine j_go ?_; first
        | refine j_op0 rfl rfl rfl rfl ?_ | (refine j_kBin rfl ?_; first | refine j_in rfl rfl ⟨by omega, by omega⟩ rfl rfl ?_) | (refine j_kLoad rfl ?_; first | refine j_mload 1 rfl rfl rfl rfl rfl rfl rfl ?_) | (refine j_kBsl rfl ?_; first | refine j_bsl rfl rfl rfl rfl rfl rfl rfl rfl rfl rfl rfl ?_) | refine j_build rfl rfl rfl rfl rfl rfl rfl ?_ | refine j_in rfl rfl ⟨by omega, by omega⟩ rfl rfl ?_)
      | refine j_nil ?_
      | (refine r_go ?_; first | refine run_seq ?_ | refine run_region ?_ | (refine (run_if rfl (fun hb => ?_) (fun hb => ?_)) <;> first | (exfalso; omega) | skip) | refine run_block ?_ | refine run_skip ?_)
      | refine seqQ_normal ?_)
    refine j_append 0 (g := Subtype.val) (ys := css) [(⟨[.int (6), .int (0), .int ((k : Int)), .int (0), .sl (List.map encI [f.vars + (k : Int)]), .int (0), .sl (List.map encI [2 * f.vars + (k : Int)])], rfl⟩ : Cells 7)] rfl rfl rfl rfl rfl rfl rfl rfl rfl rfl rfl rfl (fun y => y.2) (fun _ hy => by simp only [List.mem_singleton] at hy; subst hy; rfl) ⟨by simp only [List.length_cons, List.length_nil]; omega, by simp only [List.length_cons, List.length_nil]; omega⟩ rfl rfl (fun ob' cp' => ?_)
    have R' : RF (f.l1 (k + 1)) (css ++ [(⟨[.int (6), .int (0), .int ((k : Int)), .int (0), .sl (List.map encI [f.vars + (k : Int)]), .int (0), .sl (List.map encI [2 * f.vars + (k : Int)])], rfl⟩ : Cells 7)]) := by rw [← l1_succ]; exact R.snoc (c := (⟨[.int (6), .int (0), .int ((k : Int)), .int (0), .sl (List.map encI [f.vars + (k : Int)]), .int (0), .sl (List.map encI [2 * f.vars + (k : Int)])], rfl⟩ : Cells 7)) (LeL.cons (Le.refl _) (LeL.cons (Le.refl _) (LeL.cons (Le.refl _) (LeL.cons (Le.refl _) (LeL.cons (Le.refl _) (LeL.cons (Le.refl _) (LeL.cons (Le.refl _) (LeL.nil))))))))
    repeat' (first
      | (refine j_go ?_; first
        | refine j_op0 rfl rfl rfl rfl ?_ | (refine j_kBin rfl ?_; first | refine j_in rfl rfl ⟨by omega, by omega⟩ rfl rfl ?_) | (refine j_kStore rfl ?_; first | refine j_store 1 rfl rfl rfl rfl rfl rfl rfl rfl rfl rfl rfl ?_) | refine j_in rfl rfl ⟨by omega, by omega⟩ rfl rfl ?_)
      | refine j_nil ?_
      | (refine r_go ?_; first | refine run_region ?_)
      | refine seqQ_normal ?_ | refine blockQ_normal ?_)
    exact loopQ_next (k + 1, ob', cp', _) ⟨by dsimp only; omega, R'⟩ (by dsimp only; omega) rfl ⟨rfl, rfl, rfl, rfl, rfl, rfl, rfl, rfl, rfl, rfl, rfl, nx _, trivial⟩
  have hke : k = f.vars.toNat := by omega
  subst hke
  repeat' (first
      | (refine j_go ?_; first
        | refine j_op0 rfl rfl rfl rfl ?_ | (refine j_kBin rfl ?_; first | refine j_in rfl rfl ⟨by omega, by omega⟩ rfl rfl ?_) | (refine j_kLoad rfl ?_; first | refine j_mload 1 rfl rfl rfl rfl rfl rfl rfl ?_) | (refine j_kBsl rfl ?_; first | refine j_bsl rfl rfl rfl rfl rfl rfl rfl rfl rfl rfl rfl ?_) | refine j_build rfl rfl rfl rfl rfl rfl rfl ?_ | refine j_in rfl rfl ⟨by omega, by omega⟩ rfl rfl ?_)
      | refine j_nil ?_
      | (refine r_go ?_; first | refine run_seq ?_ | refine run_region ?_ | (refine (run_if rfl (fun hb => ?_) (fun hb => ?_)) <;> first | (exfalso; omega) | skip) | refine run_exit ?_)
      | refine seqQ_normal ?_ | refine seqQ_exit ?_ | refine blockQ_eq ?_ | refine loopQ_exit ?_)
  refine j_append 0 (g := Subtype.val) (ys := css) [(⟨[.int (3), .int (0), .int (f.phase + f.vars + 1), .int (1), .os none 0 0, .int (0), .os none 0 0], rfl⟩ : Cells 7)] rfl rfl rfl rfl rfl rfl rfl rfl rfl rfl rfl rfl (fun y => y.2) (fun _ hy => by simp only [List.mem_singleton] at hy; subst hy; rfl) ⟨by simp only [List.length_cons, List.length_nil]; omega, by simp only [List.length_cons, List.length_nil]; omega⟩ rfl rfl (fun ob' cp' => ?_)
  have R' : RF (f.l2) (css ++ [(⟨[.int (3), .int (0), .int (f.phase + f.vars + 1), .int (1), .os none 0 0, .int (0), .os none 0 0], rfl⟩ : Cells 7)]) := by rw [show f.l2 = f.l1 f.vars.toNat ++ [f.x2] from rfl]; exact R.snoc (c := (⟨[.int (3), .int (0), .int (f.phase + f.vars + 1), .int (1), .os none 0 0, .int (0), .os none 0 0], rfl⟩ : Cells 7)) (LeL.cons (Le.refl _) (LeL.cons (Le.refl _) (LeL.cons (Le.refl _) (LeL.cons (Le.refl _) (LeL.cons (Le.nil 0) (LeL.cons (Le.refl _) (LeL.cons (Le.nil 0) (LeL.nil))))))))
  clear R il il2
  have R := R'; clear R'
  have il := l2_len f
  have il2 := R.l1
  generalize css ++ [(⟨[.int (3), .int (0), .int (f.phase + f.vars + 1), .int (1), .os none 0 0, .int (0), .os none 0 0], rfl⟩ : Cells 7)] = css at R il2 ⊢
  repeat' (first
      | (refine j_go ?_; first
        | refine j_op0 rfl rfl rfl rfl ?_ | (refine j_kStore rfl ?_; first | refine j_store 1 rfl rfl rfl rfl rfl rfl rfl rfl rfl rfl rfl ?_))
      | refine j_nil ?_
      | (refine r_go ?_; first | refine run_seq ?_ | refine run_region ?_ | refine run_block ?_)
      | refine seqQ_normal ?_)
  refine run_loop (fun x : Nat × Option Nat × Nat × List (Cells 7) => [(0, .ip (encCnf f)), (2, .op (some r2) 0), (3, .op (some r3) 0), (4, .int f.vars), (5, .int f.clauses.length), (6, .int f.mark), (7, .int f.phase), (8, .int f.pend), (9, .int f.round), (10, .int f.yes), (11, .op (some d) 0), (13, .int (x.1 : Int))]) (fun x => ⟨x.2.1, 191, x.2.2.1 * 7, (x.2.2.2.map Subtype.val).flatten⟩ :: ⟨some d, 82, 2, [.int (f.yes + 1), .os x.2.1 x.2.2.2.length x.2.2.1]⟩ :: ⟨some r3, 86, 2, [.os none 0 0, .os none 0 0]⟩ :: ⟨some r2, 82, 2, [.int 0, .os none 0 0]⟩ :: F)
    (fun x => x.1 ≤ f.vars.toNat ∧ RF (f.l3 x.1) x.2.2.2) (fun x => f.vars.toNat - x.1) (0, ob', cp', css) ⟨rfl, rfl, rfl, rfl, rfl, rfl, rfl, rfl, rfl, rfl, rfl, rfl, trivial⟩ rfl ⟨Nat.zero_le _, by dsimp only; rw [l3_zero]; exact R⟩ (fun ⟨k, ob, cp, css⟩ ⟨kl, R⟩ => ?_)
  dsimp only at kl R ⊢
  have il := l3_len f k
  have il2 := R.l1
  by_cases hk : k < f.vars.toNat
  case pos =>
    repeat' (first
      | (refine j_go ?_; first
        | refine j_op0 rfl rfl rfl rfl ?_)
      | refine j_nil ?_
      | (refine j_goO ?_; first
        | refine j_op0O rfl rfl rfl rfl ?_ | (refine j_kBinO rfl ?_; first | refine j_inO rfl rfl ⟨by omega, by omega⟩ rfl rfl ?_) | (refine j_kCallO rfl rfl rfl rfl ?_; first | refine jcO (c_l07Marks f _ hv) (LeL.refl _) rfl rfl ?_) | (refine j_kLoadO rfl ?_; first | refine j_mloadO 1 rfl rfl rfl rfl rfl rfl rfl rfl ?_) | (refine j_kBslO rfl ?_; first | refine j_bslO rfl rfl rfl rfl rfl rfl rfl rfl rfl rfl rfl ?_) | refine j_buildO rfl rfl rfl rfl rfl rfl rfl ?_ | refine j_inO rfl rfl ⟨by omega, by omega⟩ rfl rfl ?_)
      | (refine r_go ?_; first | refine run_seq ?_ | refine run_region ?_ | (refine (run_if rfl (fun hb => ?_) (fun hb => ?_)) <;> first | (exfalso; omega) | skip) | refine run_block ?_ | refine run_skip ?_ | refine run_opn 17 [⟨0, true, false, false⟩, ⟨1, true, false, false⟩, ⟨2, true, false, false⟩, ⟨3, true, false, false⟩, ⟨4, true, false, false⟩, ⟨5, true, false, false⟩, ⟨6, true, false, false⟩, ⟨7, true, false, false⟩, ⟨8, true, false, false⟩, ⟨9, true, false, false⟩, ⟨10, true, false, false⟩, ⟨11, false, true, false⟩, ⟨12, true, false, false⟩, ⟨13, false, true, false⟩] rfl rfl (by kernel_rfl) ?_)
      | refine seqQ_normal ?_)
    refine j_appendO 0 (g := Subtype.val) (ys := css) [(⟨[.int (1), .int (0), .int (f.vars + (k : Int)), .int (0), .sl (List.map encI (f.mks ((k : Int) + 1) f.clauses.length)), .int (0), .os none 0 0], rfl⟩ : Cells 7)] rfl (fun _ hk => nomatch hk) rfl rfl rfl rfl rfl rfl rfl rfl rfl rfl rfl rfl (fun y => y.2) (fun _ hy => by simp only [List.mem_singleton] at hy; subst hy; rfl) ⟨by simp only [List.length_cons, List.length_nil]; omega, by simp only [List.length_cons, List.length_nil]; omega⟩ rfl rfl (fun ob' cp' => ?_)
    have R' : RF (f.l3 (k + 1)) (css ++ [(⟨[.int (1), .int (0), .int (f.vars + (k : Int)), .int (0), .sl (List.map encI (f.mks ((k : Int) + 1) f.clauses.length)), .int (0), .os none 0 0], rfl⟩ : Cells 7)]) := by rw [← l3_succ]; exact R.snoc (c := (⟨[.int (1), .int (0), .int (f.vars + (k : Int)), .int (0), .sl (List.map encI (f.mks ((k : Int) + 1) f.clauses.length)), .int (0), .os none 0 0], rfl⟩ : Cells 7)) (LeL.cons (Le.refl _) (LeL.cons (Le.refl _) (LeL.cons (Le.refl _) (LeL.cons (Le.refl _) (LeL.cons (Le.refl _) (LeL.cons (Le.refl _) (LeL.cons (Le.nil 0) (LeL.nil))))))))
    repeat' (first
      | (refine j_go ?_; first
        | refine j_op0 rfl rfl rfl rfl ?_ | (refine j_kBin rfl ?_; first | refine j_in rfl rfl ⟨by omega, by omega⟩ rfl rfl ?_) | refine j_in rfl rfl ⟨by omega, by omega⟩ rfl rfl ?_)
      | refine j_nil ?_
      | (refine j_goO ?_; first
        | refine j_op0O rfl rfl rfl rfl ?_ | (refine j_kStoreO rfl ?_; first | refine j_storeO 1 rfl rfl rfl rfl rfl rfl rfl rfl rfl rfl rfl rfl (by first | exact fun _ hk => nomatch hk | (intro k hk; simp at hk ⊢; try simp [hk])) ?_))
      | refine j_nilO ?_
      | (refine r_go ?_; first | refine run_region ?_)
      | refine seqQ_normal ?_ | refine blockQ_normal ?_)
    exact loopQ_next (k + 1, ob', cp', _) ⟨by dsimp only; omega, R'⟩ (by dsimp only; omega) rfl ⟨rfl, rfl, rfl, rfl, rfl, rfl, rfl, rfl, rfl, rfl, rfl, nx _, trivial⟩
  have hke : k = f.vars.toNat := by omega
  subst hke
  repeat' (first
      | (refine j_go ?_; first
        | refine j_op0 rfl rfl rfl rfl ?_)
      | refine j_nil ?_
      | (refine r_go ?_; first | refine run_seq ?_ | refine run_region ?_ | (refine (run_if rfl (fun hb => ?_) (fun hb => ?_)) <;> first | (exfalso; omega) | skip) | refine run_block ?_ | refine run_exit ?_)
      | refine seqQ_normal ?_ | refine seqQ_exit ?_ | refine blockQ_eq ?_ | refine loopQ_exit ?_)
  refine run_loop (fun x : Nat × Option Nat × Nat × List (Cells 7) => [(0, .ip (encCnf f)), (2, .op (some r2) 0), (3, .op (some r3) 0), (4, .int f.vars), (5, .int f.clauses.length), (6, .int f.mark), (7, .int f.phase), (8, .int f.pend), (9, .int f.round), (10, .int f.yes), (11, .op (some d) 0), (14, .int (x.1 : Int))]) (fun x => ⟨x.2.1, 191, x.2.2.1 * 7, (x.2.2.2.map Subtype.val).flatten⟩ :: ⟨some d, 82, 2, [.int (f.yes + 1), .os x.2.1 x.2.2.2.length x.2.2.1]⟩ :: ⟨some r3, 86, 2, [.os none 0 0, .os none 0 0]⟩ :: ⟨some r2, 82, 2, [.int 0, .os none 0 0]⟩ :: F)
    (fun x => x.1 ≤ f.vars.toNat ∧ RF (f.l4 x.1) x.2.2.2) (fun x => f.vars.toNat - x.1) (0, ob, cp, css) ⟨rfl, rfl, rfl, rfl, rfl, rfl, rfl, rfl, rfl, rfl, rfl, rfl, trivial⟩ rfl ⟨Nat.zero_le _, by dsimp only; rw [l4_zero]; exact R⟩ (fun ⟨k, ob, cp, css⟩ ⟨kl, R⟩ => ?_)
  dsimp only at kl R ⊢
  have il := l4_len f k
  have il2 := R.l1
  by_cases hk : k < f.vars.toNat
  case pos =>
    repeat' (first
      | (refine j_go ?_; first
        | refine j_op0 rfl rfl rfl rfl ?_)
      | refine j_nil ?_
      | (refine j_goO ?_; first
        | refine j_op0O rfl rfl rfl rfl ?_ | (refine j_kBinO rfl ?_; first | refine j_inO rfl rfl ⟨by omega, by omega⟩ rfl rfl ?_) | (refine j_kCallO rfl rfl rfl rfl ?_; first | refine jcO (c_l07Marks f _ hv) (LeL.refl _) rfl rfl ?_) | (refine j_kLoadO rfl ?_; first | refine j_mloadO 1 rfl rfl rfl rfl rfl rfl rfl rfl ?_) | (refine j_kBslO rfl ?_; first | refine j_bslO rfl rfl rfl rfl rfl rfl rfl rfl rfl rfl rfl ?_) | refine j_buildO rfl rfl rfl rfl rfl rfl rfl ?_ | refine j_inO rfl rfl ⟨by omega, by omega⟩ rfl rfl ?_)
      | (refine r_go ?_; first | refine run_seq ?_ | refine run_region ?_ | (refine (run_if rfl (fun hb => ?_) (fun hb => ?_)) <;> first | (exfalso; omega) | skip) | refine run_block ?_ | refine run_skip ?_ | refine run_opn 21 [⟨0, true, false, false⟩, ⟨1, true, false, false⟩, ⟨2, true, false, false⟩, ⟨3, true, false, false⟩, ⟨4, true, false, false⟩, ⟨5, true, false, false⟩, ⟨6, true, false, false⟩, ⟨7, true, false, false⟩, ⟨8, true, false, false⟩, ⟨9, true, false, false⟩, ⟨10, true, false, false⟩, ⟨11, true, false, false⟩, ⟨12, true, false, false⟩, ⟨13, false, true, false⟩, ⟨14, true, false, false⟩, ⟨15, false, true, false⟩] rfl rfl (by kernel_rfl) ?_)
      | refine seqQ_normal ?_)
    refine j_appendO 0 (g := Subtype.val) (ys := css) [(⟨[.int (1), .int (0), .int (2 * f.vars + (k : Int)), .int (0), .sl (List.map encI (f.mks (0 - (k : Int) - 1) f.clauses.length)), .int (0), .os none 0 0], rfl⟩ : Cells 7)] rfl (fun _ hk => nomatch hk) rfl rfl rfl rfl rfl rfl rfl rfl rfl rfl rfl rfl (fun y => y.2) (fun _ hy => by simp only [List.mem_singleton] at hy; subst hy; rfl) ⟨by simp only [List.length_cons, List.length_nil]; omega, by simp only [List.length_cons, List.length_nil]; omega⟩ rfl rfl (fun ob' cp' => ?_)
    have R' : RF (f.l4 (k + 1)) (css ++ [(⟨[.int (1), .int (0), .int (2 * f.vars + (k : Int)), .int (0), .sl (List.map encI (f.mks (0 - (k : Int) - 1) f.clauses.length)), .int (0), .os none 0 0], rfl⟩ : Cells 7)]) := by rw [← l4_succ]; exact R.snoc (c := (⟨[.int (1), .int (0), .int (2 * f.vars + (k : Int)), .int (0), .sl (List.map encI (f.mks (0 - (k : Int) - 1) f.clauses.length)), .int (0), .os none 0 0], rfl⟩ : Cells 7)) (LeL.cons (Le.refl _) (LeL.cons (Le.refl _) (LeL.cons (Le.refl _) (LeL.cons (Le.refl _) (LeL.cons (Le.refl _) (LeL.cons (Le.refl _) (LeL.cons (Le.nil 0) (LeL.nil))))))))
    repeat' (first
      | (refine j_go ?_; first
        | refine j_op0 rfl rfl rfl rfl ?_ | (refine j_kBin rfl ?_; first | refine j_in rfl rfl ⟨by omega, by omega⟩ rfl rfl ?_) | refine j_in rfl rfl ⟨by omega, by omega⟩ rfl rfl ?_)
      | refine j_nil ?_
      | (refine j_goO ?_; first
        | refine j_op0O rfl rfl rfl rfl ?_ | (refine j_kStoreO rfl ?_; first | refine j_storeO 1 rfl rfl rfl rfl rfl rfl rfl rfl rfl rfl rfl rfl (by first | exact fun _ hk => nomatch hk | (intro k hk; simp at hk ⊢; try simp [hk])) ?_))
      | refine j_nilO ?_
      | (refine r_go ?_; first | refine run_region ?_)
      | refine seqQ_normal ?_ | refine blockQ_normal ?_)
    exact loopQ_next (k + 1, ob', cp', _) ⟨by dsimp only; omega, R'⟩ (by dsimp only; omega) rfl ⟨rfl, rfl, rfl, rfl, rfl, rfl, rfl, rfl, rfl, rfl, rfl, nx _, trivial⟩
  have hke : k = f.vars.toNat := by omega
  subst hke
  repeat' (first
      | (refine j_go ?_; first
        | refine j_op0 rfl rfl rfl rfl ?_)
      | refine j_nil ?_
      | (refine r_go ?_; first | refine run_seq ?_ | refine run_region ?_ | (refine (run_if rfl (fun hb => ?_) (fun hb => ?_)) <;> first | (exfalso; omega) | skip) | refine run_block ?_ | refine run_exit ?_)
      | refine seqQ_normal ?_ | refine seqQ_exit ?_ | refine blockQ_eq ?_ | refine loopQ_exit ?_)
  refine run_loop (fun x : Nat × Option Nat × Nat × List (Cells 7) => [(2, .op (some r2) 0), (3, .op (some r3) 0), (4, .int f.vars), (5, .int f.clauses.length), (6, .int f.mark), (7, .int f.phase), (8, .int f.pend), (9, .int f.round), (10, .int f.yes), (11, .op (some d) 0), (15, .int (x.1 : Int))]) (fun x => ⟨x.2.1, 191, x.2.2.1 * 7, (x.2.2.2.map Subtype.val).flatten⟩ :: ⟨some d, 82, 2, [.int (f.yes + 1), .os x.2.1 x.2.2.2.length x.2.2.1]⟩ :: ⟨some r3, 86, 2, [.os none 0 0, .os none 0 0]⟩ :: ⟨some r2, 82, 2, [.int 0, .os none 0 0]⟩ :: F)
    (fun x => x.1 ≤ (f.vars.toNat + 1) ∧ RF (f.l5 x.1) x.2.2.2) (fun x => (f.vars.toNat + 1) - x.1) (0, ob, cp, css) ⟨rfl, rfl, rfl, rfl, rfl, rfl, rfl, rfl, rfl, rfl, rfl, trivial⟩ rfl ⟨Nat.zero_le _, by dsimp only; rw [l5_zero]; exact R⟩ (fun ⟨k, ob, cp, css⟩ ⟨kl, R⟩ => ?_)
  dsimp only at kl R ⊢
  have il := l5_len f k
  have il2 := R.l1
  by_cases hk : k < (f.vars.toNat + 1)
  case pos =>
    repeat' (first
      | (refine j_go ?_; first
        | refine j_op0 rfl rfl rfl rfl ?_ | (refine j_kBin rfl ?_; first | refine j_in rfl rfl ⟨by omega, by omega⟩ rfl rfl ?_) | (refine j_kLoad rfl ?_; first | refine j_mload 1 rfl rfl rfl rfl rfl rfl rfl ?_) | (refine j_kBsl rfl ?_; first | refine j_bsl rfl rfl rfl rfl rfl rfl rfl rfl rfl rfl rfl ?_) | refine j_build rfl rfl rfl rfl rfl rfl rfl ?_ | refine j_in rfl rfl ⟨by omega, by omega⟩ rfl rfl ?_)
      | refine j_nil ?_
      | (refine r_go ?_; first | refine run_seq ?_ | refine run_region ?_ | (refine (run_if rfl (fun hb => ?_) (fun hb => ?_)) <;> first | (exfalso; omega) | skip) | refine run_block ?_ | refine run_skip ?_)
      | refine seqQ_normal ?_)
    refine j_append 0 (g := Subtype.val) (ys := css) [(⟨[.int (1), .int (0), .int (f.phase + (k : Int)), .int (0), .sl (List.map encI [f.phase + (k : Int) + 1]), .int (0), .os none 0 0], rfl⟩ : Cells 7)] rfl rfl rfl rfl rfl rfl rfl rfl rfl rfl rfl rfl (fun y => y.2) (fun _ hy => by simp only [List.mem_singleton] at hy; subst hy; rfl) ⟨by simp only [List.length_cons, List.length_nil]; omega, by simp only [List.length_cons, List.length_nil]; omega⟩ rfl rfl (fun ob' cp' => ?_)
    have R' : RF (f.l5 (k + 1)) (css ++ [(⟨[.int (1), .int (0), .int (f.phase + (k : Int)), .int (0), .sl (List.map encI [f.phase + (k : Int) + 1]), .int (0), .os none 0 0], rfl⟩ : Cells 7)]) := by rw [← l5_succ]; exact R.snoc (c := (⟨[.int (1), .int (0), .int (f.phase + (k : Int)), .int (0), .sl (List.map encI [f.phase + (k : Int) + 1]), .int (0), .os none 0 0], rfl⟩ : Cells 7)) (LeL.cons (Le.refl _) (LeL.cons (Le.refl _) (LeL.cons (Le.refl _) (LeL.cons (Le.refl _) (LeL.cons (Le.refl _) (LeL.cons (Le.refl _) (LeL.cons (Le.nil 0) (LeL.nil))))))))
    repeat' (first
      | (refine j_go ?_; first
        | refine j_op0 rfl rfl rfl rfl ?_ | (refine j_kBin rfl ?_; first | refine j_in rfl rfl ⟨by omega, by omega⟩ rfl rfl ?_) | (refine j_kStore rfl ?_; first | refine j_store 1 rfl rfl rfl rfl rfl rfl rfl rfl rfl rfl rfl ?_) | refine j_in rfl rfl ⟨by omega, by omega⟩ rfl rfl ?_)
      | refine j_nil ?_
      | (refine r_go ?_; first | refine run_region ?_)
      | refine seqQ_normal ?_ | refine blockQ_normal ?_)
    exact loopQ_next (k + 1, ob', cp', _) ⟨by dsimp only; omega, R'⟩ (by dsimp only; omega) rfl ⟨rfl, rfl, rfl, rfl, rfl, rfl, rfl, rfl, rfl, rfl, nx _, trivial⟩
  have hke : k = (f.vars.toNat + 1) := by omega
  subst hke
  repeat' (first
      | (refine j_go ?_; first
        | refine j_op0 rfl rfl rfl rfl ?_ | (refine j_kBin rfl ?_; first | refine j_in rfl rfl ⟨by omega, by omega⟩ rfl rfl ?_) | (refine j_kLoad rfl ?_; first | refine j_mload 1 rfl rfl rfl rfl rfl rfl rfl ?_) | (refine j_kBsl rfl ?_; first | refine j_bsl rfl rfl rfl rfl rfl rfl rfl rfl rfl rfl rfl ?_) | refine j_build rfl rfl rfl rfl rfl rfl rfl ?_ | refine j_in rfl rfl ⟨by omega, by omega⟩ rfl rfl ?_)
      | refine j_nil ?_
      | (refine r_go ?_; first | refine run_seq ?_ | refine run_region ?_ | (refine (run_if rfl (fun hb => ?_) (fun hb => ?_)) <;> first | (exfalso; omega) | skip) | refine run_exit ?_)
      | refine seqQ_normal ?_ | refine seqQ_exit ?_ | refine blockQ_eq ?_ | refine loopQ_exit ?_)
  refine j_append 0 (g := Subtype.val) (ys := css) [(⟨[.int (4), .int (1), .int (f.round + (f.clauses.length : Int)), .int (0), .sl (List.map encI [f.yes]), .int (0), .os none 0 0], rfl⟩ : Cells 7)] rfl rfl rfl rfl rfl rfl rfl rfl rfl rfl rfl rfl (fun y => y.2) (fun _ hy => by simp only [List.mem_singleton] at hy; subst hy; rfl) ⟨by simp only [List.length_cons, List.length_nil]; omega, by simp only [List.length_cons, List.length_nil]; omega⟩ rfl rfl (fun ob' cp' => ?_)
  have R' : RF (f.l6) (css ++ [(⟨[.int (4), .int (1), .int (f.round + (f.clauses.length : Int)), .int (0), .sl (List.map encI [f.yes]), .int (0), .os none 0 0], rfl⟩ : Cells 7)]) := by rw [show f.l6 = f.l5 (f.vars.toNat + 1) ++ [f.x6] from rfl]; exact R.snoc (c := (⟨[.int (4), .int (1), .int (f.round + (f.clauses.length : Int)), .int (0), .sl (List.map encI [f.yes]), .int (0), .os none 0 0], rfl⟩ : Cells 7)) (LeL.cons (Le.refl _) (LeL.cons (Le.refl _) (LeL.cons (Le.refl _) (LeL.cons (Le.refl _) (LeL.cons (Le.refl _) (LeL.cons (Le.refl _) (LeL.cons (Le.nil 0) (LeL.nil))))))))
  clear R il il2
  have R := R'; clear R'
  have il := l6_len f
  have il2 := R.l1
  generalize css ++ [(⟨[.int (4), .int (1), .int (f.round + (f.clauses.length : Int)), .int (0), .sl (List.map encI [f.yes]), .int (0), .os none 0 0], rfl⟩ : Cells 7)] = css at R il2 ⊢
  by_cases hm : 0 < f.clauses.length
  case pos =>
    repeat' (first
      | (refine j_go ?_; first
        | refine j_op0 rfl rfl rfl rfl ?_ | (refine j_kLoad rfl ?_; first | refine j_mload 1 rfl rfl rfl rfl rfl rfl rfl ?_) | (refine j_kStore rfl ?_; first | refine j_store 1 rfl rfl rfl rfl rfl rfl rfl rfl rfl rfl rfl ?_) | (refine j_kBsl rfl ?_; first | refine j_bsl rfl rfl rfl rfl rfl rfl rfl rfl rfl rfl rfl ?_) | refine j_build rfl rfl rfl rfl rfl rfl rfl ?_)
      | refine j_nil ?_
      | (refine r_go ?_; first | refine run_seq ?_ | refine run_region ?_ | (refine (run_if rfl (fun hb => ?_) (fun hb => ?_)) <;> first | (exfalso; omega) | skip))
      | refine seqQ_normal ?_)
    refine j_append 0 (g := Subtype.val) (ys := css) [(⟨[.int (3), .int (1), .int (f.mark), .int (-1), .os none 0 0, .int (0), .os none 0 0], rfl⟩ : Cells 7)] rfl rfl rfl rfl rfl rfl rfl rfl rfl rfl rfl rfl (fun y => y.2) (fun _ hy => by simp only [List.mem_singleton] at hy; subst hy; rfl) ⟨by simp only [List.length_cons, List.length_nil]; omega, by simp only [List.length_cons, List.length_nil]; omega⟩ rfl rfl (fun ob' cp' => ?_)
    have R' : RF (f.l7) (css ++ [(⟨[.int (3), .int (1), .int (f.mark), .int (-1), .os none 0 0, .int (0), .os none 0 0], rfl⟩ : Cells 7)]) := by rw [show f.l7 = f.l6 ++ [f.x7] from l7_t hm]; exact R.snoc (c := (⟨[.int (3), .int (1), .int (f.mark), .int (-1), .os none 0 0, .int (0), .os none 0 0], rfl⟩ : Cells 7)) (LeL.cons (Le.refl _) (LeL.cons (Le.refl _) (LeL.cons (Le.refl _) (LeL.cons (Le.refl _) (LeL.cons (Le.nil 0) (LeL.cons (Le.refl _) (LeL.cons (Le.nil 0) (LeL.nil))))))))
    clear R il il2
    have R := R'; clear R'
    have il := l7_len f
    have il2 := R.l1
    generalize css ++ [(⟨[.int (3), .int (1), .int (f.mark), .int (-1), .os none 0 0, .int (0), .os none 0 0], rfl⟩ : Cells 7)] = css at R il2 ⊢
    repeat' (first
      | (refine j_go ?_; first
        | refine j_op0 rfl rfl rfl rfl ?_ | (refine j_kLoad rfl ?_; first | refine j_mload 1 rfl rfl rfl rfl rfl rfl rfl ?_) | (refine j_kStore rfl ?_; first | refine j_store 1 rfl rfl rfl rfl rfl rfl rfl rfl rfl rfl rfl ?_) | (refine j_kBsl rfl ?_; first | refine j_bsl rfl rfl rfl rfl rfl rfl rfl rfl rfl rfl rfl ?_) | refine j_build rfl rfl rfl rfl rfl rfl rfl ?_)
      | refine j_nil ?_
      | (refine r_go ?_; first | refine run_seq ?_ | refine run_region ?_)
      | refine seqQ_normal ?_)
    refine j_append 0 (g := Subtype.val) (ys := css) [(⟨[.int (3), .int (-1), .int (f.pend), .int (1), .sl (List.map encI [f.pend]), .int (0), .os none 0 0], rfl⟩ : Cells 7)] rfl rfl rfl rfl rfl rfl rfl rfl rfl rfl rfl rfl (fun y => y.2) (fun _ hy => by simp only [List.mem_singleton] at hy; subst hy; rfl) ⟨by simp only [List.length_cons, List.length_nil]; omega, by simp only [List.length_cons, List.length_nil]; omega⟩ rfl rfl (fun ob' cp' => ?_)
    have R' : RF (f.l8) (css ++ [(⟨[.int (3), .int (-1), .int (f.pend), .int (1), .sl (List.map encI [f.pend]), .int (0), .os none 0 0], rfl⟩ : Cells 7)]) := by rw [show f.l8 = f.l7 ++ [f.x8] from rfl]; exact R.snoc (c := (⟨[.int (3), .int (-1), .int (f.pend), .int (1), .sl (List.map encI [f.pend]), .int (0), .os none 0 0], rfl⟩ : Cells 7)) (LeL.cons (Le.refl _) (LeL.cons (Le.refl _) (LeL.cons (Le.refl _) (LeL.cons (Le.refl _) (LeL.cons (Le.refl _) (LeL.cons (Le.refl _) (LeL.cons (Le.nil 0) (LeL.nil))))))))
    clear R il il2
    have R := R'; clear R'
    have il := l8_len f
    have il2 := R.l1
    generalize css ++ [(⟨[.int (3), .int (-1), .int (f.pend), .int (1), .sl (List.map encI [f.pend]), .int (0), .os none 0 0], rfl⟩ : Cells 7)] = css at R il2 ⊢
    repeat' (first
      | (refine j_go ?_; first
        | refine j_op0 rfl rfl rfl rfl ?_ | (refine j_kStore rfl ?_; first | refine j_store 1 rfl rfl rfl rfl rfl rfl rfl rfl rfl rfl rfl ?_))
      | refine j_nil ?_
      | (refine r_go ?_; first | refine run_seq ?_ | refine run_region ?_ | refine run_block ?_)
      | refine seqQ_normal ?_)
    refine run_loop (fun x : Nat × Option Nat × Nat × List (Cells 7) => [(2, .op (some r2) 0), (3, .op (some r3) 0), (4, .int f.vars), (5, .int f.clauses.length), (6, .int f.mark), (7, .int f.phase), (8, .int f.pend), (9, .int f.round), (11, .op (some d) 0), (16, .int (x.1 : Int))]) (fun x => ⟨x.2.1, 191, x.2.2.1 * 7, (x.2.2.2.map Subtype.val).flatten⟩ :: ⟨some d, 82, 2, [.int (f.yes + 1), .os x.2.1 x.2.2.2.length x.2.2.1]⟩ :: ⟨some r3, 86, 2, [.os none 0 0, .os none 0 0]⟩ :: ⟨some r2, 82, 2, [.int 0, .os none 0 0]⟩ :: F)
      (fun x => x.1 ≤ f.clauses.length ∧ RF (f.l9 x.1) x.2.2.2) (fun x => f.clauses.length - x.1) (0, ob', cp', css) ⟨rfl, rfl, rfl, rfl, rfl, rfl, rfl, rfl, rfl, rfl, trivial⟩ rfl ⟨Nat.zero_le _, by dsimp only; rw [l9_zero]; exact R⟩ (fun ⟨k, ob, cp, css⟩ ⟨kl, R⟩ => ?_)
    dsimp only at kl R ⊢
    have il := l9_len f k
    have il2 := R.l1
    by_cases hk : k < f.clauses.length
    case pos =>
      by_cases hk0 : 0 < k
      · have hg : f.g9 k = ⟨1, -1, f.mark + (k : Int), 0, [f.mark + (k : Int) - 1], 0, []⟩ := by unfold Cnf.g9; rw [if_pos hk0]
        repeat' (first
      | (refine j_go ?_; first
        | refine j_op0 rfl rfl rfl rfl ?_ | (refine j_kBin rfl ?_; first | refine j_in rfl rfl ⟨by omega, by omega⟩ rfl rfl ?_) | (refine j_kLoad rfl ?_; first | refine j_mload 0 rfl rfl rfl rfl rfl rfl rfl ?_ | refine j_mload 2 rfl rfl rfl rfl rfl rfl rfl ?_) | (refine j_kStore rfl ?_; first | refine j_store 0 rfl rfl rfl rfl rfl rfl rfl rfl rfl rfl rfl ?_ | refine j_storeN 0 rfl rfl rfl rfl rfl rfl rfl rfl rfl rfl rfl ?_) | (refine j_kBsl rfl ?_; first | refine j_bsl rfl rfl rfl rfl rfl rfl rfl rfl rfl rfl rfl ?_) | refine j_build rfl rfl rfl rfl rfl rfl rfl ?_ | refine j_alloc rfl rfl rfl rfl rfl (fun _ => ?_) | refine j_in rfl rfl ⟨by omega, by omega⟩ rfl rfl ?_)
      | refine j_nil ?_
      | (refine r_go ?_; first | refine run_seq ?_ | refine run_region ?_ | (refine (run_if rfl (fun hb => ?_) (fun hb => ?_)) <;> first | (exfalso; omega) | skip) | refine run_block ?_ | refine run_skip ?_)
      | refine seqQ_normal ?_)
        refine j_view (view_erase 0) ?_
        refine j_append 0 (g := Subtype.val) (ys := css) [(⟨[.int (1), .int (-1), .int (f.mark + (k : Int)), .int (0), .sl (List.map encI [f.mark + (k : Int) - 1]), .int (0), .os none 0 0], rfl⟩ : Cells 7)] rfl rfl rfl rfl rfl rfl rfl rfl rfl rfl rfl rfl (fun y => y.2) (fun _ hy => by simp only [List.mem_singleton] at hy; subst hy; rfl) ⟨by simp only [List.length_cons, List.length_nil]; omega, by simp only [List.length_cons, List.length_nil]; omega⟩ rfl rfl (fun ob' cp' => ?_)
        have R' : RF (f.l9 (k + 1)) (css ++ [(⟨[.int (1), .int (-1), .int (f.mark + (k : Int)), .int (0), .sl (List.map encI [f.mark + (k : Int) - 1]), .int (0), .os none 0 0], rfl⟩ : Cells 7)]) := by rw [← l9_succ, hg]; exact R.snoc (c := (⟨[.int (1), .int (-1), .int (f.mark + (k : Int)), .int (0), .sl (List.map encI [f.mark + (k : Int) - 1]), .int (0), .os none 0 0], rfl⟩ : Cells 7)) (LeL.cons (Le.refl _) (LeL.cons (Le.refl _) (LeL.cons (Le.refl _) (LeL.cons (Le.refl _) (LeL.cons (Le.refl _) (LeL.cons (Le.refl _) (LeL.cons (Le.nil 0) (LeL.nil))))))))
        repeat' (first
      | (refine j_go ?_; first
        | refine j_op0 rfl rfl rfl rfl ?_ | (refine j_kBin rfl ?_; first | refine j_in rfl rfl ⟨by omega, by omega⟩ rfl rfl ?_) | (refine j_kStore rfl ?_; first | refine j_store 1 rfl rfl rfl rfl rfl rfl rfl rfl rfl rfl rfl ?_) | refine j_in rfl rfl ⟨by omega, by omega⟩ rfl rfl ?_)
      | refine j_nil ?_
      | (refine r_go ?_; first | refine run_region ?_)
      | refine seqQ_normal ?_ | refine blockQ_normal ?_)
        exact loopQ_next (k + 1, ob', cp', _) ⟨by dsimp only; omega, R'⟩ (by dsimp only; omega) rfl ⟨rfl, rfl, rfl, rfl, rfl, rfl, rfl, rfl, rfl, nx _, trivial⟩
      · have hg : f.g9 k = ⟨1, -1, f.mark + (k : Int), 0, [], 0, []⟩ := by unfold Cnf.g9; rw [if_neg hk0]
        repeat' (first
      | (refine j_go ?_; first
        | refine j_op0 rfl rfl rfl rfl ?_ | (refine j_kBin rfl ?_; first | refine j_in rfl rfl ⟨by omega, by omega⟩ rfl rfl ?_) | (refine j_kLoad rfl ?_; first | refine j_mload 0 rfl rfl rfl rfl rfl rfl rfl ?_ | refine j_mload 2 rfl rfl rfl rfl rfl rfl rfl ?_) | (refine j_kStore rfl ?_; first | refine j_storeN 0 rfl rfl rfl rfl rfl rfl rfl rfl rfl rfl rfl ?_) | (refine j_kBsl rfl ?_; first | refine j_bsl rfl rfl rfl rfl rfl rfl rfl rfl rfl rfl rfl ?_) | refine j_build rfl rfl rfl rfl rfl rfl rfl ?_ | refine j_alloc rfl rfl rfl rfl rfl (fun _ => ?_) | refine j_in rfl rfl ⟨by omega, by omega⟩ rfl rfl ?_)
      | refine j_nil ?_
      | (refine r_go ?_; first | refine run_seq ?_ | refine run_region ?_ | (refine (run_if rfl (fun hb => ?_) (fun hb => ?_)) <;> first | (exfalso; omega) | skip) | refine run_block ?_ | refine run_skip ?_)
      | refine seqQ_normal ?_)
        refine j_view (view_erase 0) ?_
        refine j_append 0 (g := Subtype.val) (ys := css) [(⟨[.int (1), .int (-1), .int (f.mark + (k : Int)), .int (0), .os none 0 0, .int (0), .os none 0 0], rfl⟩ : Cells 7)] rfl rfl rfl rfl rfl rfl rfl rfl rfl rfl rfl rfl (fun y => y.2) (fun _ hy => by simp only [List.mem_singleton] at hy; subst hy; rfl) ⟨by simp only [List.length_cons, List.length_nil]; omega, by simp only [List.length_cons, List.length_nil]; omega⟩ rfl rfl (fun ob' cp' => ?_)
        have R' : RF (f.l9 (k + 1)) (css ++ [(⟨[.int (1), .int (-1), .int (f.mark + (k : Int)), .int (0), .os none 0 0, .int (0), .os none 0 0], rfl⟩ : Cells 7)]) := by rw [← l9_succ, hg]; exact R.snoc (c := (⟨[.int (1), .int (-1), .int (f.mark + (k : Int)), .int (0), .os none 0 0, .int (0), .os none 0 0], rfl⟩ : Cells 7)) (LeL.cons (Le.refl _) (LeL.cons (Le.refl _) (LeL.cons (Le.refl _) (LeL.cons (Le.refl _) (LeL.cons (Le.nil 0) (LeL.cons (Le.refl _) (LeL.cons (Le.nil 0) (LeL.nil))))))))
        repeat' (first
      | (refine j_go ?_; first
        | refine j_op0 rfl rfl rfl rfl ?_ | (refine j_kBin rfl ?_; first | refine j_in rfl rfl ⟨by omega, by omega⟩ rfl rfl ?_) | (refine j_kStore rfl ?_; first | refine j_store 1 rfl rfl rfl rfl rfl rfl rfl rfl rfl rfl rfl ?_) | refine j_in rfl rfl ⟨by omega, by omega⟩ rfl rfl ?_)
      | refine j_nil ?_
      | (refine r_go ?_; first | refine run_region ?_)
      | refine seqQ_normal ?_ | refine blockQ_normal ?_)
        exact loopQ_next (k + 1, ob', cp', _) ⟨by dsimp only; omega, R'⟩ (by dsimp only; omega) rfl ⟨rfl, rfl, rfl, rfl, rfl, rfl, rfl, rfl, rfl, nx _, trivial⟩
    have hke : k = f.clauses.length := by omega
    subst hke
    repeat' (first
      | (refine j_go ?_; first
        | refine j_op0 rfl rfl rfl rfl ?_)
      | refine j_nil ?_
      | (refine r_go ?_; first | refine run_seq ?_ | refine run_region ?_ | (refine (run_if rfl (fun hb => ?_) (fun hb => ?_)) <;> first | (exfalso; omega) | skip) | refine run_block ?_ | refine run_exit ?_)
      | refine seqQ_normal ?_ | refine seqQ_exit ?_ | refine blockQ_eq ?_ | refine loopQ_exit ?_)
    refine run_loop (fun x : Nat × Option Nat × Nat × List (Cells 7) => [(2, .op (some r2) 0), (3, .op (some r3) 0), (4, .int f.vars), (5, .int f.clauses.length), (7, .int f.phase), (8, .int f.pend), (9, .int f.round), (11, .op (some d) 0), (18, .int (x.1 : Int))]) (fun x => ⟨x.2.1, 191, x.2.2.1 * 7, (x.2.2.2.map Subtype.val).flatten⟩ :: ⟨some d, 82, 2, [.int (f.yes + 1), .os x.2.1 x.2.2.2.length x.2.2.1]⟩ :: ⟨some r3, 86, 2, [.os none 0 0, .os none 0 0]⟩ :: ⟨some r2, 82, 2, [.int 0, .os none 0 0]⟩ :: F)
      (fun x => x.1 ≤ f.clauses.length ∧ RF (f.l10 x.1) x.2.2.2) (fun x => f.clauses.length - x.1) (0, ob, cp, css) ⟨rfl, rfl, rfl, rfl, rfl, rfl, rfl, rfl, rfl, trivial⟩ rfl ⟨Nat.zero_le _, by dsimp only; rw [l10_zero]; exact R⟩ (fun ⟨k, ob, cp, css⟩ ⟨kl, R⟩ => ?_)
    dsimp only at kl R ⊢
    have il := l10_len f k
    have il2 := R.l1
    by_cases hk : k < f.clauses.length
    case pos =>
      repeat' (first
      | (refine j_go ?_; first
        | refine j_op0 rfl rfl rfl rfl ?_ | (refine j_kBin rfl ?_; first | refine j_in rfl rfl ⟨by omega, by omega⟩ rfl rfl ?_) | (refine j_kLoad rfl ?_; first | refine j_mload 1 rfl rfl rfl rfl rfl rfl rfl ?_) | (refine j_kBsl rfl ?_; first | refine j_bsl rfl rfl rfl rfl rfl rfl rfl rfl rfl rfl rfl ?_) | refine j_build rfl rfl rfl rfl rfl rfl rfl ?_ | refine j_in rfl rfl ⟨by omega, by omega⟩ rfl rfl ?_)
      | refine j_nil ?_
      | (refine r_go ?_; first | refine run_seq ?_ | refine run_region ?_ | (refine (run_if rfl (fun hb => ?_) (fun hb => ?_)) <;> first | (exfalso; omega) | skip) | refine run_block ?_ | refine run_skip ?_)
      | refine seqQ_normal ?_)
      refine j_append 0 (g := Subtype.val) (ys := css) [(⟨[.int (1), .int (-1), .int (f.round + (k : Int)), .int (0), .sl (List.map encI [f.round + (k : Int) + 1]), .int (0), .os none 0 0], rfl⟩ : Cells 7)] rfl rfl rfl rfl rfl rfl rfl rfl rfl rfl rfl rfl (fun y => y.2) (fun _ hy => by simp only [List.mem_singleton] at hy; subst hy; rfl) ⟨by simp only [List.length_cons, List.length_nil]; omega, by simp only [List.length_cons, List.length_nil]; omega⟩ rfl rfl (fun ob' cp' => ?_)
      have R' : RF (f.l10 (k + 1)) (css ++ [(⟨[.int (1), .int (-1), .int (f.round + (k : Int)), .int (0), .sl (List.map encI [f.round + (k : Int) + 1]), .int (0), .os none 0 0], rfl⟩ : Cells 7)]) := by rw [← l10_succ]; exact R.snoc (c := (⟨[.int (1), .int (-1), .int (f.round + (k : Int)), .int (0), .sl (List.map encI [f.round + (k : Int) + 1]), .int (0), .os none 0 0], rfl⟩ : Cells 7)) (LeL.cons (Le.refl _) (LeL.cons (Le.refl _) (LeL.cons (Le.refl _) (LeL.cons (Le.refl _) (LeL.cons (Le.refl _) (LeL.cons (Le.refl _) (LeL.cons (Le.nil 0) (LeL.nil))))))))
      repeat' (first
      | (refine j_go ?_; first
        | refine j_op0 rfl rfl rfl rfl ?_ | (refine j_kBin rfl ?_; first | refine j_in rfl rfl ⟨by omega, by omega⟩ rfl rfl ?_) | (refine j_kStore rfl ?_; first | refine j_store 1 rfl rfl rfl rfl rfl rfl rfl rfl rfl rfl rfl ?_) | refine j_in rfl rfl ⟨by omega, by omega⟩ rfl rfl ?_)
      | refine j_nil ?_
      | (refine r_go ?_; first | refine run_region ?_)
      | refine seqQ_normal ?_ | refine blockQ_normal ?_)
      exact loopQ_next (k + 1, ob', cp', _) ⟨by dsimp only; omega, R'⟩ (by dsimp only; omega) rfl ⟨rfl, rfl, rfl, rfl, rfl, rfl, rfl, rfl, nx _, trivial⟩
    have hke : k = f.clauses.length := by omega
    subst hke
    repeat' (first
      | (refine j_go ?_; first
        | refine j_op0 rfl rfl rfl rfl ?_ | (refine j_kBsl rfl ?_; first | refine j_bs0 rfl rfl rfl rfl rfl rfl ?_))
      | refine j_nil ?_
      | (refine r_go ?_; first | refine run_seq ?_ | refine run_region ?_ | (refine (run_if rfl (fun hb => ?_) (fun hb => ?_)) <;> first | (exfalso; omega) | skip) | refine run_block ?_ | refine run_exit ?_)
      | refine seqQ_normal ?_ | refine seqQ_exit ?_ | refine blockQ_eq ?_ | refine loopQ_exit ?_)
    refine run_view (view_none 2 0 rfl) ?_
    refine run_loop (fun x : Nat × Option Nat × Nat => [(2, .op (some r2) 0), (3, .op (some r3) 0), (4, .int f.vars), (7, .int f.phase), (8, .int f.pend), (9, .int f.round), (11, .op (some d) 0), (19, .os x.2.1 (iotaI x.1).length x.2.2), (20, .int (x.1 : Int))]) (fun x => ⟨x.2.1, 2, x.2.2 * 1, ((iotaI x.1).map encI).flatten⟩ :: ⟨ob, 191, cp * 7, (css.map Subtype.val).flatten⟩ :: ⟨some d, 82, 2, [.int (f.yes + 1), .os ob css.length cp]⟩ :: ⟨some r3, 86, 2, [.os none 0 0, .os none 0 0]⟩ :: ⟨some r2, 82, 2, [.int 0, .os none 0 0]⟩ :: F)
      (fun x => x.1 ≤ f.vars.toNat) (fun x => f.vars.toNat - x.1) (0, none, 0) ⟨rfl, rfl, rfl, rfl, rfl, rfl, rfl, rfl, rfl, trivial⟩ rfl (Nat.zero_le _) (fun ⟨k, oc, cc⟩ kl => ?_)
    dsimp only at kl ⊢
    have il := iotaI_len (k := k)
    by_cases hk : k < f.vars.toNat
    case pos =>
      repeat' (first
      | (refine j_go ?_; first
        | refine j_op0 rfl rfl rfl rfl ?_ | (refine j_kBsl rfl ?_; first | refine j_bsl rfl rfl rfl rfl rfl rfl rfl rfl rfl rfl rfl ?_))
      | refine j_nil ?_
      | (refine r_go ?_; first | refine run_seq ?_ | refine run_region ?_ | (refine (run_if rfl (fun hb => ?_) (fun hb => ?_)) <;> first | (exfalso; omega) | skip) | refine run_block ?_ | refine run_skip ?_)
      | refine seqQ_normal ?_)
      refine j_append 0 (g := encI) (ys := iotaI k) [(k : Int)] rfl rfl rfl rfl rfl rfl rfl rfl rfl rfl rfl rfl (fun _ => rfl) (fun _ _ => rfl) ⟨by simp only [List.length_cons, List.length_nil]; omega, by simp only [List.length_cons, List.length_nil]; omega⟩ rfl rfl (fun b' cap' => ?_)
      rw [iotaI_succ]
      repeat' (first
      | (refine j_go ?_; first
        | refine j_op0 rfl rfl rfl rfl ?_ | (refine j_kBin rfl ?_; first | refine j_in rfl rfl ⟨by omega, by omega⟩ rfl rfl ?_) | refine j_in rfl rfl ⟨by omega, by omega⟩ rfl rfl ?_)
      | refine j_nil ?_
      | (refine r_go ?_; first | refine run_region ?_)
      | refine seqQ_normal ?_ | refine blockQ_normal ?_)
      exact loopQ_next (k + 1, b', cap') (by dsimp only; omega) (by dsimp only; omega) rfl ⟨rfl, rfl, rfl, rfl, rfl, rfl, rfl, rfl, nx _, trivial⟩
    have hke : k = f.vars.toNat := by omega
    subst hke
    repeat' (first
      | (refine j_go ?_; first
        | refine j_op0 rfl rfl rfl rfl ?_ | (refine j_kBsl rfl ?_; first | refine j_bsl rfl rfl rfl rfl rfl rfl rfl rfl rfl rfl rfl ?_))
      | refine j_nil ?_
      | (refine r_go ?_; first | refine run_seq ?_ | refine run_region ?_ | (refine (run_if rfl (fun hb => ?_) (fun hb => ?_)) <;> first | (exfalso; omega) | skip) | refine run_exit ?_)
      | refine seqQ_normal ?_ | refine seqQ_exit ?_ | refine blockQ_eq ?_ | refine loopQ_exit ?_)
    refine j_append 0 (g := encI) (ys := iotaI f.vars.toNat) [f.phase, f.pend, f.round] rfl rfl rfl rfl rfl rfl rfl rfl rfl rfl rfl rfl (fun _ => rfl) (fun _ _ => rfl) ⟨by simp only [List.length_cons, List.length_nil]; omega, by simp only [List.length_cons, List.length_nil]; omega⟩ rfl rfl (fun b' cap' => ?_)
    refine j_view (view_freeze (g := encI) (z := 1) (ys := f.conts) 0 222 rfl rfl rfl (fun _ => rfl) rfl rfl) ?_
    refine j_view (view_cast 0 rfl R.le rfl) ?_
    repeat' (first
      | (refine j_go ?_; first
        | refine j_op0 rfl rfl rfl rfl ?_ | (refine j_kLoad rfl ?_; first | refine j_mload 1 rfl rfl rfl rfl rfl rfl rfl ?_) | (refine j_kBsl rfl ?_; first | refine j_bsl rfl rfl rfl rfl rfl rfl rfl rfl rfl rfl rfl ?_) | refine j_build rfl rfl rfl rfl rfl rfl rfl ?_)
      | refine j_nil ?_
      | (refine r_go ?_; first | refine run_seq ?_ | refine run_region ?_)
      | refine seqQ_normal ?_)
    refine j_storeN 3 rfl rfl rfl rfl rfl rfl rfl rfl rfl rfl rfl ?_
    repeat' (first
      | (refine j_go ?_; first
        | (refine j_kStore rfl ?_; first | refine j_storeN 2 rfl rfl rfl rfl rfl rfl rfl rfl rfl rfl rfl ?_))
      | refine j_nil ?_
      | (refine r_go ?_; first | refine run_ret ?_)
      | refine seqQ_normal ?_)
    refine endD_view (view_freezeP 3 2 rfl rfl) ?_
    refine endD_view (view_freezeP 2 3 rfl rfl) ?_
    refine endD_view (view_erase 1) ?_
    exact endD_ret (h1 := [_]) rfl (.cons (.cellI rfl rfl) (.cons (.cellI rfl rfl) .nil)) (Le.tup (LeL.cons (Le.refl _) (LeL.cons (Le.agg (LeL.cons (Le.nil 0) (LeL.cons (Le.refl _) LeL.nil))) LeL.nil))) ⟨.os ob css.length cp, .inl ⟨ob, cp, by rw [il2], rfl⟩, rfl⟩ (.inl rfl)
  case neg =>
    repeat' (first
      | (refine j_go ?_; first
        | refine j_op0 rfl rfl rfl rfl ?_ | (refine j_kLoad rfl ?_; first | refine j_mload 1 rfl rfl rfl rfl rfl rfl rfl ?_) | (refine j_kStore rfl ?_; first | refine j_store 1 rfl rfl rfl rfl rfl rfl rfl rfl rfl rfl rfl ?_) | (refine j_kBsl rfl ?_; first | refine j_bsl rfl rfl rfl rfl rfl rfl rfl rfl rfl rfl rfl ?_) | refine j_build rfl rfl rfl rfl rfl rfl rfl ?_)
      | refine j_nil ?_
      | (refine r_go ?_; first | refine run_seq ?_ | refine run_region ?_ | (refine (run_if rfl (fun hb => ?_) (fun hb => ?_)) <;> first | (exfalso; omega) | skip) | refine run_skip ?_)
      | refine seqQ_normal ?_)
    rw [← l7_f hm] at R il il2
    refine j_append 0 (g := Subtype.val) (ys := css) [(⟨[.int (3), .int (-1), .int (f.pend), .int (1), .sl (List.map encI [f.pend]), .int (0), .os none 0 0], rfl⟩ : Cells 7)] rfl rfl rfl rfl rfl rfl rfl rfl rfl rfl rfl rfl (fun y => y.2) (fun _ hy => by simp only [List.mem_singleton] at hy; subst hy; rfl) ⟨by simp only [List.length_cons, List.length_nil]; omega, by simp only [List.length_cons, List.length_nil]; omega⟩ rfl rfl (fun ob' cp' => ?_)
    have R' : RF (f.l8) (css ++ [(⟨[.int (3), .int (-1), .int (f.pend), .int (1), .sl (List.map encI [f.pend]), .int (0), .os none 0 0], rfl⟩ : Cells 7)]) := by rw [show f.l8 = f.l7 ++ [f.x8] from rfl]; exact R.snoc (c := (⟨[.int (3), .int (-1), .int (f.pend), .int (1), .sl (List.map encI [f.pend]), .int (0), .os none 0 0], rfl⟩ : Cells 7)) (LeL.cons (Le.refl _) (LeL.cons (Le.refl _) (LeL.cons (Le.refl _) (LeL.cons (Le.refl _) (LeL.cons (Le.refl _) (LeL.cons (Le.refl _) (LeL.cons (Le.nil 0) (LeL.nil))))))))
    clear R il il2
    have R := R'; clear R'
    have il := l8_len f
    have il2 := R.l1
    generalize css ++ [(⟨[.int (3), .int (-1), .int (f.pend), .int (1), .sl (List.map encI [f.pend]), .int (0), .os none 0 0], rfl⟩ : Cells 7)] = css at R il2 ⊢
    repeat' (first
      | (refine j_go ?_; first
        | refine j_op0 rfl rfl rfl rfl ?_ | (refine j_kStore rfl ?_; first | refine j_store 1 rfl rfl rfl rfl rfl rfl rfl rfl rfl rfl rfl ?_))
      | refine j_nil ?_
      | (refine r_go ?_; first | refine run_seq ?_ | refine run_region ?_ | refine run_block ?_)
      | refine seqQ_normal ?_)
    refine run_loop (fun x : Nat × Option Nat × Nat × List (Cells 7) => [(2, .op (some r2) 0), (3, .op (some r3) 0), (4, .int f.vars), (5, .int f.clauses.length), (6, .int f.mark), (7, .int f.phase), (8, .int f.pend), (9, .int f.round), (11, .op (some d) 0), (16, .int (x.1 : Int))]) (fun x => ⟨x.2.1, 191, x.2.2.1 * 7, (x.2.2.2.map Subtype.val).flatten⟩ :: ⟨some d, 82, 2, [.int (f.yes + 1), .os x.2.1 x.2.2.2.length x.2.2.1]⟩ :: ⟨some r3, 86, 2, [.os none 0 0, .os none 0 0]⟩ :: ⟨some r2, 82, 2, [.int 0, .os none 0 0]⟩ :: F)
      (fun x => x.1 ≤ f.clauses.length ∧ RF (f.l9 x.1) x.2.2.2) (fun x => f.clauses.length - x.1) (0, ob', cp', css) ⟨rfl, rfl, rfl, rfl, rfl, rfl, rfl, rfl, rfl, rfl, trivial⟩ rfl ⟨Nat.zero_le _, by dsimp only; rw [l9_zero]; exact R⟩ (fun ⟨k, ob, cp, css⟩ ⟨kl, R⟩ => ?_)
    dsimp only at kl R ⊢
    have il := l9_len f k
    have il2 := R.l1
    by_cases hk : k < f.clauses.length
    case pos =>
      exfalso; omega
    have hke : k = f.clauses.length := by omega
    subst hke
    repeat' (first
      | (refine j_go ?_; first
        | refine j_op0 rfl rfl rfl rfl ?_)
      | refine j_nil ?_
      | (refine r_go ?_; first | refine run_seq ?_ | refine run_region ?_ | (refine (run_if rfl (fun hb => ?_) (fun hb => ?_)) <;> first | (exfalso; omega) | skip) | refine run_block ?_ | refine run_exit ?_)
      | refine seqQ_normal ?_ | refine seqQ_exit ?_ | refine blockQ_eq ?_ | refine loopQ_exit ?_)
    refine run_loop (fun x : Nat × Option Nat × Nat × List (Cells 7) => [(2, .op (some r2) 0), (3, .op (some r3) 0), (4, .int f.vars), (5, .int f.clauses.length), (7, .int f.phase), (8, .int f.pend), (9, .int f.round), (11, .op (some d) 0), (18, .int (x.1 : Int))]) (fun x => ⟨x.2.1, 191, x.2.2.1 * 7, (x.2.2.2.map Subtype.val).flatten⟩ :: ⟨some d, 82, 2, [.int (f.yes + 1), .os x.2.1 x.2.2.2.length x.2.2.1]⟩ :: ⟨some r3, 86, 2, [.os none 0 0, .os none 0 0]⟩ :: ⟨some r2, 82, 2, [.int 0, .os none 0 0]⟩ :: F)
      (fun x => x.1 ≤ f.clauses.length ∧ RF (f.l10 x.1) x.2.2.2) (fun x => f.clauses.length - x.1) (0, ob, cp, css) ⟨rfl, rfl, rfl, rfl, rfl, rfl, rfl, rfl, rfl, trivial⟩ rfl ⟨Nat.zero_le _, by dsimp only; rw [l10_zero]; exact R⟩ (fun ⟨k, ob, cp, css⟩ ⟨kl, R⟩ => ?_)
    dsimp only at kl R ⊢
    have il := l10_len f k
    have il2 := R.l1
    by_cases hk : k < f.clauses.length
    case pos =>
      exfalso; omega
    have hke : k = f.clauses.length := by omega
    subst hke
    repeat' (first
      | (refine j_go ?_; first
        | refine j_op0 rfl rfl rfl rfl ?_ | (refine j_kBsl rfl ?_; first | refine j_bs0 rfl rfl rfl rfl rfl rfl ?_))
      | refine j_nil ?_
      | (refine r_go ?_; first | refine run_seq ?_ | refine run_region ?_ | (refine (run_if rfl (fun hb => ?_) (fun hb => ?_)) <;> first | (exfalso; omega) | skip) | refine run_block ?_ | refine run_exit ?_)
      | refine seqQ_normal ?_ | refine seqQ_exit ?_ | refine blockQ_eq ?_ | refine loopQ_exit ?_)
    refine run_view (view_none 2 0 rfl) ?_
    refine run_loop (fun x : Nat × Option Nat × Nat => [(2, .op (some r2) 0), (3, .op (some r3) 0), (4, .int f.vars), (7, .int f.phase), (8, .int f.pend), (9, .int f.round), (11, .op (some d) 0), (19, .os x.2.1 (iotaI x.1).length x.2.2), (20, .int (x.1 : Int))]) (fun x => ⟨x.2.1, 2, x.2.2 * 1, ((iotaI x.1).map encI).flatten⟩ :: ⟨ob, 191, cp * 7, (css.map Subtype.val).flatten⟩ :: ⟨some d, 82, 2, [.int (f.yes + 1), .os ob css.length cp]⟩ :: ⟨some r3, 86, 2, [.os none 0 0, .os none 0 0]⟩ :: ⟨some r2, 82, 2, [.int 0, .os none 0 0]⟩ :: F)
      (fun x => x.1 ≤ f.vars.toNat) (fun x => f.vars.toNat - x.1) (0, none, 0) ⟨rfl, rfl, rfl, rfl, rfl, rfl, rfl, rfl, rfl, trivial⟩ rfl (Nat.zero_le _) (fun ⟨k, oc, cc⟩ kl => ?_)
    dsimp only at kl ⊢
    have il := iotaI_len (k := k)
    by_cases hk : k < f.vars.toNat
    case pos =>
      repeat' (first
      | (refine j_go ?_; first
        | refine j_op0 rfl rfl rfl rfl ?_ | (refine j_kBsl rfl ?_; first | refine j_bsl rfl rfl rfl rfl rfl rfl rfl rfl rfl rfl rfl ?_))
      | refine j_nil ?_
      | (refine r_go ?_; first | refine run_seq ?_ | refine run_region ?_ | (refine (run_if rfl (fun hb => ?_) (fun hb => ?_)) <;> first | (exfalso; omega) | skip) | refine run_block ?_ | refine run_skip ?_)
      | refine seqQ_normal ?_)
      refine j_append 0 (g := encI) (ys := iotaI k) [(k : Int)] rfl rfl rfl rfl rfl rfl rfl rfl rfl rfl rfl rfl (fun _ => rfl) (fun _ _ => rfl) ⟨by simp only [List.length_cons, List.length_nil]; omega, by simp only [List.length_cons, List.length_nil]; omega⟩ rfl rfl (fun b' cap' => ?_)
      rw [iotaI_succ]
      repeat' (first
      | (refine j_go ?_; first
        | refine j_op0 rfl rfl rfl rfl ?_ | (refine j_kBin rfl ?_; first | refine j_in rfl rfl ⟨by omega, by omega⟩ rfl rfl ?_) | refine j_in rfl rfl ⟨by omega, by omega⟩ rfl rfl ?_)
      | refine j_nil ?_
      | (refine r_go ?_; first | refine run_region ?_)
      | refine seqQ_normal ?_ | refine blockQ_normal ?_)
      exact loopQ_next (k + 1, b', cap') (by dsimp only; omega) (by dsimp only; omega) rfl ⟨rfl, rfl, rfl, rfl, rfl, rfl, rfl, rfl, nx _, trivial⟩
    have hke : k = f.vars.toNat := by omega
    subst hke
    repeat' (first
      | (refine j_go ?_; first
        | refine j_op0 rfl rfl rfl rfl ?_ | (refine j_kBsl rfl ?_; first | refine j_bsl rfl rfl rfl rfl rfl rfl rfl rfl rfl rfl rfl ?_))
      | refine j_nil ?_
      | (refine r_go ?_; first | refine run_seq ?_ | refine run_region ?_ | (refine (run_if rfl (fun hb => ?_) (fun hb => ?_)) <;> first | (exfalso; omega) | skip) | refine run_exit ?_)
      | refine seqQ_normal ?_ | refine seqQ_exit ?_ | refine blockQ_eq ?_ | refine loopQ_exit ?_)
    refine j_append 0 (g := encI) (ys := iotaI f.vars.toNat) [f.phase, f.pend, f.round] rfl rfl rfl rfl rfl rfl rfl rfl rfl rfl rfl rfl (fun _ => rfl) (fun _ _ => rfl) ⟨by simp only [List.length_cons, List.length_nil]; omega, by simp only [List.length_cons, List.length_nil]; omega⟩ rfl rfl (fun b' cap' => ?_)
    refine j_view (view_freeze (g := encI) (z := 1) (ys := f.conts) 0 222 rfl rfl rfl (fun _ => rfl) rfl rfl) ?_
    refine j_view (view_cast 0 rfl R.le rfl) ?_
    repeat' (first
      | (refine j_go ?_; first
        | refine j_op0 rfl rfl rfl rfl ?_ | (refine j_kLoad rfl ?_; first | refine j_mload 1 rfl rfl rfl rfl rfl rfl rfl ?_) | (refine j_kBsl rfl ?_; first | refine j_bsl rfl rfl rfl rfl rfl rfl rfl rfl rfl rfl rfl ?_) | refine j_build rfl rfl rfl rfl rfl rfl rfl ?_)
      | refine j_nil ?_
      | (refine r_go ?_; first | refine run_seq ?_ | refine run_region ?_)
      | refine seqQ_normal ?_)
    refine j_storeN 3 rfl rfl rfl rfl rfl rfl rfl rfl rfl rfl rfl ?_
    repeat' (first
      | (refine j_go ?_; first
        | (refine j_kStore rfl ?_; first | refine j_storeN 2 rfl rfl rfl rfl rfl rfl rfl rfl rfl rfl rfl ?_))
      | refine j_nil ?_
      | (refine r_go ?_; first | refine run_ret ?_)
      | refine seqQ_normal ?_)
    refine endD_view (view_freezeP 3 2 rfl rfl) ?_
    refine endD_view (view_freezeP 2 3 rfl rfl) ?_
    refine endD_view (view_erase 1) ?_
    exact endD_ret (h1 := [_]) rfl (.cons (.cellI rfl rfl) (.cons (.cellI rfl rfl) .nil)) (Le.tup (LeL.cons (Le.refl _) (LeL.cons (Le.agg (LeL.cons (Le.nil 0) (LeL.cons (Le.refl _) LeL.nil))) LeL.nil))) ⟨.os ob css.length cp, .inl ⟨ob, cp, by rw [il2], rfl⟩, rfl⟩ (.inl rfl)
theorem c_l07Made (f : Cnf) (hv : f.Valid) : Gives Try.prog 131 [.ip (encCnf f)] (.tup [.agg (encDivision f.division), .agg (encColony f.colony)]) := (o_l07Made f hv).frozen fun _ _ q => q.frz
open Classical in
noncomputable def resCnfDivision (f : Cnf) : Division := if f.Valid then f.division else ⟨0, []⟩
open Classical in
noncomputable def colCnfDivision (f : Cnf) : Colony := if f.Valid then f.colony else ⟨[], []⟩
noncomputable def codeCnfDivision (f : Cnf) : Int := cdP f.Valid
theorem cd_t2 {f : Cnf} (h : f.Valid) : resCnfDivision f = f.division ∧ colCnfDivision f = f.colony ∧ codeCnfDivision f = 0 := ⟨if_pos h, if_pos h, cd_t h⟩
theorem cd_f2 {f : Cnf} (h : ¬ f.Valid) : resCnfDivision f = ⟨0, []⟩ ∧ colCnfDivision f = ⟨[], []⟩ ∧ codeCnfDivision f = 1 := ⟨if_neg h, if_neg h, cd_f h⟩
theorem c_sCnfDivision (f : Cnf) : Gives Try.prog 58 [.agg (encCnf f)] (.tup [.agg (encDivision (resCnfDivision f)), .agg (encColony (colCnfDivision f)), .int (codeCnfDivision f)]) := by
  refine fn_of_run tyOk ztOk mix Try.func58 rfl (by decide) Try.ntmps58 (fun w0 F => ?_)
  by_cases hv : f.Valid
  · rw [(cd_t2 hv).1, (cd_t2 hv).2.1, (cd_t2 hv).2.2]
    repeat' (first
      | (refine j_go ?_; first
        | refine j_op0 rfl rfl rfl rfl ?_ | (refine j_kCall rfl rfl rfl rfl ?_; first | refine jc (c_l07Cnf _) (LeL.refl _) rfl rfl ?_ | refine jc (c_l07Made _ hv) (LeL.refl _) rfl rfl ?_) | (refine j_kStore rfl ?_; first | refine j_storeN 0 rfl rfl rfl rfl rfl rfl rfl rfl rfl rfl rfl ?_ | refine j_storeN 1 rfl rfl rfl rfl rfl rfl rfl rfl rfl rfl rfl ?_) | refine j_box rfl rfl rfl rfl rfl rfl ?_ | refine j_build rfl rfl rfl rfl rfl rfl rfl ?_ | refine j_alloc rfl rfl rfl rfl rfl (fun _ => ?_))
      | refine j_nil ?_
      | (refine j_goO ?_; first
        | (refine j_kLoadO rfl ?_; first | refine j_mloadO 1 rfl rfl rfl rfl rfl rfl rfl rfl ?_))
      | (refine r_go ?_; first | refine run_seq ?_ | refine run_region ?_ | (refine (run_ifn rfl (fun hb => ?_) (fun hb => ?_)) <;> first | (exfalso; omega) | skip) | refine run_ret ?_ | refine run_skip ?_ | refine run_opn 4 [⟨0, true, false, false⟩, ⟨1, false, false, false⟩, ⟨2, false, true, false⟩, ⟨3, false, true, false⟩, ⟨4, true, false, false⟩] rfl rfl (by kernel_rfl) ?_)
      | refine seqQ_normal ?_ | refine seqQ_ret ?_)
    · exact absurd hv hb
    refine j_mloadS 0 rfl rfl rfl rfl rfl rfl rfl ?_
    refine j_storeNO 3 rfl rfl rfl rfl rfl rfl rfl rfl rfl rfl rfl rfl (by intro k2 hk2; simp only [List.mem_singleton] at hk2; subst hk2; exact List.mem_cons_self ..) ?_
    refine j_dropO [1] rfl (by kernel_rfl) ?_
    repeat' (first
      | (refine j_goO ?_; first
        | refine j_op0O rfl rfl rfl rfl ?_ | (refine j_kStoreO rfl ?_; first | refine j_storeNO 2 rfl rfl rfl rfl rfl rfl rfl rfl rfl rfl rfl rfl (by first | exact fun _ hk => nomatch hk | (intro k hk; simp at hk ⊢; try simp [hk])) ?_))
      | refine j_nilO ?_
      | (refine r_go ?_; first | refine run_ret ?_)
      | refine seqQ_normal ?_)
    refine end_view (view_freezeP 3 2 rfl rfl) (end_view (view_freezeP 2 3 rfl rfl) ?_)
    exact end_le (by repeat' first | exact List.Sublist.refl _ | refine List.Sublist.cons _ ?_) (vs := [_, _, _]) (.cons (.cellI rfl rfl) (.cons (.cellI rfl rfl) (.cons (.tmp rfl) .nil))) (Le.refl _) (.inl rfl)
  · rw [(cd_f2 hv).1, (cd_f2 hv).2.1, (cd_f2 hv).2.2]
    repeat' (first
      | (refine j_go ?_; first
        | refine j_op0 rfl rfl rfl rfl ?_ | (refine j_kCall rfl rfl rfl rfl ?_; first | refine jc (c_l07Cnf _) (LeL.refl _) rfl rfl ?_) | (refine j_kStore rfl ?_; first | refine j_storeN 0 rfl rfl rfl rfl rfl rfl rfl rfl rfl rfl rfl ?_ | refine j_storeN 1 rfl rfl rfl rfl rfl rfl rfl rfl rfl rfl rfl ?_) | refine j_box rfl rfl rfl rfl rfl rfl ?_ | refine j_build rfl rfl rfl rfl rfl rfl rfl ?_ | refine j_alloc rfl rfl rfl rfl rfl (fun _ => ?_))
      | refine j_nil ?_
      | (refine r_go ?_; first | refine run_seq ?_ | refine run_region ?_ | (refine (run_ifn rfl (fun hb => ?_) (fun hb => ?_)) <;> first | (exfalso; omega) | skip) | refine run_ret ?_ | refine run_skip ?_)
      | refine seqQ_normal ?_ | refine seqQ_ret ?_)
    · refine end_view (view_freezeP 1 2 rfl rfl) (end_view (view_freezeP 0 3 rfl rfl) ?_)
      exact end_le (List.Sublist.refl _) (vs := [_, _, _]) (.cons (.cellI rfl rfl) (.cons (.cellI rfl rfl) (.cons (.tmp rfl) .nil))) (Le.tup (LeL.cons (Le.agg (LeL.cons (Le.refl _) (LeL.cons (Le.nil 0) LeL.nil))) (LeL.cons (Le.agg (LeL.cons (Le.nil 0) (LeL.cons (Le.nil 0) LeL.nil))) (LeL.cons (Le.refl _) LeL.nil)))) (.inl rfl)
    · exact absurd hb hv
end Go.Proofs.Ytgjlemedckhlfaa
