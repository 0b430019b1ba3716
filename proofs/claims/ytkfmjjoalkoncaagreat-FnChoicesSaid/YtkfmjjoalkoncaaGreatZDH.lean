/-
  A system that is drawn: it is right, and small. No condition.
-/
import Derived.Test.YtkfmjjoalkoncaaGreatZDF
namespace Go.Proofs.YtkfmjjoalkoncaaGreat
open Go.AI
set_option maxRecDepth 8000
set_option maxHeartbeats 1600000

/-- Parents that were drawn. -/
def Prs (ps : List Int) : Prop := ps[0]? = some (-1) ∧ ∀ c (h : c < ps.length), 1 ≤ c → 0 ≤ ps[c] ∧ ps[c] ≤ (c : Int) - 1
theorem Prs.one : Prs [-1] := ⟨rfl, fun c h h1 => by simp at h; omega⟩
theorem Prs.snoc {ps : List Int} {r : Int} (h : Prs ps) (h0 : 1 ≤ ps.length) (hr : 0 ≤ r ∧ (r < ps.length ∨ r = 0 ∧ (ps.length : Int) ≤ 1)) : Prs (ps ++ [r]) := by
  refine ⟨?_, fun c hc h1 => ?_⟩
  · rw [List.getElem?_append_left (by omega)]; exact h.1
  · by_cases q : c < ps.length
    · rw [List.getElem_append_left q]; exact h.2 c q h1
    · have e : c = ps.length := by simp at hc; omega
      subst e
      rw [List.getElem_append_right (Nat.le_refl _)]
      simp only [Nat.sub_self, List.getElem_cons_zero]
      omega
theorem cntR_le (c : Int) (l : List Rule) : cntR c l ≤ l.length := by
  have := (sumF_bnd (fun r : Rule => one c r.cell) (lo := 0) (hi := 1) l (fun x _ => one_bnd c x.cell)).2
  unfold cntR; omega
theorem sys_ok {y : System} (hf : y.Frame) (hl : y.rules.length ≤ 8) (hr : ∀ r ∈ y.rules, y.RuleOk r) : y.Ok := ⟨hf, by omega, fun i hi => ⟨hr _ (List.getElem_mem _), by
  have := cntR_le y.rules[i].cell (y.rules.take (i + 1))
  have h2 : (y.rules.take (i + 1)).length ≤ i + 1 := by rw [List.length_take]; omega
  omega⟩⟩
abbrev rlB (b : Option Nat) (cap : Nat) (l : List Rule) : Blk := ⟨b, 64, cap * 9, (l.map encRule).flatten⟩
abbrev sys0 : List A := [.int 0, .os none 0 0, .os none 0 0]
/-- A system that is drawn: its rules in memory of the call's own. -/
def DrnR (s : Nat) (code : List UInt8) (lim : Nat) : A → Heap → Prop := fun v h' => ∃ (y : System) (b : Option Nat) (cap : Nat) (k : Blk) (at2 : Nat) (sd : Int), y.Ok ∧ y.kinds ≤ 3 ∧ y.parents.length ≤ 3 ∧ y.rules.length ≤ 5 ∧ v = .agg [.int y.kinds, .sl (y.parents.map Go.AI.encI), .os b y.rules.length cap] ∧ at2 ≤ lim ∧ h' = [rlB b cap y.rules, k, srcB s code at2 sd]
theorem o_l02Drawn (s : Nat) (code : List UInt8) (at_ : Nat) (sd : Int) (ha : at_ ≤ 1000) : Does Tryz.prog 16 [.op (some s) 0] [srcB s code at_ sd] (DrnR s code (at_ + 2000)) := by
  refine fn_of_runD tyOk ztOk mix Tryz.func16 rfl (by decide) Tryz.ntmps16 (fun w0 F => ?_)
  change Run _ _ _ _ _ (_ :: F)
  repeat' (first
      | (refine j_go ?_; first
        | refine j_op0 rfl rfl rfl rfl ?_ | refine j_alloc rfl rfl rfl rfl rfl (fun _ => ?_))
      | refine j_nil ?_
      | (refine r_go ?_; first | refine run_seq ?_ | refine run_region ?_)
      | refine seqQ_normal ?_)
  rename_i br
  refine j_kCall rfl rfl rfl rfl ?_
  refine jcp (_ :: F) (o_pick s code at_ sd 3 (by omega) (by omega)) (List.Perm.swap _ _ _) (LeL.refl _) rfl rfl (fun v h1 hR => ?_)
  obtain ⟨r, a1, sd1, rfl, hr, ha1, rfl⟩ := hR
  repeat' (first
      | (refine j_go ?_; first
        | (refine j_kBin rfl ?_; first | refine j_in rfl rfl ⟨by omega, by omega⟩ rfl rfl ?_)))
  refine j_bslM rfl rfl rfl rfl rfl rfl rfl rfl rfl rfl rfl (fun b1 => ?_)
  repeat' (first
      | (refine j_go ?_; first
        | refine j_op0 rfl rfl rfl rfl ?_ | (refine j_kStore rfl ?_; first | refine j_storeN 0 rfl rfl rfl rfl rfl rfl rfl rfl rfl rfl rfl ?_) | refine j_build rfl rfl rfl rfl rfl rfl rfl ?_ | refine j_alloc rfl rfl rfl rfl rfl (fun _ => ?_))
      | refine j_nil ?_
      | (refine r_go ?_; first | refine run_seq ?_ | refine run_region ?_)
      | refine seqQ_normal ?_)
  rename_i bp
  refine j_kCall rfl rfl rfl rfl ?_
  refine jcp (_ :: _ :: _ :: F) (o_pick s code a1 sd1 3 (by omega) (by omega)) (List.perm_middle (l₁ := [_, _])) (LeL.refl _) rfl rfl (fun v h1 hR => ?_)
  obtain ⟨r2, a2, sd2, rfl, hr2, ha2, rfl⟩ := hR
  repeat' (first
      | (refine j_go ?_; first
        | refine j_op0 rfl rfl rfl rfl ?_)
      | refine j_nil ?_
      | (refine r_go ?_; first | refine run_block ?_)
      | refine seqQ_normal ?_)
  refine run_loop (fun x : Int × List Int × Option Nat × Nat × Nat × Int => [(0, .op (some s) 0), (2, .op (some br) 0), (3, .op (some bp) 0), (4, .int x.1)])
    (fun x => srcB s code x.2.2.2.2.1 x.2.2.2.2.2 :: sysB bp [.int (1 + r), .os x.2.2.1 x.2.1.length x.2.2.2.1, .os none 0 0] :: lsI 2 x.2.2.1 x.2.2.2.1 x.2.1 :: sysB br sys0 :: F)
    (fun x => 0 ≤ x.1 ∧ Prs x.2.1 ∧ 1 ≤ x.2.1.length ∧ (x.2.1.length : Int) + x.1 ≤ 3 ∧ (x.2.2.2.2.1 : Int) ≤ at_ + 8 - 2 * x.1) (fun x => x.1.toNat) (r2, [-1], some b1, 1, a2, sd2) ⟨rfl, rfl, rfl, rfl, trivial⟩ rfl ⟨by omega, Prs.one, by simp, by dsimp only [List.length_cons, List.length_nil]; omega, by dsimp only; omega⟩ (fun ⟨i, ps, b, cap, a, sd⟩ ⟨hi, hp, hl, hm, hA⟩ => ?_)
  dsimp only at hi hp hl hm hA ⊢
  by_cases h0 : 0 < i
  case pos =>
    repeat' (first
      | (refine j_go ?_; first
        | refine j_op0 rfl rfl rfl rfl ?_)
      | refine j_nil ?_
      | (refine j_goO ?_; first
        | refine j_op0O rfl rfl rfl rfl ?_ | (refine j_kLenO rfl ?_; first | refine j_opO rfl rfl rfl rfl ?_) | (refine j_kLoadO rfl ?_; first | refine j_mloadO 1 rfl rfl rfl rfl rfl rfl rfl rfl ?_ | refine j_mloadS 1 rfl rfl rfl rfl rfl rfl rfl ?_))
      | (refine r_go ?_; first | refine run_seq ?_ | refine run_region ?_ | (refine (run_if rfl (fun hb => ?_) (fun hb => ?_)) <;> first | (exfalso; omega) | skip) | refine run_block ?_ | refine run_skip ?_ | refine run_opn 5 [⟨0, false, false, 0⟩, ⟨1, false, false, 0⟩, ⟨2, true, false, 0⟩, ⟨3, true, false, 0⟩, ⟨4, true, false, 0⟩, ⟨5, true, false, 0⟩, ⟨6, false, true, 0⟩, ⟨7, true, false, 0⟩, ⟨8, false, true, 0⟩, ⟨9, true, false, 0⟩, ⟨10, false, true, 0⟩] rfl rfl (by kernel_rfl) ?_)
      | refine seqQ_normal ?_)
    refine j_kCallO rfl rfl rfl rfl ?_
    refine jcdO 0 1 rfl (fun k hk => by rw [memB1 hk]; exact List.mem_cons_self) (o_pick s code a sd ps.length (by omega) (by omega)) rfl (LeL.refl _) rfl rfl (fun v h1 hR => ?_)
    obtain ⟨r3, a3, sd3, rfl, hr3, ha3, rfl⟩ := hR
    refine j_dropO [1] rfl (by kernel_rfl) ?_
    repeat' (first
      | (refine j_goO ?_; first
        | (refine j_kBslO rfl ?_; first | refine j_bslO rfl rfl rfl rfl rfl rfl rfl rfl rfl rfl rfl ?_)))
    refine j_appendO 2 (g := Go.AI.encI) (ys := ps) [r3] rfl (fun _ hk => nomatch hk) rfl rfl rfl rfl rfl rfl rfl rfl rfl rfl rfl rfl (fun _ => rfl) (fun _ _ => rfl) ⟨by simp only [List.length_cons, List.length_nil]; omega, by simp only [List.length_cons, List.length_nil]; omega⟩ rfl rfl (fun b' cap' => ?_)
    repeat' (first
      | (refine j_go ?_; first
        | refine j_op0 rfl rfl rfl rfl ?_ | (refine j_kBin rfl ?_; first | refine j_in rfl rfl ⟨by omega, by omega⟩ rfl rfl ?_))
      | refine j_nil ?_
      | (refine j_goO ?_; first
        | refine j_op0O rfl rfl rfl rfl ?_ | (refine j_kStoreO rfl ?_; first | refine j_storeO 1 rfl rfl rfl rfl rfl rfl rfl rfl rfl rfl rfl rfl (by first | (intro _ hk; exact absurd hk List.not_mem_nil) | (intro k hk; simp at hk ⊢; try simp [hk])) ?_))
      | refine j_nilO ?_
      | (refine r_go ?_; first | refine run_region ?_)
      | refine seqQ_normal ?_ | refine blockQ_normal ?_)
    have ln : (ps ++ [r3]).length = ps.length + 1 := by rw [List.length_append]; rfl
    exact loopQ_next (i - 1, ps ++ [r3], b', cap', a3, sd3) ⟨by dsimp only; omega, hp.snoc hl (by omega), by dsimp only; omega, by dsimp only; omega, by dsimp only; omega⟩ (by dsimp only; omega) rfl ⟨rfl, rfl, rfl, rfl, trivial⟩
  obtain rfl : i = 0 := by omega
  repeat' (first
      | (refine j_go ?_; first
        | refine j_op0 rfl rfl rfl rfl ?_)
      | refine j_nil ?_
      | (refine r_go ?_; first | refine run_seq ?_ | refine run_region ?_ | (refine (run_if rfl (fun hb => ?_) (fun hb => ?_)) <;> first | (exfalso; omega) | skip) | refine run_exit ?_)
      | refine seqQ_normal ?_ | refine seqQ_exit ?_ | refine blockQ_eq ?_ | refine loopQ_exit ?_)
  refine j_kCall rfl rfl rfl rfl ?_
  refine jcp (_ :: _ :: _ :: F) (o_pick s code a sd 6 (by omega) (by omega)) (List.Perm.refl _) (LeL.refl _) rfl rfl (fun v h1 hR => ?_)
  obtain ⟨r4, a4, sd4, rfl, hr4, ha4, rfl⟩ := hR
  have aB : a4 ≤ at_ + 10 := by omega
  repeat' (first
      | (refine j_go ?_; first
        | refine j_op0 rfl rfl rfl rfl ?_)
      | refine j_nil ?_
      | (refine r_go ?_; first | refine run_block ?_)
      | refine seqQ_normal ?_)
  refine run_view (view_cellF (k := 1) (b := some bp) (h1 := [lsI 2 b cap ps]) (F := _ :: _ :: F) ((List.Perm.swap _ _ _).trans (List.Perm.cons _ (List.Perm.swap _ _ _))) rfl (FrzF.flat (g := Go.AI.encI) (ys := ps) (z := 1) rfl rfl (fun _ => rfl) rfl rfl)) ?_
  refine run_view (view_none 64 (0 * 9) rfl) ?_
  refine run_view (view_perm rev3) ?_
  clear hA ha4
  have hf : ∀ rs : List Rule, (⟨1 + r, ps, rs⟩ : System).Frame := fun rs => ⟨by dsimp only; omega, by dsimp only; omega, hp.1, fun c hc h1 => hp.2 c hc h1⟩
  refine run_loop (fun x : Int × List Rule × Option Nat × Nat × Nat × Int => [(0, .op (some s) 0), (2, .op (some br) 0), (3, .op (some bp) 0), (5, .int x.1)])
    (fun x => srcB s code x.2.2.2.2.1 x.2.2.2.2.2 :: sysB bp [.int (1 + r), .sl (ps.map Go.AI.encI), .os x.2.2.1 x.2.1.length x.2.2.2.1] :: rlB x.2.2.1 x.2.2.2.1 x.2.1 :: sysB br sys0 :: F)
    (fun x => (0 ≤ x.1 ∧ x.1 ≤ 5) ∧ (x.2.1.length : Int) + x.1 ≤ 5 ∧ (∀ q ∈ x.2.1, (⟨1 + r, ps, []⟩ : System).RuleOk q) ∧ (x.2.2.2.2.1 : Int) ≤ at_ + 10 + 200 * (5 - x.1)) (fun x => x.1.toNat) (r4, [], none, 0, a4, sd4) ⟨rfl, rfl, rfl, rfl, trivial⟩ rfl ⟨by dsimp only; omega, by dsimp only [List.length_nil]; omega, by simp, by dsimp only; omega⟩ (fun ⟨i, rs, b, cap, a, sd⟩ ⟨hi, hl2, hq, hA⟩ => ?_)
  dsimp only at hi hl2 hq hA ⊢
  by_cases h0 : 0 < i
  case pos =>
    repeat' (first
      | (refine j_go ?_; first
        | refine j_op0 rfl rfl rfl rfl ?_)
      | refine j_nil ?_
      | (refine j_goO ?_; first
        | refine j_op0O rfl rfl rfl rfl ?_ | (refine j_kLoadO rfl ?_; first | refine j_mloadS 1 rfl rfl rfl rfl rfl rfl rfl ?_))
      | (refine r_go ?_; first | refine run_seq ?_ | refine run_region ?_ | (refine (run_if rfl (fun hb => ?_) (fun hb => ?_)) <;> first | (exfalso; omega) | skip) | refine run_block ?_ | refine run_skip ?_ | refine run_opn 9 [⟨0, false, false, 0⟩, ⟨1, false, false, 0⟩, ⟨2, true, false, 0⟩, ⟨3, false, true, 0⟩, ⟨4, true, false, 0⟩, ⟨5, false, true, 0⟩, ⟨6, true, false, 0⟩, ⟨7, false, true, 0⟩] rfl rfl (by kernel_rfl) ?_)
      | refine seqQ_normal ?_)
    refine j_mutO rfl rfl (call_part 0 2 rfl rfl rfl (o_l02DrawRule s code a sd ⟨1 + r, ps, []⟩ bp (.os b rs.length cap) (hf []) (by dsimp only; omega) (by dsimp only; omega) (by omega)) rfl (LeL.refl _)) (fun v h' ⟨h1, ⟨r5, k5, a5, sd5, _, _, _, q5⟩, q2⟩ k hk => by rw [memB1 hk, q2, q5]; exact List.mem_cons_of_mem _ (List.mem_cons_of_mem _ List.mem_cons_self)) rfl (fun v h' hR => ?_)
    obtain ⟨h1, ⟨r5, k5, a5, sd5, hr5, rfl, ha5, rfl⟩, rfl⟩ := hR
    refine j_dropO [1] rfl (by kernel_rfl) ?_
    repeat' (first
      | (refine j_goO ?_; first
        | (refine j_kBslO rfl ?_; first | refine j_bslO rfl rfl rfl rfl rfl rfl rfl rfl rfl rfl rfl ?_)))
    refine j_appendO 3 (g := encRule) (ys := rs) [r5] rfl (fun _ hk => nomatch hk) rfl rfl rfl rfl rfl rfl rfl rfl rfl rfl rfl rfl (fun _ => rfl) (fun _ hy => by simp only [List.mem_singleton] at hy; subst hy; rfl) ⟨by simp only [List.length_cons, List.length_nil]; omega, by simp only [List.length_cons, List.length_nil]; omega⟩ rfl rfl (fun b' cap' => ?_)
    repeat' (first
      | (refine j_go ?_; first
        | refine j_op0 rfl rfl rfl rfl ?_ | (refine j_kBin rfl ?_; first | refine j_in rfl rfl ⟨by omega, by omega⟩ rfl rfl ?_))
      | refine j_nil ?_
      | (refine j_goO ?_; first
        | refine j_op0O rfl rfl rfl rfl ?_ | (refine j_kStoreO rfl ?_; first | refine j_storeO 2 rfl rfl rfl rfl rfl rfl rfl rfl rfl rfl rfl rfl (by first | (intro _ hk; exact absurd hk List.not_mem_nil) | (intro k hk; simp at hk ⊢; try simp [hk])) ?_))
      | refine j_nilO ?_
      | (refine r_go ?_; first | refine run_region ?_)
      | refine seqQ_normal ?_ | refine blockQ_normal ?_)
    have ln : (rs ++ [r5]).length = rs.length + 1 := by rw [List.length_append]; rfl
    exact loopQ_nextD (i - 1, rs ++ [r5], b', cap', a5, sd5) ⟨by dsimp only; omega, by dsimp only; omega, fun q h => by
      rcases List.mem_append.1 h with h | h
      · exact hq q h
      · rw [List.mem_singleton] at h; subst h; exact hr5, by dsimp only; omega⟩ (by dsimp only; omega) (List.sublist_cons_self _ _) ⟨rfl, rfl, rfl, rfl, trivial⟩
  obtain rfl : i = 0 := by omega
  repeat' (first
      | (refine j_go ?_; first
        | refine j_op0 rfl rfl rfl rfl ?_ | (refine j_kLoad rfl ?_; first | refine j_mload 1 rfl rfl rfl rfl rfl rfl rfl ?_) | (refine j_kStore rfl ?_; first | refine j_storeN 3 rfl rfl rfl rfl rfl rfl rfl rfl rfl rfl rfl ?_))
      | refine j_nil ?_
      | (refine r_go ?_; first | refine run_seq ?_ | refine run_region ?_ | (refine (run_if rfl (fun hb => ?_) (fun hb => ?_)) <;> first | (exfalso; omega) | skip) | refine run_ret ?_ | refine run_exit ?_)
      | refine seqQ_normal ?_ | refine seqQ_exit ?_ | refine blockQ_eq ?_ | refine loopQ_exit ?_)
  refine endD_view (view_sub ((List.sublist_cons_self _ _).cons_cons _)) ?_
  refine endD_view (view_perm (List.perm_middle (l₁ := [_, _])).symm) ?_
  exact endD_ret (h1 := [_, _, _]) rfl (.cons (.cellM (b := br) rfl (List.mem_cons_of_mem _ List.mem_cons_self) rfl) .nil) (Le.refl _) ⟨⟨1 + r, ps, rs⟩, b, cap, _, a, sd, sys_ok (hf rs) (by dsimp only; omega) (fun q h => hq q h), by dsimp only; omega, by dsimp only; omega, by dsimp only; omega, rfl, by omega, rfl⟩ (.inl rfl)
end Go.Proofs.YtkfmjjoalkoncaaGreat

/-
  A state that is drawn: it is right, and small. No condition.
-/
namespace Go.Proofs.YtkfmjjoalkoncaaGreat
open Go.AI
set_option maxRecDepth 8000
set_option maxHeartbeats 1600000

def slI (l : List Int) : A := .sl (l.map Go.AI.encI)
theorem row_snoc (rows : List (List Int)) (r : List Int) : rows.map slI ++ [slI r] = (rows ++ [r]).map slI := by rw [List.map_append]; rfl
theorem perm6 {a b c d e f : Blk} {l : Heap} : (a :: b :: c :: d :: e :: f :: l).Perm (e :: f :: c :: b :: a :: d :: l) := by classical exact List.perm_iff_count.2 fun _ => by simp only [List.count_cons]; omega
theorem pmA {a b c d e f : Blk} {l : Heap} : (a :: b :: c :: d :: e :: f :: l).Perm (c :: ([d] ++ (a :: b :: e :: f :: l))) := by classical exact List.perm_iff_count.2 fun _ => by simp only [List.count_cons, List.singleton_append]; omega
theorem pmB {a b c e f : Blk} {l : Heap} : (c :: a :: b :: e :: f :: l).Perm (c :: ([e] ++ (a :: b :: f :: l))) := by classical exact List.perm_iff_count.2 fun _ => by simp only [List.count_cons, List.singleton_append]; omega
/-- Cells that were drawn. -/
def Fresh (y : System) (al : List Bool) (rows : List (List Int)) : Prop := (0 < al.length → al[0]? = some true) ∧ ∀ i (h : i < rows.length), y.CellOk al[i]? rows[i] ∧ ∀ x ∈ rows[i], x ≤ 5
theorem fresh_snoc {y : System} {al : List Bool} {rows : List (List Int)} {c : Nat} (ha : al.length = c) (hr : rows.length = c) (h : Fresh y al rows) {a : Bool} {r : List Int} (h0 : (c = 0 → a = true) ∧ BagK y.kinds r ∧ (a = true ∨ tot r ≤ 0) ∧ ∀ x ∈ r, x ≤ 5) : Fresh y (al ++ [a]) (rows ++ [r]) := by
  refine ⟨fun _ => ?_, fun i hi => ?_⟩
  · by_cases q : 0 < al.length
    · rw [List.getElem?_append_left q]; exact h.1 q
    · have e : al = [] := List.eq_nil_of_length_eq_zero (by omega)
      subst e
      rw [h0.1 (by simpa using ha.symm)]; rfl
  · rw [List.length_append, List.length_singleton] at hi
    by_cases q : i < rows.length
    · rw [List.getElem_append_left q, List.getElem?_append_left (by omega)]; exact h.2 i q
    · have e : i = rows.length := by omega
      subst e
      rw [List.getElem_append_right (Nat.le_refl _), List.getElem?_append_right (by omega), show rows.length - al.length = 0 from by omega]
      simp only [Nat.sub_self, List.getElem_cons_zero, List.getElem?_cons_zero]
      exact ⟨⟨h0.2.1, h0.2.2.1.imp (fun q => by rw [q]) id⟩, h0.2.2.2⟩
abbrev stB (b : Nat) (cs : List A) : Blk := ⟨some b, 31, 3, cs⟩
abbrev bB (b : Option Nat) (cap : Nat) (l : List Bool) : Blk := ⟨b, 4, cap * 1, (l.map encB).flatten⟩
abbrev vB (b : Option Nat) (cap : Nat) (l : List (List Int)) : Blk := ⟨b, 24, cap * 1, ((l.map slI).map (fun a => [a])).flatten⟩
abbrev st0 : List A := [.os none 0 0, .os none 0 0, .os none 0 0]
def FrsR (s : Nat) (code : List UInt8) (lim : Nat) (y : System) (by_ : Nat) (x : A) : A → Heap → Prop := fun v h' => ∃ (t : State) (k : Blk) (at2 : Nat) (sd : Int), y.StateOk t ∧ (∀ r ∈ t.bags, ∀ z ∈ r, z ≤ 5) ∧ v = .agg (encState t) ∧ at2 ≤ lim ∧ h' = [k, srcB s code at2 sd, sysB by_ [.int y.kinds, .sl (y.parents.map Go.AI.encI), x]]
theorem o_l02Fresh (s : Nat) (code : List UInt8) (at_ : Nat) (sd : Int) (y : System) (by_ : Nat) (x : A) (most : Int) (hy : y.Frame) (hm : 0 ≤ most ∧ most ≤ 5) (ha : at_ ≤ 20000) : Does Tryz.prog 17 [.op (some s) 0, .op (some by_) 0, .int most] [srcB s code at_ sd, sysB by_ [.int y.kinds, .sl (y.parents.map Go.AI.encI), x]] (FrsR s code (at_ + 500) y by_ x) := by
  refine fn_of_runD tyOk ztOk mix Tryz.func17 rfl (by decide) Tryz.ntmps17 (fun w0 F => ?_)
  change Run _ _ _ _ _ (_ :: _ :: F)
  obtain ⟨K, hK⟩ : ∃ K : Nat, y.kinds = (K : Int) := ⟨y.kinds.toNat, by have := hy.1; omega⟩
  have k8 := hy.1
  have p6 := hy.2.1
  rw [hK]
  have bagF : ∀ {l : List Int}, (l.length : Int) = (K : Int) → (∀ x ∈ l, 0 ≤ x ∧ x ≤ 5) → BagK y.kinds l := fun {l} hl hx => ⟨⟨fun x hx2 => by have := hx x hx2; omega, by omega, by omega⟩, by omega⟩
  have bagZ : BagK y.kinds (List.replicate K 0) := bagF (by rw [List.length_replicate]) (fun x hx => by rw [List.eq_of_mem_replicate hx]; omega)
  have totZ : tot (List.replicate K 0) ≤ 0 := by
    have : ∀ n : Nat, tot (List.replicate n 0) = 0 := fun n => by
      induction n with
      | zero => rfl
      | succ n ih => rw [List.replicate_succ]; show (0 : Int) + tot (List.replicate n 0) = 0; rw [ih]; rfl
    rw [this]; omega
  repeat' (first
      | (refine j_go ?_; first
        | refine j_op0 rfl rfl rfl rfl ?_ | (refine j_kLoad rfl ?_; first | refine j_mload 2 rfl rfl rfl rfl rfl rfl rfl ?_) | refine j_alloc rfl rfl rfl rfl rfl (fun _ => ?_))
      | refine j_nil ?_
      | (refine r_go ?_; first | refine run_seq ?_ | refine run_region ?_)
      | refine seqQ_normal ?_)
  rename_i b6
  refine j_makeQ K rfl rfl rfl rfl rfl rfl (by omega) rfl rfl ?_
  repeat' (first
      | (refine j_go ?_; first
        | refine j_op0 rfl rfl rfl rfl ?_ | (refine j_kStore rfl ?_; first | refine j_storeN 0 rfl rfl rfl rfl rfl rfl rfl rfl rfl rfl rfl ?_) | refine j_build rfl rfl rfl rfl rfl rfl rfl ?_ | refine j_alloc rfl rfl rfl rfl rfl (fun _ => ?_))
      | refine j_nil ?_
      | (refine r_go ?_; first | refine run_seq ?_ | refine run_region ?_ | refine run_block ?_)
      | refine seqQ_normal ?_)
  rename_i b7
  refine run_view (view_none 4 (0 * 1) rfl) ?_
  refine run_view (view_none 24 (0 * 1) rfl) ?_
  refine run_view (view_perm perm6) ?_
  refine run_loop (fun z : Nat × List Bool × Option Nat × Nat × List (List Int) × Option Nat × Nat × Nat × Int => [(0, .op (some s) 0), (1, .op (some by_) 0), (2, .int most), (6, .op (some b6) 0), (7, .op (some b7) 0), (8, .int (z.1 : Int))])
    (fun z => srcB s code z.2.2.2.2.2.2.2.1 z.2.2.2.2.2.2.2.2 :: sysB by_ [.int (K : Int), .sl (y.parents.map Go.AI.encI), x] :: stB b7 [.os z.2.2.1 z.2.1.length z.2.2.2.1, .os z.2.2.2.2.2.1 z.2.2.2.2.1.length z.2.2.2.2.2.2.1, slI (List.replicate K 0)] :: bB z.2.2.1 z.2.2.2.1 z.2.1 :: vB z.2.2.2.2.2.1 z.2.2.2.2.2.2.1 z.2.2.2.2.1 :: stB b6 st0 :: F)
    (fun z => z.1 ≤ y.parents.length ∧ z.2.1.length = z.1 ∧ z.2.2.2.2.1.length = z.1 ∧ Fresh y z.2.1 z.2.2.2.2.1 ∧ z.2.2.2.2.2.2.2.1 ≤ at_ + 14 * z.1) (fun z => y.parents.length - z.1) (0, [], none, 0, [], none, 0, at_, sd) ⟨rfl, rfl, rfl, rfl, rfl, rfl, trivial⟩ rfl ⟨Nat.zero_le _, rfl, rfl, ⟨fun h => absurd h (Nat.lt_irrefl _), fun i h => absurd h (Nat.not_lt_zero _)⟩, by dsimp only; omega⟩ (fun ⟨c, al, b1, c1, rows, b2, c2, a, sd⟩ ⟨kl, hal, hrl, hfr, hA⟩ => ?_)
  dsimp only at kl hal hrl hfr hA ⊢
  by_cases hcl : c < y.parents.length
  case pos =>
    repeat' (first
      | (refine j_go ?_; first
        | refine j_op0 rfl rfl rfl rfl ?_ | refine j_off rfl rfl rfl ?_ | (refine j_kLen rfl ?_; first | refine j_len rfl rfl rfl rfl rfl rfl ?_) | (refine j_kLoad rfl ?_; first | refine j_mload 1 rfl rfl rfl rfl rfl rfl rfl ?_) | (refine j_kGuard rfl ?_; first | (refine (j_if rfl rfl rfl (fun hb => ?_) (fun hb => ?_)) <;> first | (exfalso; omega) | skip)))
      | refine j_nil ?_
      | (refine r_go ?_; first | refine run_seq ?_ | refine run_region ?_ | (refine (run_if rfl (fun hb => ?_) (fun hb => ?_)) <;> first | (exfalso; omega) | skip) | refine run_block ?_ | refine run_skip ?_)
      | refine seqQ_normal ?_)
    · refine j_makeQ K rfl rfl rfl rfl rfl rfl (by omega) rfl rfl ?_
      repeat' (first
      | (refine j_go ?_; first
        | refine j_op0 rfl rfl rfl rfl ?_ | (refine j_kLoad rfl ?_; first | refine j_mload 1 rfl rfl rfl rfl rfl rfl rfl ?_))
      | refine j_nil ?_
      | (refine r_go ?_; first | refine run_seq ?_ | refine run_region ?_ | refine run_cond_t rfl ?_)
      | refine seqQ_normal ?_)
      refine j_kCall rfl rfl rfl rfl ?_
      refine jcp (_ :: _ :: _ :: _ :: _ :: F) (o_l02Few s code a sd K most (by omega) (by omega) (by omega)) (List.Perm.refl _) (LeL.refl _) rfl rfl (fun v h1 hR => ?_)
      obtain ⟨l, bl, cl, a5, sd5, rfl, hl, hx, _, ha5, rfl⟩ := hR
      repeat' (first
      | (refine j_go ?_; first
        | refine j_op0 rfl rfl rfl rfl ?_ | (refine j_kLoad rfl ?_; first | refine j_mload 3 rfl rfl rfl rfl rfl rfl rfl ?_) | (refine j_kBsl rfl ?_; first | refine j_bsl rfl rfl rfl rfl rfl rfl rfl rfl rfl rfl rfl ?_))
      | refine j_nil ?_
      | (refine r_go ?_; first | refine run_seq ?_ | refine run_region ?_)
      | refine seqQ_normal ?_)
      refine j_view (view_freeze 0 10 (ys := l) (g := Go.AI.encI) (z := 1) rfl rfl rfl (fun _ => rfl) rfl rfl) ?_
      refine j_append 3 (g := encB) (ys := al) [true] rfl rfl rfl rfl rfl rfl rfl rfl rfl rfl rfl rfl (fun _ => rfl) (fun _ hy => by simp only [List.mem_singleton] at hy; subst hy; rfl) ⟨by simp only [List.length_cons, List.length_nil]; omega, by simp only [List.length_cons, List.length_nil]; omega⟩ rfl rfl (fun b1' c1' => ?_)
      repeat' (first
      | (refine j_go ?_; first
        | refine j_op0 rfl rfl rfl rfl ?_ | (refine j_kLoad rfl ?_; first | refine j_mload 2 rfl rfl rfl rfl rfl rfl rfl ?_) | (refine j_kStore rfl ?_; first | refine j_store 2 rfl rfl rfl rfl rfl rfl rfl rfl rfl rfl rfl ?_) | (refine j_kBsl rfl ?_; first | refine j_bsl rfl rfl rfl rfl rfl rfl rfl rfl rfl rfl rfl ?_))
      | refine j_nil ?_
      | (refine r_go ?_; first | refine run_region ?_)
      | refine seqQ_normal ?_)
      refine j_append 4 (g := fun a => [a]) (ys := rows.map slI) [slI (l)] rfl rfl rfl rfl rfl rfl rfl rfl rfl rfl (by rw [List.length_map]) rfl (fun _ => rfl) (fun _ hy => by simp only [List.mem_singleton] at hy; subst hy; rfl) ⟨by simp only [List.length_map, List.length_cons, List.length_nil]; omega, by simp only [List.length_map, List.length_cons, List.length_nil]; omega⟩ rfl rfl (fun b2' c2' => ?_)
      rw [row_snoc, show ((rows ++ [l]).map slI).length = (rows ++ [l]).length from List.length_map ..]
      repeat' (first
      | (refine j_go ?_; first
        | refine j_op0 rfl rfl rfl rfl ?_ | (refine j_kBin rfl ?_; first | refine j_in rfl rfl ⟨by omega, by omega⟩ rfl rfl ?_) | (refine j_kStore rfl ?_; first | refine j_store 2 rfl rfl rfl rfl rfl rfl rfl rfl rfl rfl rfl ?_))
      | refine j_nil ?_
      | (refine r_go ?_; first | refine run_region ?_)
      | refine seqQ_normal ?_ | refine blockQ_normal ?_)
      exact loopQ_next (c + 1, al ++ [true], b1', c1', rows ++ [l], b2', c2', a5, sd5) ⟨by dsimp only; omega, by dsimp only; rw [List.length_append, hal]; rfl, by dsimp only; rw [List.length_append, hrl]; rfl, fresh_snoc hal hrl hfr ⟨fun _ => rfl, bagF hl hx, .inl rfl, fun x hx2 => (hx x hx2).2⟩, by dsimp only; omega⟩ (by dsimp only; omega) rfl ⟨rfl, rfl, rfl, rfl, rfl, nx _, trivial⟩
    · refine j_kCall rfl rfl rfl rfl ?_
      refine jcp (_ :: _ :: _ :: _ :: _ :: F) (o_one s code a sd 8 (by omega) (by omega)) (List.Perm.refl _) (LeL.refl _) rfl rfl (fun v h1 hR => ?_)
      obtain ⟨bo, a4, sd4, rfl, ha4, rfl⟩ := hR
      have hc0 : ¬ c = 0 := by omega
      repeat' (first
      | (refine j_go ?_; first
        | refine j_op0 rfl rfl rfl rfl ?_ | (refine j_kLoad rfl ?_; first | refine j_mload 1 rfl rfl rfl rfl rfl rfl rfl ?_))
      | refine j_nil ?_
      | (refine r_go ?_; first | refine run_seq ?_ | refine run_region ?_)
      | refine seqQ_normal ?_)
      refine j_makeQ K rfl rfl rfl rfl rfl rfl (by omega) rfl rfl ?_
      repeat' (first
      | (refine j_go ?_; first
        | refine j_op0 rfl rfl rfl rfl ?_ | (refine j_kLoad rfl ?_; first | refine j_mload 1 rfl rfl rfl rfl rfl rfl rfl ?_ | refine j_mload 2 rfl rfl rfl rfl rfl rfl rfl ?_) | (refine j_kBsl rfl ?_; first | refine j_bsl rfl rfl rfl rfl rfl rfl rfl rfl rfl rfl rfl ?_))
      | refine j_nil ?_
      | (refine r_go ?_; first | refine run_seq ?_ | refine run_region ?_ | refine run_skip ?_ | refine run_condn rfl (fun hb => ?_) (fun hb => ?_))
      | refine seqQ_normal ?_)
      · refine j_kCall rfl rfl rfl rfl ?_
        refine jcp (_ :: _ :: _ :: _ :: _ :: F) (o_l02Few s code a4 sd4 K most (by omega) (by omega) (by omega)) (List.Perm.refl _) (LeL.refl _) rfl rfl (fun v h1 hR => ?_)
        obtain ⟨l, bl, cl, a5, sd5, rfl, hl, hx, _, ha5, rfl⟩ := hR
        repeat' (first
      | (refine j_go ?_; first
        | refine j_op0 rfl rfl rfl rfl ?_ | (refine j_kLoad rfl ?_; first | refine j_mload 3 rfl rfl rfl rfl rfl rfl rfl ?_) | (refine j_kBsl rfl ?_; first | refine j_bsl rfl rfl rfl rfl rfl rfl rfl rfl rfl rfl rfl ?_))
      | refine j_nil ?_
      | (refine r_go ?_; first | refine run_seq ?_ | refine run_region ?_)
      | refine seqQ_normal ?_)
        refine j_view (view_freeze 0 10 (ys := l) (g := Go.AI.encI) (z := 1) rfl rfl rfl (fun _ => rfl) rfl rfl) ?_
        refine j_append 3 (g := encB) (ys := al) [!bo] rfl rfl rfl rfl rfl rfl rfl rfl rfl rfl rfl rfl (fun _ => rfl) (fun _ hy => by simp only [List.mem_singleton] at hy; subst hy; rfl) ⟨by simp only [List.length_cons, List.length_nil]; omega, by simp only [List.length_cons, List.length_nil]; omega⟩ rfl rfl (fun b1' c1' => ?_)
        repeat' (first
      | (refine j_go ?_; first
        | refine j_op0 rfl rfl rfl rfl ?_ | (refine j_kLoad rfl ?_; first | refine j_mload 2 rfl rfl rfl rfl rfl rfl rfl ?_) | (refine j_kStore rfl ?_; first | refine j_store 2 rfl rfl rfl rfl rfl rfl rfl rfl rfl rfl rfl ?_) | (refine j_kBsl rfl ?_; first | refine j_bsl rfl rfl rfl rfl rfl rfl rfl rfl rfl rfl rfl ?_))
      | refine j_nil ?_
      | (refine r_go ?_; first | refine run_region ?_)
      | refine seqQ_normal ?_)
        refine j_append 4 (g := fun a => [a]) (ys := rows.map slI) [slI (l)] rfl rfl rfl rfl rfl rfl rfl rfl rfl rfl (by rw [List.length_map]) rfl (fun _ => rfl) (fun _ hy => by simp only [List.mem_singleton] at hy; subst hy; rfl) ⟨by simp only [List.length_map, List.length_cons, List.length_nil]; omega, by simp only [List.length_map, List.length_cons, List.length_nil]; omega⟩ rfl rfl (fun b2' c2' => ?_)
        rw [row_snoc, show ((rows ++ [l]).map slI).length = (rows ++ [l]).length from List.length_map ..]
        repeat' (first
      | (refine j_go ?_; first
        | refine j_op0 rfl rfl rfl rfl ?_ | (refine j_kBin rfl ?_; first | refine j_in rfl rfl ⟨by omega, by omega⟩ rfl rfl ?_) | (refine j_kStore rfl ?_; first | refine j_store 2 rfl rfl rfl rfl rfl rfl rfl rfl rfl rfl rfl ?_))
      | refine j_nil ?_
      | (refine r_go ?_; first | refine run_region ?_)
      | refine seqQ_normal ?_ | refine blockQ_normal ?_)
        exact loopQ_next (c + 1, al ++ [!bo], b1', c1', rows ++ [l], b2', c2', a5, sd5) ⟨by dsimp only; omega, by dsimp only; rw [List.length_append, hal]; rfl, by dsimp only; rw [List.length_append, hrl]; rfl, fresh_snoc hal hrl hfr ⟨fun h => absurd h hc0, bagF hl hx, .inl (by simpa using hb), fun x hx2 => (hx x hx2).2⟩, by dsimp only; omega⟩ (by dsimp only; omega) rfl ⟨rfl, rfl, rfl, rfl, rfl, nx _, trivial⟩
      · refine j_append 3 (g := encB) (ys := al) [!bo] rfl rfl rfl rfl rfl rfl rfl rfl rfl rfl rfl rfl (fun _ => rfl) (fun _ hy => by simp only [List.mem_singleton] at hy; subst hy; rfl) ⟨by simp only [List.length_cons, List.length_nil]; omega, by simp only [List.length_cons, List.length_nil]; omega⟩ rfl rfl (fun b1' c1' => ?_)
        repeat' (first
      | (refine j_go ?_; first
        | refine j_op0 rfl rfl rfl rfl ?_ | (refine j_kLoad rfl ?_; first | refine j_mload 2 rfl rfl rfl rfl rfl rfl rfl ?_) | (refine j_kStore rfl ?_; first | refine j_store 2 rfl rfl rfl rfl rfl rfl rfl rfl rfl rfl rfl ?_) | (refine j_kBsl rfl ?_; first | refine j_bsl rfl rfl rfl rfl rfl rfl rfl rfl rfl rfl rfl ?_))
      | refine j_nil ?_
      | (refine r_go ?_; first | refine run_region ?_)
      | refine seqQ_normal ?_)
        refine j_append 4 (g := fun a => [a]) (ys := rows.map slI) [slI (List.replicate K 0)] rfl rfl rfl rfl rfl rfl rfl rfl rfl rfl (by rw [List.length_map]) rfl (fun _ => rfl) (fun _ hy => by simp only [List.mem_singleton] at hy; subst hy; rfl) ⟨by simp only [List.length_map, List.length_cons, List.length_nil]; omega, by simp only [List.length_map, List.length_cons, List.length_nil]; omega⟩ rfl rfl (fun b2' c2' => ?_)
        rw [row_snoc, show ((rows ++ [(List.replicate K (0 : Int) : List Int)]).map slI).length = (rows ++ [(List.replicate K (0 : Int) : List Int)]).length from List.length_map ..]
        repeat' (first
      | (refine j_go ?_; first
        | refine j_op0 rfl rfl rfl rfl ?_ | (refine j_kBin rfl ?_; first | refine j_in rfl rfl ⟨by omega, by omega⟩ rfl rfl ?_) | (refine j_kStore rfl ?_; first | refine j_store 2 rfl rfl rfl rfl rfl rfl rfl rfl rfl rfl rfl ?_))
      | refine j_nil ?_
      | (refine r_go ?_; first | refine run_region ?_)
      | refine seqQ_normal ?_ | refine blockQ_normal ?_)
        exact loopQ_next (c + 1, al ++ [!bo], b1', c1', rows ++ [(List.replicate K (0 : Int) : List Int)], b2', c2', a4, sd4) ⟨by dsimp only; omega, by dsimp only; rw [List.length_append, hal]; rfl, by dsimp only; rw [List.length_append, hrl]; rfl, fresh_snoc hal hrl hfr ⟨fun h => absurd h hc0, bagZ, .inr totZ, fun x hx2 => by rw [List.eq_of_mem_replicate hx2]; omega⟩, by dsimp only; omega⟩ (by dsimp only; omega) rfl ⟨rfl, rfl, rfl, rfl, rfl, nx _, trivial⟩
  obtain rfl : c = y.parents.length := by omega
  refine run_view (view_cellF (k := 0) (b := some b7) (h1 := [bB b1 c1 al]) (F := _ :: _ :: _ :: _ :: F) pmA rfl (FrzF.flat (g := encB) (ys := al) (z := 1) rfl rfl (fun _ => rfl) rfl rfl)) ?_
  refine run_view (view_cellF (k := 1) (b := some b7) (h1 := [vB b2 c2 rows]) (F := _ :: _ :: _ :: F) pmB rfl (FrzF.flat (g := encS Go.AI.encI) (ys := rows) (z := 1) rfl (by rw [List.map_map]; rfl) (fun _ => rfl) rfl rfl)) ?_
  repeat' (first
      | (refine j_go ?_; first
        | refine j_op0 rfl rfl rfl rfl ?_ | (refine j_kLen rfl ?_; first | refine j_len rfl rfl rfl rfl rfl rfl ?_) | (refine j_kLoad rfl ?_; first | refine j_mload 2 rfl rfl rfl rfl rfl rfl rfl ?_))
      | refine j_nil ?_
      | (refine r_go ?_; first | refine run_seq ?_ | refine run_region ?_ | (refine (run_if rfl (fun hb => ?_) (fun hb => ?_)) <;> first | (exfalso; omega) | skip) | refine run_exit ?_)
      | refine seqQ_normal ?_ | refine seqQ_exit ?_ | refine blockQ_eq ?_ | refine loopQ_exit ?_)
  refine j_kCall rfl rfl rfl rfl ?_
  refine jcp (_ :: _ :: _ :: F) (o_one s code a sd 3 (by omega) (by omega)) (List.perm_middle (l₁ := [_])) (LeL.refl _) rfl rfl (fun v h1 hR => ?_)
  obtain ⟨bo, a4, sd4, rfl, ha4, rfl⟩ := hR
  repeat' (first
      | (refine j_go ?_; first
        | refine j_op0 rfl rfl rfl rfl ?_ | (refine j_kLoad rfl ?_; first | refine j_mload 1 rfl rfl rfl rfl rfl rfl rfl ?_ | refine j_mload 2 rfl rfl rfl rfl rfl rfl rfl ?_) | (refine j_kStore rfl ?_; first | refine j_storeN 3 rfl rfl rfl rfl rfl rfl rfl rfl rfl rfl rfl ?_))
      | refine j_nil ?_
      | (refine r_go ?_; first | refine run_seq ?_ | refine run_region ?_ | refine run_ret ?_ | refine run_skip ?_ | refine run_cond rfl (fun hb => ?_) (fun hb => ?_))
      | refine seqQ_normal ?_)
  · refine j_kCall rfl rfl rfl rfl ?_
    refine jcp (_ :: _ :: _ :: F) (o_l02Few s code a4 sd4 K 2 (by omega) (by omega) (by omega)) (List.Perm.refl _) (LeL.refl _) rfl rfl (fun v h1 hR => ?_)
    obtain ⟨l, bl, cl, a5, sd5, rfl, hl, hx, _, ha5, rfl⟩ := hR
    repeat' (first
      | (refine j_go ?_; first
        | refine j_op0 rfl rfl rfl rfl ?_ | (refine j_kLoad rfl ?_; first | refine j_mload 2 rfl rfl rfl rfl rfl rfl rfl ?_) | (refine j_kStore rfl ?_; first | refine j_store 2 rfl rfl rfl rfl rfl rfl rfl rfl rfl rfl rfl ?_ | refine j_storeN 4 rfl rfl rfl rfl rfl rfl rfl rfl rfl rfl rfl ?_))
      | refine j_nil ?_
      | (refine r_go ?_; first | refine run_seq ?_ | refine run_region ?_ | refine run_ret ?_)
      | refine seqQ_normal ?_)
    refine endD_view (view_cellF (k := 2) (b := some b6) (h1 := [lsI 2 bl cl l]) (F := _ :: _ :: _ :: F) (List.perm_middle (l₁ := [_, _, _, _])) rfl (FrzF.flat (g := Go.AI.encI) (ys := l) (z := 1) rfl rfl (fun _ => rfl) rfl rfl)) ?_
    refine endD_view (view_sub (((List.sublist_cons_self _ _).cons_cons _).cons_cons _)) ?_
    exact endD_ret (h1 := [_, _, _]) rfl (.cons (.cellM (b := b6) rfl List.mem_cons_self rfl) .nil) (Le.refl _) ⟨⟨al, rows, l⟩, _, a5, sd5, ⟨hal, hrl, hfr.1 (by omega), bagF hl hx, fun i hi => (hfr.2 i hi).1⟩, fun r hr z hz => by obtain ⟨i, hi, rfl⟩ := List.getElem_of_mem hr; exact (hfr.2 i hi).2 z hz, rfl, by omega, by rw [hK]⟩ (.inl rfl)
  · refine endD_view (view_perm (List.perm_middle (l₁ := [_, _, _]))) ?_
    refine endD_view (view_sub (((List.sublist_cons_self _ _).cons_cons _).cons_cons _)) ?_
    exact endD_ret (h1 := [_, _, _]) rfl (.cons (.cellM (b := b6) rfl List.mem_cons_self rfl) .nil) (Le.refl _) ⟨⟨al, rows, List.replicate K 0⟩, _, a4, sd4, ⟨hal, hrl, hfr.1 (by omega), bagZ, fun i hi => (hfr.2 i hi).1⟩, fun r hr z hz => by obtain ⟨i, hi, rfl⟩ := List.getElem_of_mem hr; exact (hfr.2 i hi).2 z hz, rfl, by omega, by rw [hK]⟩ (.inl rfl)
end Go.Proofs.YtkfmjjoalkoncaaGreat
