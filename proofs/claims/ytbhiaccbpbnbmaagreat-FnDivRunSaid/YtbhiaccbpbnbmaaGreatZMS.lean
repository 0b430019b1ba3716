/-
  A step of a colony: the reference's steps over what it collects. No condition.
-/
import Derived.Test.YtbhiaccbpbnbmaaGreatZS7o
import Derived.Test.YtbhiaccbpbnbmaaGreatZS3d
import Derived.Test.YtbhiaccbpbnbmaaGreatZE5
import Derived.Test.YtbhiaccbpbnbmaaGreatZP
namespace Go.Proofs.YtbhiaccbpbnbmaaGreat
open Go.AI
set_option maxRecDepth 8000
set_option maxHeartbeats 1600000

theorem o_mvCount (x : Nat) (left : List Int) (o : Int) (a0 a2 a3 a4 : A) (hl : left.length ≤ 1000000) : Does Tryz.prog 79 [.op (some x) 0, .int o] [⟨some x, 96, 5, [a0, .sl (left.map Go.AI.encI), a2, a3, a4]⟩]
    (fun v h' => v = .int (occ o left) ∧ h' = [⟨some x, 96, 5, [a0, .sl (left.map Go.AI.encI), a2, a3, a4]⟩]) := by
  refine fn_of_runD tyOk ztOk mix Tryz.func79 rfl (by decide) Tryz.ntmps79 (fun w0 F => ?_)
  change Run _ _ _ _ _ (_ :: F)
  repeat' (first
      | (refine j_go ?_; first
        | refine j_op0 rfl rfl rfl rfl ?_)
      | refine j_nil ?_
      | (refine r_go ?_; first | refine run_seq ?_ | refine run_region ?_ | refine run_block ?_)
      | refine seqQ_normal ?_)
  refine run_loop (fun k : Nat => [(0, .op (some x) 0), (1, .int o), (5, .int (occ o (left.take k))), (6, .int (k : Int))]) (fun _ => ⟨some x, 96, 5, [a0, .sl (left.map Go.AI.encI), a2, a3, a4]⟩ :: F) (fun k => k ≤ left.length) (fun k => left.length - k) 0 ⟨rfl, rfl, rfl, rfl, trivial⟩ rfl (Nat.zero_le _) (fun k kl => ?_)
  have ob := occ_bnd o (left.take k)
  have tl : (left.take k).length ≤ k := List.length_take_le _ _
  by_cases hk : k < left.length
  case pos =>
    have os := occ_snoc o left hk
    repeat' (first
      | (refine j_go ?_; first
        | refine j_op0 rfl rfl rfl rfl ?_ | (refine j_kIdx rfl ?_; first | refine j_idx rfl rfl rfl rfl rfl (by omega) rfl rfl rfl ?_) | (refine j_kBin rfl ?_; first | refine j_in rfl rfl ⟨by omega, by omega⟩ rfl rfl ?_) | (refine j_kLen rfl ?_; first | refine j_len rfl rfl rfl rfl rfl rfl ?_) | (refine j_kLoad rfl ?_; first | refine j_mload 0 rfl rfl rfl rfl rfl rfl rfl ?_))
      | refine j_nil ?_
      | (refine r_go ?_; first | refine run_seq ?_ | refine run_region ?_ | (refine (run_if rfl (fun hb => ?_) (fun hb => ?_)) <;> first | (exfalso; omega) | skip) | refine run_block ?_ | refine run_skip ?_)
      | refine seqQ_normal ?_ | refine blockQ_normal ?_)
    · exact loopQ_next (k + 1) (by omega) (by omega) rfl ⟨rfl, rfl, (by rw [os, one_t (by assumption)]; rfl), nx _, trivial⟩
    · exact loopQ_next (k + 1) (by omega) (by omega) rfl ⟨rfl, rfl, (by rw [os, one_f (by assumption), Int.add_zero]; rfl), nx _, trivial⟩
  have hke : k = left.length := by omega
  subst hke
  rw [List.take_length]
  repeat' (first
      | (refine j_go ?_; first
        | refine j_op0 rfl rfl rfl rfl ?_ | (refine j_kLen rfl ?_; first | refine j_len rfl rfl rfl rfl rfl rfl ?_) | (refine j_kLoad rfl ?_; first | refine j_mload 0 rfl rfl rfl rfl rfl rfl rfl ?_))
      | refine j_nil ?_
      | (refine r_go ?_; first | refine run_seq ?_ | refine run_region ?_ | (refine (run_if rfl (fun hb => ?_) (fun hb => ?_)) <;> first | (exfalso; omega) | skip) | refine run_ret ?_ | refine run_exit ?_)
      | refine seqQ_normal ?_ | refine seqQ_exit ?_ | refine blockQ_eq ?_ | refine loopQ_exit ?_)
  exact endD_ret (h1 := [_]) rfl (.cons (.tmp rfl) .nil) (Le.refl _) ⟨rfl, rfl⟩ (.inl rfl)
end Go.Proofs.YtbhiaccbpbnbmaaGreat

/-
  A step of a colony: the reference adds cells. No condition.
-/
namespace Go.Proofs.YtbhiaccbpbnbmaaGreat
open Go.AI
set_option maxRecDepth 8000
set_option maxHeartbeats 1600000

theorem o_mvAdd (x : Nat) (d : Division) (gs : List Group) (charge n : Int) (ct more : List Int) (a1 a2 a4 : A) (bc : Option Nat) (cc : Nat) (hd : 1 ≤ d.objects ∧ d.objects ≤ 64) (hl : gs.length ≤ 100000) (hc : ∀ y ∈ gs, 0 ≤ y.count ∧ y.count ≤ 1000000000000) (hn : 0 ≤ n ∧ n ≤ 1000000) (hch : charge ≤ 1) (h1 : ct.length ≤ 4000) (h2 : more.length ≤ 4000) (hr : ∀ y ∈ ct, 0 ≤ y ∧ y ≤ d.objects - 1) (hr2 : ∀ y ∈ more, 0 ≤ y ∧ y ≤ d.objects - 1) :
    Does Tryz.prog 82 [.op (some x) 0, .int charge, .sl (ct.map Go.AI.encI), .sl (more.map Go.AI.encI), .int n] [⟨some x, 96, 5, [.ip (encDivision d), a1, a2, .os bc gs.length cc, a4]⟩, ⟨bc, 54, cc * 3, (gs.map encGroup).flatten⟩]
    (fun _ h' => ∃ b' c', h' = [⟨some x, 96, 5, [.ip (encDivision d), a1, a2, .os b' (insM gs ⟨charge, srtL d.objects (ct ++ more), n⟩).length c', a4]⟩, ⟨b', 54, c' * 3, ((insM gs ⟨charge, srtL d.objects (ct ++ more), n⟩).map encGroup).flatten⟩]) := by
  refine fn_of_runD tyOk ztOk mix Tryz.func82 rfl (by decide) Tryz.ntmps82 (fun w0 F => ?_)
  change Run _ _ _ _ _ (_ :: _ :: F)
  repeat' (first
      | (refine j_go ?_; first
        | refine j_op0 rfl rfl rfl rfl ?_)
      | (refine r_go ?_; first | refine run_seq ?_ | refine run_region ?_))
  refine j_kCall rfl rfl rfl rfl ?_
  refine jcp _ (o_own7 ct (by omega)) (List.Perm.refl _) (LeL.refl _) rfl rfl (fun v h1 hR => ?_)
  obtain ⟨ob, cp, rfl, rfl⟩ := hR
  repeat' (first
      | (refine j_go ?_; first
        | refine j_op0 rfl rfl rfl rfl ?_))
  refine j_append 0 (g := Go.AI.encI) (ys := ct) more rfl rfl rfl rfl rfl rfl rfl rfl rfl rfl rfl rfl (fun _ => rfl) (fun _ _ => rfl) ⟨by omega, by omega⟩ rfl rfl (fun b2 c2 => ?_)
  repeat' (first
      | (refine j_go ?_; first
        | refine j_op0 rfl rfl rfl rfl ?_)
      | refine j_nil ?_
      | refine seqQ_normal ?_)
  refine run_view (view_freeze (g := Go.AI.encI) (z := 1) (ys := ct ++ more) 0 10 rfl rfl rfl (fun _ => rfl) rfl rfl) ?_
  have cS := c_l07Sorted d.objects (ct ++ more) hd (by rw [List.length_append]; omega) (fun y hy => by
    rcases List.mem_append.1 hy with q | q
    · exact hr y q
    · exact hr2 y q)
  repeat' (first
      | (refine j_goO ?_; first
        | refine j_op0O rfl rfl rfl rfl ?_ | (refine j_kCallO rfl rfl rfl rfl ?_; first | refine jcO (cS) (LeL.refl _) rfl rfl ?_) | (refine j_kLoadO rfl ?_; first | refine j_mloadO 0 rfl rfl rfl rfl rfl rfl rfl rfl ?_) | refine j_buildO rfl rfl rfl rfl rfl rfl rfl ?_)
      | (refine r_go ?_; first | refine run_opn 1 [⟨0, false, false, 0⟩, ⟨1, true, false, 0⟩, ⟨2, true, false, 0⟩, ⟨3, true, false, 0⟩, ⟨4, true, false, 0⟩, ⟨5, true, false, 0⟩, ⟨6, true, false, 0⟩, ⟨7, true, false, 0⟩, ⟨8, true, false, 0⟩, ⟨9, true, false, 0⟩, ⟨10, true, false, 0⟩, ⟨11, true, false, 0⟩, ⟨12, true, false, 0⟩, ⟨13, true, false, 0⟩, ⟨14, true, false, 0⟩, ⟨15, true, false, 0⟩, ⟨16, true, false, 0⟩, ⟨17, false, true, 0⟩, ⟨18, true, false, 0⟩, ⟨19, true, false, 0⟩, ⟨20, false, true, 0⟩] rfl rfl (by kernel_rfl) ?_))
  refine j_kCallO rfl rfl rfl rfl ?_
  refine jcpO (⟨some x, 96, 5, [.ip (encDivision d), a1, a2, .os bc gs.length cc, a4]⟩ :: F) (o_l07Insert gs ⟨charge, srtL d.objects (ct ++ more), n⟩ bc cc (by omega) hc hn hch) rfl (List.Perm.swap _ _ _) (LeL.refl _) rfl rfl (fun v h3 hR => ?_)
  obtain ⟨b5, c5, rfl, rfl⟩ := hR
  repeat' (first
      | (refine j_goO ?_; first
        | refine j_op0O rfl rfl rfl rfl ?_ | (refine j_kStoreO rfl ?_; first | refine j_storeO 1 rfl rfl rfl rfl rfl rfl rfl rfl rfl rfl rfl rfl (by first | (intro _ hk; exact absurd hk List.not_mem_nil) | (intro k hk; simp at hk ⊢; try simp [hk])) ?_))
      | refine j_nilO ?_)
  refine endD_view (view_perm (List.Perm.swap _ _ _)) ?_
  exact endD_ret (h1 := [_, _]) rfl .nil (Le.refl _) ⟨b5, c5, rfl⟩ (.inr rfl)
end Go.Proofs.YtbhiaccbpbnbmaaGreat

/-
  What all cells of a colony use in a step, as data; plain facts. No condition.
-/
namespace Go.Proofs.YtbhiaccbpbnbmaaGreat
open Go.AI
set_option maxRecDepth 8000
set_option maxHeartbeats 1600000

structure Use where
  g : Group
  r : DivRule
  many : Int
def encUse (u : Use) : List A := encGroup u.g ++ (encDivRule u.r ++ [.int u.many])
def rule0 : DivRule := ⟨0, 0, 0, 0, [], 0, []⟩
/-- A list without so many of an object. -/
def eraseN (x : Int) : Nat → List Int → List Int
  | 0, l => l
  | n + 1, l => (eraseN x n l).erase x
theorem eraseN_sub (x : Int) : ∀ (n : Nat) (l : List Int), (eraseN x n l).Sublist l
  | 0, l => List.Sublist.refl _
  | n + 1, l => (List.erase_sublist).trans (eraseN_sub x n l)
theorem occ_cons (x y : Int) (l : List Int) : occ x (y :: l) = one x y + occ x l := rfl
theorem occ_mem {x : Int} : ∀ {l : List Int}, x ∈ l ↔ 0 < occ x l
  | [] => by simp [occ, sumF]
  | y :: l => by
    have ih := occ_mem (x := x) (l := l)
    have := one_bnd x y
    have := occ_bnd x l
    rw [occ_cons, List.mem_cons, ih]
    by_cases e : x = y
    · subst e; rw [one_t rfl]; exact ⟨fun _ => by omega, fun _ => .inl rfl⟩
    · rw [one_f (fun q => e q.symm)]; exact ⟨fun q => by have := q.resolve_left e; omega, fun q => .inr (by omega)⟩
theorem occ_erase {x : Int} : ∀ {l : List Int}, x ∈ l → occ x (l.erase x) = occ x l - 1
  | [], h => by simp at h
  | y :: l, h => by
    by_cases e : y = x
    · subst e; rw [List.erase_cons_head, occ_cons, one_t rfl]; omega
    · rw [List.erase_cons_tail (by simpa using e), occ_cons, occ_cons, one_f e]
      have hm : x ∈ l := by
        rcases List.mem_cons.1 h with q | q
        · exact absurd q.symm e
        · exact q
      rw [occ_erase hm]; omega
theorem occ_eraseN {x : Int} {l : List Int} : ∀ {n : Nat}, (n : Int) ≤ occ x l → occ x (eraseN x n l) = occ x l - n
  | 0, _ => by simp [eraseN]
  | n + 1, h => by
    have ih := occ_eraseN (x := x) (l := l) (n := n) (by omega)
    rw [eraseN, occ_erase (occ_mem.2 (by omega)), ih]; omega
open Classical in
/-- How many of so many cells of a group use a rule, with so many objects in the skin. -/
noncomputable def manyOf (g : Group) (l : List Int) (c : Int) (r : DivRule) : Int :=
  if r.kind = 1 ∨ r.kind = 2 ∨ r.charge ≠ g.charge ∨ c = 0 then 0 else if r.kind = 5 then min c (occ r.object l) else if r.object ∈ g.contents then c else 0
theorem many_no {g : Group} {l : List Int} {c : Int} {r : DivRule} (h : r.kind = 1 ∨ r.kind = 2 ∨ r.charge ≠ g.charge ∨ c = 0) : manyOf g l c r = 0 := by unfold manyOf; rw [if_pos h]
theorem many_in {g : Group} {l : List Int} {c : Int} {r : DivRule} (h : ¬ (r.kind = 1 ∨ r.kind = 2 ∨ r.charge ≠ g.charge ∨ c = 0)) (h5 : r.kind = 5) : manyOf g l c r = min c (occ r.object l) := by unfold manyOf; rw [if_neg h, if_pos h5]
theorem many_yes {g : Group} {l : List Int} {c : Int} {r : DivRule} (h : ¬ (r.kind = 1 ∨ r.kind = 2 ∨ r.charge ≠ g.charge ∨ c = 0)) (h5 : ¬ r.kind = 5) (hm : r.object ∈ g.contents) : manyOf g l c r = c := by unfold manyOf; rw [if_neg h, if_neg h5, if_pos hm]
theorem many_out {g : Group} {l : List Int} {c : Int} {r : DivRule} (h : ¬ (r.kind = 1 ∨ r.kind = 2 ∨ r.charge ≠ g.charge ∨ c = 0)) (h5 : ¬ r.kind = 5) (hm : ¬ r.object ∈ g.contents) : manyOf g l c r = 0 := by unfold manyOf; rw [if_neg h, if_neg h5, if_neg hm]
theorem many_bnd {g : Group} {l : List Int} {c : Int} {r : DivRule} (hc : 0 ≤ c) : 0 ≤ manyOf g l c r ∧ manyOf g l c r ≤ c := by
  have := occ_bnd r.object l
  unfold manyOf
  split
  · omega
  · split
    · omega
    · split <;> omega
/-- What a rule leaves of the skin and of the cells of a group. -/
noncomputable def stR (g : Group) (s : List Int × Int) (r : DivRule) : List Int × Int := (if r.kind = 5 then eraseN r.object (manyOf g s.1 s.2 r).toNat s.1 else s.1, s.2 - manyOf g s.1 s.2 r)
theorem stR_0 {g : Group} {l : List Int} {c : Int} {r : DivRule} (h : manyOf g l c r = 0) : stR g (l, c) r = (l, c) := by
  unfold stR; simp only [h]; split <;> simp [eraseN]
theorem stR_5 {g : Group} {l : List Int} {c : Int} {r : DivRule} (h5 : r.kind = 5) : stR g (l, c) r = (eraseN r.object (manyOf g l c r).toNat l, c - manyOf g l c r) := by unfold stR; simp only [if_pos h5]
theorem stR_n {g : Group} {l : List Int} {c : Int} {r : DivRule} (h5 : ¬ r.kind = 5) : stR g (l, c) r = (l, c - manyOf g l c r) := by unfold stR; simp only [if_neg h5]
noncomputable def stK (d : Division) (g : Group) (l : List Int) (k : Nat) : List Int × Int := (d.rules.take k).foldl (stR g) (l, g.count)
theorem stK_succ {d : Division} {g : Group} {l : List Int} {k : Nat} (hk : k < d.rules.length) : stK d g l (k + 1) = stR g (stK d g l k) d.rules[k] := by
  unfold stK; rw [List.take_succ_eq_append_getElem hk, List.foldl_append]; rfl
theorem stR_bnd {g : Group} {s : List Int × Int} {r : DivRule} (hc : 0 ≤ s.2) : (stR g s r).1.Sublist s.1 ∧ 0 ≤ (stR g s r).2 ∧ (stR g s r).2 ≤ s.2 := by
  have := many_bnd (g := g) (l := s.1) (r := r) hc
  unfold stR
  refine ⟨?_, by dsimp only; omega, by dsimp only; omega⟩
  dsimp only
  split
  · exact eraseN_sub _ _ _
  · exact List.Sublist.refl _
theorem stF_bnd {g : Group} : ∀ (rs : List DivRule) (s : List Int × Int), 0 ≤ s.2 → (rs.foldl (stR g) s).1.Sublist s.1 ∧ 0 ≤ (rs.foldl (stR g) s).2 ∧ (rs.foldl (stR g) s).2 ≤ s.2
  | [], s, h => ⟨List.Sublist.refl _, h, Int.le_refl _⟩
  | r :: rs, s, h => by
    have h1 := stR_bnd (g := g) (r := r) h
    have h2 := stF_bnd (g := g) rs (stR g s r) h1.2.1
    exact ⟨h2.1.trans h1.1, h2.2.1, Int.le_trans h2.2.2 h1.2.2⟩
theorem stK_bnd {d : Division} {g : Group} {l : List Int} {k : Nat} (h : 0 ≤ g.count) : (stK d g l k).1.Sublist l ∧ 0 ≤ (stK d g l k).2 ∧ (stK d g l k).2 ≤ g.count := stF_bnd _ (l, g.count) h
theorem stF_zero {g : Group} : ∀ (rs : List DivRule) (l : List Int), rs.foldl (stR g) (l, 0) = (l, 0)
  | [], l => rfl
  | r :: rs, l => by rw [List.foldl_cons, stR_0 (many_no (.inr (.inr (.inr rfl))))]; exact stF_zero rs l
/-- Where no cells are left, later rules do nothing. -/
theorem stK_zero {d : Division} {g : Group} {l : List Int} {k : Nat} (h : (stK d g l k).2 = 0) : stK d g l d.rules.length = stK d g l k := by
  have e : stK d g l d.rules.length = (d.rules.drop k).foldl (stR g) (stK d g l k) := by
    unfold stK; rw [List.take_length, ← List.foldl_append, List.take_append_drop]
  have e2 : stK d g l k = ((stK d g l k).1, 0) := by rw [← h]
  rw [e, e2, stF_zero]
/-- What a group leaves of the skin; and whether one of its cells uses a rule. -/
noncomputable def stG (d : Division) (l : List Int) (g : Group) : List Int := (stK d g l d.rules.length).1
def usedG (d : Division) (l : List Int) (g : Group) : Prop := (stK d g l d.rules.length).2 < g.count ∨ (0 < (stK d g l d.rules.length).2 ∧ ∃ x ∈ g.contents, d.hasR 1 g.charge x)
noncomputable def stA (d : Division) (c : Colony) (k : Nat) : List Int × Prop := (c.groups.take k).foldl (fun s g => (stG d s.1 g, s.2 ∨ usedG d s.1 g)) (c.skin, False)
theorem stA_succ {d : Division} {c : Colony} {k : Nat} (hk : k < c.groups.length) : stA d c (k + 1) = (stG d (stA d c k).1 c.groups[k], (stA d c k).2 ∨ usedG d (stA d c k).1 c.groups[k]) := by
  unfold stA; rw [List.take_succ_eq_append_getElem hk, List.foldl_append]; rfl
theorem stA_sub {d : Division} {c : Colony} (hc : ∀ g ∈ c.groups, 0 ≤ g.count) : ∀ k, k ≤ c.groups.length → (stA d c k).1.Sublist c.skin
  | 0, _ => List.Sublist.refl _
  | k + 1, h => by
    rw [stA_succ (by omega)]
    exact (stK_bnd (hc _ (List.getElem_mem (by omega)))).1.trans (stA_sub hc k (by omega))
/-- A colony is at rest. -/
def Rests (d : Division) (c : Colony) : Prop := ¬ ((stA d c c.groups.length).2 ∨ ∃ x ∈ (stA d c c.groups.length).1, d.hasR 2 0 x)
/-- What all cells use. -/
noncomputable def usK (d : Division) (g : Group) (l : List Int) : Nat → List Use
  | 0 => []
  | k + 1 => usK d g l k ++ (if 0 < manyOf g (stK d g l k).1 (stK d g l k).2 (d.rules.getD k rule0) then [⟨g, d.rules.getD k rule0, manyOf g (stK d g l k).1 (stK d g l k).2 (d.rules.getD k rule0)⟩] else [])
theorem usK_yes {d : Division} {g : Group} {l : List Int} {k : Nat} (hk : k < d.rules.length) (h : 0 < manyOf g (stK d g l k).1 (stK d g l k).2 d.rules[k]) : usK d g l (k + 1) = usK d g l k ++ [⟨g, d.rules[k], manyOf g (stK d g l k).1 (stK d g l k).2 d.rules[k]⟩] := by
  rw [usK, getD_get hk, if_pos h]
theorem usK_no {d : Division} {g : Group} {l : List Int} {k : Nat} (hk : k < d.rules.length) (h : ¬ 0 < manyOf g (stK d g l k).1 (stK d g l k).2 d.rules[k]) : usK d g l (k + 1) = usK d g l k := by
  rw [usK, getD_get hk, if_neg h, List.append_nil]
theorem usK_len {d : Division} {g : Group} {l : List Int} : ∀ k, (usK d g l k).length ≤ k
  | 0 => by simp [usK]
  | k + 1 => by
    have := usK_len (d := d) (g := g) (l := l) k
    rw [usK, List.length_append]
    split <;> simp <;> omega
noncomputable def usG (d : Division) (l : List Int) (g : Group) : List Use := usK d g l d.rules.length ++ (if 0 < (stK d g l d.rules.length).2 then [⟨g, rule0, (stK d g l d.rules.length).2⟩] else [])
theorem usG_len {d : Division} {g : Group} {l : List Int} : (usG d l g).length ≤ d.rules.length + 1 := by
  have := usK_len (d := d) (g := g) (l := l) d.rules.length
  unfold usG; rw [List.length_append]
  split <;> simp <;> omega
noncomputable def usA (d : Division) (c : Colony) : Nat → List Use
  | 0 => []
  | k + 1 => usA d c k ++ usG d (stA d c k).1 (c.groups.getD k ⟨0, [], 0⟩)
theorem usA_succ {d : Division} {c : Colony} {k : Nat} (hk : k < c.groups.length) : usA d c (k + 1) = usA d c k ++ usG d (stA d c k).1 c.groups[k] := by rw [usA, getD_get hk]
theorem usA_len {d : Division} {c : Colony} (hd : d.rules.length ≤ 120) : ∀ k, (usA d c k).length ≤ 121 * k
  | 0 => by simp [usA]
  | k + 1 => by
    have := usA_len hd (c := c) k
    have := usG_len (d := d) (g := c.groups.getD k ⟨0, [], 0⟩) (l := (stA d c k).1)
    rw [usA, List.length_append]; omega
/-- It is a use of a rule. -/
def actU (d : Division) (u : Use) : Prop := u.r.kind ≠ 0 ∨ ∃ x ∈ u.g.contents, d.hasR 1 u.g.charge x
theorem usK_act {d : Division} (hv : d.Valid) {g : Group} {l : List Int} (hg : 0 ≤ g.count) : ∀ k, k ≤ d.rules.length → ((∃ u ∈ usK d g l k, actU d u) ↔ (stK d g l k).2 < g.count)
  | 0, _ => by simp [usK, stK]
  | k + 1, h => by
    have hk : k < d.rules.length := by omega
    have ih := usK_act hv hg (l := l) k (by omega)
    have hb := stK_bnd (d := d) (l := l) (k := k) hg
    have mb := many_bnd (g := g) (l := (stK d g l k).1) (r := d.rules[k]) hb.2.1
    have e2 : (stK d g l (k + 1)).2 = (stK d g l k).2 - manyOf g (stK d g l k).1 (stK d g l k).2 d.rules[k] := by rw [stK_succ hk]; rfl
    rw [e2]
    by_cases q : 0 < manyOf g (stK d g l k).1 (stK d g l k).2 d.rules[k]
    · rw [usK_yes hk q]
      have hr := (hv.2.2 _ (List.getElem_mem hk)).1
      exact ⟨fun _ => by omega, fun _ => ⟨_, List.mem_append.2 (.inr (List.mem_singleton.2 rfl)), .inl (by dsimp only; omega)⟩⟩
    · rw [usK_no hk q, ih]
      exact ⟨fun _ => by omega, fun _ => by omega⟩
theorem usG_act {d : Division} (hv : d.Valid) {g : Group} {l : List Int} (hg : 0 ≤ g.count) : (∃ u ∈ usG d l g, actU d u) ↔ usedG d l g := by
  have h1 := usK_act hv hg (l := l) _ (Nat.le_refl d.rules.length)
  unfold usG usedG
  rw [← h1]
  constructor
  · rintro ⟨u, hu, hq⟩
    rcases List.mem_append.1 hu with z | z
    · exact .inl ⟨u, z, hq⟩
    · split at z
      · rename_i hp
        rw [List.mem_singleton] at z
        subst z
        exact .inr ⟨hp, hq.resolve_left (fun q => q rfl)⟩
      · simp at z
  · rintro (⟨u, hu, hq⟩ | ⟨hp, hq⟩)
    · exact ⟨u, List.mem_append.2 (.inl hu), hq⟩
    · rw [if_pos hp]
      exact ⟨_, List.mem_append.2 (.inr (List.mem_singleton.2 rfl)), .inr hq⟩
theorem usA_act {d : Division} (hv : d.Valid) {c : Colony} (hc : ∀ g ∈ c.groups, 0 ≤ g.count) : ∀ k, k ≤ c.groups.length → ((∃ u ∈ usA d c k, actU d u) ↔ (stA d c k).2)
  | 0, _ => by simp [usA, stA]
  | k + 1, h => by
    have hk : k < c.groups.length := by omega
    have ih := usA_act hv hc k (by omega)
    have hg := usG_act hv (hc _ (List.getElem_mem hk)) (l := (stA d c k).1)
    rw [usA_succ hk, stA_succ hk]
    show _ ↔ (stA d c k).2 ∨ usedG d (stA d c k).1 c.groups[k]
    rw [← ih, ← hg]
    constructor
    · rintro ⟨u, hu, hq⟩
      rcases List.mem_append.1 hu with z | z
      · exact .inl ⟨u, z, hq⟩
      · exact .inr ⟨u, z, hq⟩
    · rintro (⟨u, hu, hq⟩ | ⟨u, hu, hq⟩)
      · exact ⟨u, List.mem_append.2 (.inl hu), hq⟩
      · exact ⟨u, List.mem_append.2 (.inr hu), hq⟩
theorem rests_iff {d : Division} (hv : d.Valid) {c : Colony} (hc : ∀ g ∈ c.groups, 0 ≤ g.count) : (¬ (∃ x ∈ (stA d c c.groups.length).1, d.hasR 2 0 x) ∧ ¬ ∃ u ∈ usA d c c.groups.length, actU d u) ↔ Rests d c := by
  unfold Rests
  rw [usA_act hv hc _ (Nat.le_refl _)]
  constructor
  · rintro ⟨a, b⟩ (q | q)
    · exact b q
    · exact a q
  · exact fun q => ⟨fun a => q (.inr a), fun a => q (.inl a)⟩

/-! ### What is added keeps lists and counts within bounds -/
theorem insP_le (gs : List Group) (g : Group) : insP gs g ≤ gs.length := List.findIdx_le_length
theorem insM_len (gs : List Group) (g : Group) : (insM gs g).length ≤ gs.length + 1 := by
  have := insP_le gs g
  unfold insM
  split
  · rw [List.length_set]; omega
  · rw [List.length_append, List.length_cons, List.length_take, List.length_drop]; omega
theorem insM_cnt {gs : List Group} {g : Group} {B C : Int} (h : ∀ y ∈ gs, 0 ≤ y.count ∧ y.count ≤ B) (hg : 0 ≤ g.count ∧ g.count ≤ C) (hB : 0 ≤ B) : ∀ y ∈ insM gs g, 0 ≤ y.count ∧ y.count ≤ B + C := by
  have hd : 0 ≤ (gs.getD (insP gs g) ⟨5, [], 0⟩).count ∧ (gs.getD (insP gs g) ⟨5, [], 0⟩).count ≤ B := by
    by_cases q : insP gs g < gs.length
    · rw [getD_get q]; exact h _ (List.getElem_mem q)
    · have e : gs.getD (insP gs g) ⟨5, [], 0⟩ = ⟨5, [], 0⟩ := by rw [List.getD_eq_getElem?_getD, List.getElem?_eq_none (by omega)]; rfl
      rw [e]; exact ⟨Int.le_refl _, hB⟩
  intro y hy
  unfold insM at hy
  split at hy
  · rcases List.mem_or_eq_of_mem_set hy with q | q
    · have := h y q; omega
    · subst q; dsimp only; omega
  · rcases List.mem_append.1 hy with q | q
    · have := h y (List.mem_of_mem_take q); omega
    · rcases List.mem_cons.1 q with q | q
      · subst q; omega
      · have := h y (List.mem_of_mem_drop q); omega
end Go.Proofs.YtbhiaccbpbnbmaaGreat

/-
  A step of a colony: the reference lets cells use a main rule. No condition.
-/
namespace Go.Proofs.YtbhiaccbpbnbmaaGreat
open Go.AI
set_option maxRecDepth 8000
set_option maxHeartbeats 1600000

theorem HeapOf.rng {o most : Int} {l : List Int} (h : HeapOf o l most) : ∀ y ∈ l, 0 ≤ y ∧ y ≤ o - 1 := fun y hy => by
  obtain ⟨i, hi, rfl⟩ := List.getElem_of_mem hy
  exact (h.1 i hi).1
theorem grw_rng {d : Division} (hv : d.Valid) {kind charge x : Int} (hx : 0 ≤ x ∧ x ≤ d.objects - 1) : ∀ y ∈ d.grw kind charge x, 0 ≤ y ∧ y ≤ d.objects - 1 := by
  rcases fIdx_cases (FitR kind charge x) d.rules with ⟨k, hk, _, h2, h3⟩ | ⟨_, h⟩
  · rw [(grw_at hk h2 h3).1]
    exact (hv.2.2 _ (List.getElem_mem hk)).2.2.2.2.2.1.rng
  · rw [(grw_no h).1]; intro y hy; rw [List.mem_singleton] at hy; subst hy; exact hx
theorem grown_rng {d : Division} (hv : d.Valid) {kind charge : Int} {l : List Int} (hl : ∀ y ∈ l, 0 ≤ y ∧ y ≤ d.objects - 1) : ∀ y ∈ d.grown kind charge l, 0 ≤ y ∧ y ≤ d.objects - 1 := fun y hy => by
  unfold Division.grown at hy
  obtain ⟨s, hs, hy⟩ := List.mem_flatten.1 hy
  obtain ⟨x, hx, rfl⟩ := List.mem_map.1 hs
  exact grw_rng hv (hl x hx) y hy
/-- What a step has collected is within bounds. -/
def MvOk (d : Division) (B : Nat) (sk : List Int) (gs : List Group) : Prop := sk.length ≤ 5000 ∧ (∀ y ∈ sk, 0 ≤ y ∧ y ≤ d.objects - 1) ∧ gs.length ≤ B ∧ ∀ y ∈ gs, 0 ≤ y.count ∧ y.count ≤ 5000 * (B : Int)
theorem MvOk.mono {d : Division} {B B' : Nat} {sk : List Int} {gs : List Group} (h : MvOk d B sk gs) (hB : B ≤ B') : MvOk d B' sk gs := ⟨h.1, h.2.1, by have := h.2.2.1; omega, fun y hy => by have := h.2.2.2 y hy; omega⟩
theorem MvOk.add {d : Division} {B : Nat} {sk : List Int} {gs : List Group} (h : MvOk d B sk gs) {g : Group} (hg : 0 ≤ g.count ∧ g.count ≤ 5000) : MvOk d (B + 1) sk (insM gs g) := ⟨h.1, h.2.1, by have := h.2.2.1; have := insM_len gs g; omega, fun y hy => by
  have := insM_cnt h.2.2.2 hg (by omega) y hy
  omega⟩
theorem MvOk.skin {d : Division} {B : Nat} {sk sk' : List Int} {gs : List Group} (h : MvOk d B sk gs) (h1 : sk'.length ≤ 5000) (h2 : ∀ y ∈ sk', 0 ≤ y ∧ y ≤ d.objects - 1) : MvOk d B sk' gs := ⟨h1, h2, h.2.2.1, h.2.2.2⟩
theorem mem_rng2 {a b : List Int} {o : Int} (ha : ∀ y ∈ a, 0 ≤ y ∧ y ≤ o - 1) (hb : ∀ y ∈ b, 0 ≤ y ∧ y ≤ o - 1) : ∀ y ∈ a ++ b, 0 ≤ y ∧ y ≤ o - 1 := fun y hy => by
  rcases List.mem_append.1 hy with q | q
  · exact ha y q
  · exact hb y q
abbrev mvB (x : Nat) (d : Division) (left : List Int) (bs : Option Nat) (ns cs : Nat) (bc : Option Nat) (nc cc : Nat) (u : A) : Blk := ⟨some x, 96, 5, [.ip (encDivision d), .sl (left.map Go.AI.encI), .os bs ns cs, .os bc nc cc, u]⟩
abbrev mvS (bs : Option Nat) (cs : Nat) (sk : List Int) : Blk := ⟨bs, 2, cs * 1, (sk.map Go.AI.encI).flatten⟩
abbrev mvC (bc : Option Nat) (cc : Nat) (gs : List Group) : Blk := ⟨bc, 54, cc * 3, (gs.map encGroup).flatten⟩
end Go.Proofs.YtbhiaccbpbnbmaaGreat

/-
  Groups in memory of the call's own: stretches of them change places. No condition.
-/
namespace Go.Proofs.YtbhiaccbpbnbmaaGreat
open Go.AI
set_option maxRecDepth 8000
set_option maxHeartbeats 1600000

/-- A group whose contents lie in memory of the call's own. -/
structure Tri where
  g : Group
  b : Option Nat
  cap : Nat
def Tri.cs (t : Tri) : List A := [.int t.g.charge, .os t.b t.g.contents.length t.cap, .int t.g.count]
def Tri.blk (t : Tri) : Blk := ⟨t.b, 2, t.cap * 1, (t.g.contents.map Go.AI.encI).flatten⟩
abbrev grB (b : Nat) (cap : Nat) (L : List Tri) : Blk := ⟨some b, 54, cap * 3, (L.map Tri.cs).flatten⟩
section
variable {C : Cx} {n : Nat} {Q : Exit → Env → Heap → Prop} {e : Env} {h : Heap} {d : Bool} {l os : List Oper} {o : Oper} {f : Fl} {fs : List Fl} {B : List (Nat × Blk)}
/-- A group out of a list of the call's own. -/
theorem j_ldT (i m : Nat) {t : Tri} {L : List Tri} {T b p T' room dd : Nat} {x : Operand} (hw : wantE l e o = some true) (ho : o.op = .load T x) (hx : evO e x = some (.op (some b) p)) (hi : h[i]? = some ⟨some b, T', room, (L.map Tri.cs).flatten⟩)
    (hp : p = m * 3) (hm : m < L.length) (ht : L[m] = t) (hv : ∀ (t : Tri) rest, loadA C.ty T (t.cs ++ rest) = some (.agg t.cs)) (hd : o.dst = some dd) (hn : Nat.blt dd n = true) (hj : J d C n l os Q ((dd, .agg t.cs) :: e) h) : J d C n l (o :: os) Q e h :=
  j_mloadE i m (g := Tri.cs) (L := L) (z := 3) hw ho hx hi (fun _ => rfl) hp hm (fun rest => by rw [ht]; exact hv t rest) hd hn hj
theorem j_ldTO (i m : Nat) {t : Tri} {L : List Tri} {T b p T' room dd : Nat} {x : Operand} (hti : f.tight = true) (hw : wantE l e o = some true) (ho : o.op = .load T x) (hx : evO e x = some (.op (some b) p)) (hi : h[i]? = some ⟨some b, T', room, (L.map Tri.cs).flatten⟩)
    (hp : p = m * 3) (hm : m < L.length) (ht : L[m] = t) (hv : ∀ (t : Tri) rest, loadA C.ty T (t.cs ++ rest) = some (.agg t.cs)) (hd : o.dst = some dd) (hn : Nat.blt dd n = true) (hj : JO fs B C n l os Q ((dd, .agg t.cs) :: e) h) : JO (f :: fs) B C n l (o :: os) Q e h :=
  j_mloadEO i m (g := Tri.cs) (L := L) (z := 3) hti hw ho hx hi (fun _ => rfl) hp hm (fun rest => by rw [ht]; exact hv t rest) hd hn hj
end
theorem o_swapRange (b cap : Nat) (c : A) (U X M Y V : List Tri) (n N a1 a2 : Nat) (hx : X.length = n) (hy : Y.length = n) (hN : N = U.length + n + M.length + n + V.length) (h1 : a1 = U.length) (h2 : a2 = U.length + n + M.length) (hL : N ≤ 100000000) :
    Does Tryz.prog 118 [.os (some b) N cap, .int (a1 : Int), .int (a2 : Int), .int (n : Int), c] [grB b cap (U ++ X ++ M ++ Y ++ V)] (fun _ h' => h' = [grB b cap (U ++ Y ++ M ++ X ++ V)]) := by
  refine fn_of_runD tyOk ztOk mix Tryz.func118 rfl (by decide) Tryz.ntmps118 (fun w0 F => ?_)
  change Run _ _ _ _ _ (_ :: F)
  repeat' (first
      | (refine j_go ?_; first
        | refine j_op0 rfl rfl rfl rfl ?_)
      | refine j_nil ?_
      | (refine r_go ?_; first | refine run_seq ?_ | refine run_region ?_ | refine run_block ?_)
      | refine seqQ_normal ?_)
  refine run_loop (fun k : Nat => [(0, .os (some b) N cap), (1, .int (a1 : Int)), (2, .int (a2 : Int)), (3, .int (n : Int)), (10, .int (k : Int))]) (fun k => grB b cap (swK U X M Y V k) :: F) (fun k => k ≤ n) (fun k => n - k) 0 ⟨rfl, rfl, rfl, rfl, rfl, trivial⟩ (by rw [swK_zero]) (Nat.zero_le _) (fun k kl => ?_)
  by_cases hk : k < n
  · have sl := swK_len (U := U) (M := M) (V := V) hx hy kl
    have ex := swK_x (U := U) (M := M) (V := V) hx hy hk (by omega)
    have ey := swK_y (U := U) (M := M) (V := V) hx hy hk (by omega)
    have nx' := swK_next (U := U) (M := M) (V := V) hx hy hk
    repeat' (first
      | (refine j_go ?_; first
        | refine j_op0 rfl rfl rfl rfl ?_)
      | refine j_nil ?_
      | (refine j_goO ?_; first
        | refine j_op0O rfl rfl rfl rfl ?_ | (refine j_kIdxO rfl ?_; first | refine j_midxO rfl rfl rfl rfl rfl (by first | omega | (simp only [List.length_append, List.length_cons, List.length_nil]; omega)) rfl rfl ?_) | (refine j_kBinO rfl ?_; first | refine j_inO rfl rfl ⟨by omega, by omega⟩ rfl rfl ?_))
      | (refine r_go ?_; first | refine run_seq ?_ | refine run_region ?_ | (refine (run_if rfl (fun hb => ?_) (fun hb => ?_)) <;> first | (exfalso; omega) | skip) | refine run_block ?_ | refine run_skip ?_ | refine run_opn 3 [⟨0, true, false, 0⟩, ⟨1, true, false, 0⟩, ⟨2, true, false, 0⟩, ⟨3, true, false, 0⟩, ⟨4, false, false, 0⟩, ⟨5, false, false, 0⟩, ⟨6, false, false, 0⟩, ⟨7, false, false, 0⟩, ⟨8, true, false, 0⟩, ⟨9, true, false, 0⟩, ⟨10, true, false, 0⟩, ⟨11, true, false, 0⟩, ⟨12, true, false, 0⟩, ⟨13, true, false, 0⟩, ⟨14, true, false, 0⟩, ⟨15, true, false, 0⟩, ⟨16, true, false, 0⟩, ⟨17, true, false, 0⟩, ⟨18, true, false, 0⟩, ⟨19, true, false, 0⟩, ⟨20, true, false, 0⟩, ⟨21, false, true, 0⟩, ⟨22, true, false, 0⟩, ⟨23, false, true, 0⟩] rfl rfl (by kernel_rfl) ?_)
      | refine seqQ_normal ?_)
    refine j_ldTO 0 (U.length + n + M.length + k) (L := swK U X M Y V k) rfl rfl rfl rfl rfl (by omega) (by omega) ey (fun _ _ => loadSt rfl rfl) rfl rfl ?_
    repeat' (first
      | (refine j_goO ?_; first
        | refine j_op0O rfl rfl rfl rfl ?_ | (refine j_kIdxO rfl ?_; first | refine j_midxO rfl rfl rfl rfl rfl (by first | omega | (simp only [List.length_append, List.length_cons, List.length_nil]; omega)) rfl rfl ?_) | (refine j_kBinO rfl ?_; first | refine j_inO rfl rfl ⟨by omega, by omega⟩ rfl rfl ?_)))
    refine j_ldTO 0 (U.length + k) (L := swK U X M Y V k) rfl rfl rfl rfl rfl (by omega) (by omega) ex (fun _ _ => loadSt rfl rfl) rfl rfl ?_
    repeat' (first
      | (refine j_goO ?_; first
        | (refine j_kIdxO rfl ?_; first | refine j_midxO rfl rfl rfl rfl rfl (by first | omega | (simp only [List.length_append, List.length_cons, List.length_nil]; omega)) rfl rfl ?_)))
    refine j_storeEO 0 (U.length + k) (g := Tri.cs) (Y[k]'(by omega)) rfl rfl rfl rfl rfl rfl rfl rfl rfl rfl (fun _ => rfl) (by omega) (by omega) (fun _ hk => nomatch hk) ?_
    repeat' (first
      | (refine j_goO ?_; first
        | (refine j_kIdxO rfl ?_; first | refine j_midxO rfl rfl rfl rfl rfl (by first | omega | (simp only [List.length_append, List.length_cons, List.length_nil]; omega)) rfl rfl ?_)))
    refine j_storeEO 0 (U.length + n + M.length + k) (g := Tri.cs) (X[k]'(by omega)) rfl rfl rfl rfl rfl rfl rfl rfl rfl rfl (fun _ => rfl) (by omega) (by rw [List.length_set]; omega) (fun _ hk => nomatch hk) ?_
    rw [nx']
    repeat' (first
      | (refine j_go ?_; first
        | refine j_op0 rfl rfl rfl rfl ?_ | (refine j_kBin rfl ?_; first | refine j_in rfl rfl ⟨by omega, by omega⟩ rfl rfl ?_))
      | refine j_nil ?_
      | refine j_nilO ?_
      | (refine r_go ?_; first | refine run_region ?_)
      | refine seqQ_normal ?_ | refine blockQ_normal ?_)
    exact loopQ_next (k + 1) (by omega) (by omega) rfl ⟨rfl, rfl, rfl, rfl, nx _, trivial⟩
  · obtain rfl : k = n := by omega
    repeat' (first
      | (refine j_go ?_; first
        | refine j_op0 rfl rfl rfl rfl ?_)
      | refine j_nil ?_
      | (refine r_go ?_; first | refine run_seq ?_ | refine run_region ?_ | (refine (run_if rfl (fun hb => ?_) (fun hb => ?_)) <;> first | (exfalso; omega) | skip) | refine run_exit ?_)
      | refine seqQ_normal ?_ | refine seqQ_exit ?_ | refine blockQ_eq ?_ | refine loopQ_exit ?_)
    rw [swK_all hx hy]
    exact endD_ret (h1 := [_]) rfl .nil (Le.refl _) rfl (.inr rfl)
theorem o_rotate (b cap N m : Nat) (c : A) (hL : N ≤ 100000000) (P X Y S : List Tri) (hX : 0 < X.length) (hY : 0 < Y.length) (hm : P.length + X.length = m) (hN : P.length + X.length + Y.length + S.length = N) (a e : Nat) (ha : a = P.length) (he : e = m + Y.length) :
    Does Tryz.prog 107 [.os (some b) N cap, .int (a : Int), .int (m : Int), .int (e : Int), c] [grB b cap (P ++ X ++ Y ++ S)] (fun _ h' => h' = [grB b cap (P ++ Y ++ X ++ S)]) := by
  refine fn_of_runD tyOk ztOk mix Tryz.func107 rfl (by decide) Tryz.ntmps107 (fun w0 F => ?_)
  change Run _ _ _ _ _ (_ :: F)
  repeat' (first
      | (refine j_go ?_; first
        | refine j_op0 rfl rfl rfl rfl ?_ | (refine j_kBin rfl ?_; first | refine j_in rfl rfl ⟨by omega, by omega⟩ rfl rfl ?_))
      | refine j_nil ?_
      | (refine r_go ?_; first | refine run_seq ?_ | refine run_region ?_ | refine run_block ?_)
      | refine seqQ_normal ?_)
  refine run_loop (fun x : List Tri × List Tri × List Tri × List Tri => [(0, .os (some b) N cap), (2, .int (m : Int)), (4, c), (10, .int (x.2.1.length : Int)), (11, .int (x.2.2.1.length : Int))])
    (fun x => grB b cap (x.1 ++ x.2.1 ++ x.2.2.1 ++ x.2.2.2) :: F)
    (fun x => x.1 ++ x.2.2.1 ++ x.2.1 ++ x.2.2.2 = P ++ Y ++ X ++ S ∧ x.1.length + x.2.1.length = m ∧ 0 < x.2.1.length ∧ 0 < x.2.2.1.length ∧ x.1.length + x.2.1.length + x.2.2.1.length + x.2.2.2.length = N) (fun x => x.2.1.length + x.2.2.1.length) (P, X, Y, S)
    ⟨rfl, rfl, rfl, si (by dsimp only; omega), si (by dsimp only; omega), trivial⟩ rfl ⟨rfl, hm, hX, hY, hN⟩ (fun ⟨P', X', Y', S'⟩ ⟨q1, q2, q3, q4, q5⟩ => ?_)
  dsimp only at q1 q2 q3 q4 q5 ⊢
  repeat' (first
      | (refine j_go ?_; first
        | refine j_op0 rfl rfl rfl rfl ?_ | (refine j_kBin rfl ?_; first | refine j_in rfl rfl ⟨by omega, by omega⟩ rfl rfl ?_))
      | refine j_nil ?_
      | (refine r_go ?_; first | refine run_seq ?_ | refine run_region ?_ | (refine (run_if rfl (fun hb => ?_) (fun hb => ?_)) <;> first | (exfalso; omega) | skip) | (refine (run_ifn rfl (fun hb => ?_) (fun hb => ?_)) <;> first | (exfalso; omega) | skip) | refine run_block ?_ | refine run_exit ?_ | refine run_skip ?_)
      | refine seqQ_normal ?_ | refine seqQ_exit ?_ | refine blockQ_eq ?_ | refine loopQ_exit ?_)
  · have hgt : Y'.length < X'.length := by omega
    have lt1 : (X'.take Y'.length).length = Y'.length := by rw [List.length_take]; omega
    have ld1 : (X'.drop Y'.length).length = X'.length - Y'.length := List.length_drop
    have cS := o_swapRange b cap c P' (X'.take Y'.length) (X'.drop Y'.length) Y' S' Y'.length N (m - X'.length) m lt1 rfl (by omega) (by omega) (by omega) hL
    rw [List.append_assoc P', List.take_append_drop] at cS
    refine j_kCall rfl rfl rfl rfl ?_
    refine jcp F cS (List.Perm.refl _) (LeL.cons (Le.refl _) (LeL.cons (le_eqi (by omega)) (LeL.refl _))) rfl rfl (fun v h1 hR => ?_)
    subst hR
    repeat' (first
      | (refine j_go ?_; first
        | refine j_op0 rfl rfl rfl rfl ?_ | (refine j_kBin rfl ?_; first | refine j_in rfl rfl ⟨by omega, by omega⟩ rfl rfl ?_))
      | refine j_nil ?_
      | (refine r_go ?_; first | refine run_region ?_)
      | refine seqQ_normal ?_ | refine blockQ_normal ?_)
    exact loopQ_next (P' ++ Y', X'.drop Y'.length, X'.take Y'.length, S') ⟨by dsimp only; rw [← q1, List.append_assoc (P' ++ Y'), List.take_append_drop], by dsimp only; rw [List.length_append]; omega, by dsimp only; omega, by dsimp only; omega, by dsimp only; rw [List.length_append]; omega⟩ (by dsimp only; omega) rfl ⟨rfl, rfl, rfl, si (by dsimp only; omega), si (by dsimp only; omega), trivial⟩
  · have hlt : X'.length < Y'.length := by omega
    have lt1 : (Y'.take (Y'.length - X'.length)).length = Y'.length - X'.length := by rw [List.length_take]; omega
    have ld1 : (Y'.drop (Y'.length - X'.length)).length = X'.length := by rw [List.length_drop]; omega
    have cS := o_swapRange b cap c P' X' (Y'.take (Y'.length - X'.length)) (Y'.drop (Y'.length - X'.length)) S' X'.length N (m - X'.length) (m + Y'.length - X'.length) rfl ld1 (by omega) (by omega) (by omega) hL
    rw [List.append_assoc (P' ++ X'), List.take_append_drop] at cS
    refine j_kCall rfl rfl rfl rfl ?_
    refine jcp F cS (List.Perm.refl _) (LeL.cons (Le.refl _) (LeL.cons (le_eqi (by omega)) (LeL.cons (le_eqi (by omega)) (LeL.refl _)))) rfl rfl (fun v h1 hR => ?_)
    subst hR
    repeat' (first
      | (refine j_go ?_; first
        | refine j_op0 rfl rfl rfl rfl ?_ | (refine j_kBin rfl ?_; first | refine j_in rfl rfl ⟨by omega, by omega⟩ rfl rfl ?_))
      | refine j_nil ?_
      | (refine r_go ?_; first | refine run_region ?_)
      | refine seqQ_normal ?_ | refine blockQ_normal ?_)
    exact loopQ_next (P', Y'.drop (Y'.length - X'.length), Y'.take (Y'.length - X'.length), X' ++ S') ⟨by dsimp only; rw [← q1, List.append_assoc P' (Y'.take _), List.take_append_drop, List.append_assoc (P' ++ Y')], by dsimp only; omega, by dsimp only; omega, by dsimp only; omega, by dsimp only; rw [List.length_append]; omega⟩ (by dsimp only; omega) (by dsimp only; rw [← List.append_assoc]; rfl) ⟨rfl, rfl, rfl, si (by dsimp only; omega), si (by dsimp only; omega), trivial⟩
  · have heq : X'.length = Y'.length := by omega
    have cS := o_swapRange b cap c P' X' [] Y' S' X'.length N (m - X'.length) m rfl heq.symm (by simp only [List.length_nil]; omega) (by omega) (by simp only [List.length_nil]; omega) hL
    rw [List.append_nil, List.append_nil, q1] at cS
    refine j_kCall rfl rfl rfl rfl ?_
    refine jcp F cS (List.Perm.refl _) (LeL.cons (Le.refl _) (LeL.cons (le_eqi (by omega)) (LeL.refl _))) rfl rfl (fun v h1 hR => ?_)
    subst hR
    repeat' (first
      | refine j_nil ?_)
    exact endD_ret (h1 := [_]) rfl .nil (Le.refl _) rfl (.inr rfl)
end Go.Proofs.YtbhiaccbpbnbmaaGreat
