/-
  Counts of a passing system that are drawn. No condition.
-/
import Derived.Test.YtahjliejgjjfeaaZD3
import Derived.Test.YtahjliejgjjfeaaZS6e
import Derived.Test.YtahjliejgjjfeaaZS5f
import Derived.Test.YtahjliejgjjfeaaZOpen
import Derived.Test.YtahjliejgjjfeaaZPS6
namespace Go.Proofs.Ytahjliejgjjfeaa
open Go.AI
set_option maxRecDepth 8000
set_option maxHeartbeats 1600000

/-- Counts that are drawn, in memory of the call's own. -/
def CntR (p : Passing) : A → Heap → Prop := fun v h' => ∃ (cs : List Int) (b : Option Nat) (cap : Nat), v = .os b cs.length cap ∧ cs.length = p.rules.length ∧ (∀ x ∈ cs, 0 ≤ x ∧ x ≤ 5) ∧ h' = [lsB b cap cs]
theorem o_P6Counts (code : List UInt8) (p : Passing) (st : Stock) (hv : p.Ok) (hs : p.StockOk st) : Does Try.prog 48 [.sl (code.map encY), .agg (encPassing p), .agg (encStock st)] [] (CntR p) := by
  refine fn_of_runD tyOk ztOk mix Try.func48 rfl (by decide) Try.ntmps48 (fun w0 F => ?_)
  change Run _ _ _ _ _ F
  have r8 := hv.1.2.2.2.2.1
  repeat' (first
      | (refine j_go ?_; first
        | refine j_op0 rfl rfl rfl rfl ?_ | refine j_box rfl rfl rfl rfl rfl rfl ?_)
      | refine j_nil ?_
      | (refine r_go ?_; first | refine run_seq ?_ | refine run_region ?_)
      | refine seqQ_normal ?_)
  refine j_kCall rfl rfl rfl rfl ?_
  refine jcp F (o_from code) (List.Perm.refl _) (LeL.refl _) rfl rfl (fun v h1 hR => ?_)
  obtain ⟨s, rfl, rfl⟩ := hR
  repeat' (first
      | (refine j_go ?_; first
        | refine j_op0 rfl rfl rfl rfl ?_ | (refine j_kLen rfl ?_; first | refine j_len rfl rfl rfl rfl rfl rfl ?_))
      | refine j_nil ?_
      | (refine r_go ?_; first | refine run_seq ?_ | refine run_region ?_)
      | refine seqQ_normal ?_)
  refine j_makeI (g := Go.AI.encI) (m := p.rules.length) 0 rfl rfl rfl rfl rfl rfl rfl rfl rfl (by omega) rfl rfl (fun bz => ?_)
  repeat' (first
      | (refine j_go ?_; first
        | refine j_op0 rfl rfl rfl rfl ?_)
      | refine j_nil ?_
      | (refine r_go ?_; first | refine run_seq ?_ | refine run_region ?_)
      | refine seqQ_normal ?_)
  refine j_kCall rfl rfl rfl rfl ?_
  refine jcp (_ :: F) (o_pick s code 0 0 6 (by omega) (by omega)) (List.Perm.swap _ _ _) (LeL.refl _) rfl rfl (fun v h1 hR => ?_)
  obtain ⟨r, a1, sd1, rfl, hr, ha1, rfl⟩ := hR
  repeat' (first
      | (refine j_go ?_; first
        | refine j_op0 rfl rfl rfl rfl ?_)
      | refine j_nil ?_
      | (refine r_go ?_; first | refine run_block ?_)
      | refine seqQ_normal ?_)
  refine run_loop (fun x : Int × List Int × Nat × Int => [(4, .ip (encPassing p)), (5, .ip (encStock st)), (7, .op (some s) 0), (8, .os (some bz) p.rules.length p.rules.length), (9, .int x.1)])
    (fun x => srcB s code x.2.2.1 x.2.2.2 :: lsB (some bz) p.rules.length x.2.1 :: F)
    (fun x => (0 ≤ x.1 ∧ x.1 ≤ 5) ∧ x.2.1.length = p.rules.length ∧ (∀ y ∈ x.2.1, 0 ≤ y ∧ y ≤ 5 - x.1) ∧ (x.2.2.1 : Int) ≤ 2 + 4 * (5 - x.1)) (fun x => x.1.toNat) (r, List.replicate p.rules.length 0, a1, sd1) ⟨rfl, rfl, rfl, rfl, rfl, trivial⟩ rfl ⟨by dsimp only; omega, List.length_replicate, fun y hy => by dsimp only; rw [List.eq_of_mem_replicate hy]; omega, by dsimp only; omega⟩ (fun ⟨i, l, a, sd⟩ ⟨hi, hl, hy, hA⟩ => ?_)
  dsimp only at hi hl hy hA ⊢
  by_cases h0 : 0 < i ∧ 0 < p.rules.length
  case pos =>
    obtain ⟨hi0, hr0⟩ := h0
    repeat' (first
      | (refine j_go ?_; first
        | refine j_op0 rfl rfl rfl rfl ?_ | (refine j_kLen rfl ?_; first | refine j_op rfl rfl rfl rfl ?_) | (refine j_kGuard rfl ?_; first | (refine (j_if rfl rfl rfl (fun hb => ?_) (fun hb => ?_)) <;> first | (exfalso; omega) | skip)))
      | refine j_nil ?_
      | (refine r_go ?_; first | refine run_seq ?_ | refine run_region ?_ | (refine (run_if rfl (fun hb => ?_) (fun hb => ?_)) <;> first | (exfalso; omega) | skip) | refine run_block ?_ | refine run_skip ?_)
      | refine seqQ_normal ?_)
    refine j_kCall rfl rfl rfl rfl ?_
    refine jcp (_ :: F) (o_pick s code a sd p.rules.length (by omega) (by omega)) (List.Perm.refl _) (LeL.refl _) rfl rfl (fun v h1 hR => ?_)
    obtain ⟨r2, a2, sd2, rfl, hr2, ha2, rfl⟩ := hR
    have hr3 : r2.toNat < l.length := by omega
    have hg := hy _ (List.getElem_mem hr3)
    repeat' (first
      | (refine j_go ?_; first
        | refine j_op0 rfl rfl rfl rfl ?_ | (refine j_kIdx rfl ?_; first | refine j_midxz rfl rfl rfl rfl rfl (by first | omega | (simp only [List.length_append, List.length_cons, List.length_nil]; omega)) rfl rfl ?_))
      | refine j_nil ?_
      | (refine r_go ?_; first | refine run_seq ?_ | refine run_region ?_)
      | refine seqQ_normal ?_)
    refine j_mloadE 1 r2.toNat (g := Go.AI.encI) (L := l) (z := 1) rfl rfl rfl rfl (fun _ => rfl) (by omega) (by omega) (fun _ => rfl) rfl rfl ?_
    repeat' (first
      | (refine j_go ?_; first
        | (refine j_kIdx rfl ?_; first | refine j_midxz rfl rfl rfl rfl rfl (by first | omega | (simp only [List.length_append, List.length_cons, List.length_nil]; omega)) rfl rfl ?_) | (refine j_kBin rfl ?_; first | refine j_in rfl rfl ⟨by omega, by omega⟩ rfl rfl ?_)))
    refine j_storeE 1 r2.toNat (g := Go.AI.encI) (l[r2.toNat] + 1) rfl rfl rfl rfl rfl rfl rfl rfl rfl (fun _ => rfl) (by omega) (by omega) ?_
    have hc : p.Cnts (l.set r2.toNat (l[r2.toNat] + 1)) := ⟨fun y h => by
      rcases List.mem_or_eq_of_mem_set h with q | q
      · have := hy y q; omega
      · subst q; omega, by rw [List.length_set]; omega⟩
    have hl2 : (l.set r2.toNat (l[r2.toNat] + 1)).length = p.rules.length := by rw [List.length_set]; exact hl
    have hc2 : ∀ y ∈ l.set r2.toNat (l[r2.toNat] + 1), 0 ≤ y ∧ y ≤ 5 - (i - 1) := fun y h => by
      rcases List.mem_or_eq_of_mem_set h with q | q
      · have := hy y q; omega
      · subst q; omega
    repeat' (first
      | (refine j_go ?_; first
        | refine j_op0 rfl rfl rfl rfl ?_)
      | refine j_nil ?_
      | (refine r_go ?_; first | refine run_seq ?_ | refine run_region ?_)
      | refine seqQ_normal ?_)
    refine j_kCall rfl rfl rfl rfl ?_
    refine jct [lsB (some bz) p.rules.length (l.set r2.toNat (l[r2.toNat] + 1))] (o_l06Left p st _ hv hs hc) (fun k hk => by rw [List.mem_singleton] at hk; subst hk; exact List.mem_cons_of_mem _ List.mem_cons_self) (FrzL.cons (Frz.same _ _) (FrzL.cons (Frz.same _ _) (FrzL.cons (Frz.flat (g := Go.AI.encI) (ys := l.set r2.toNat (l[r2.toNat] + 1)) (z := 1) hl2.symm rfl (fun _ => rfl) rfl rfl) (FrzL.nil _)))) (fun v h1 ⟨_, _, _, _, _, q1, q2⟩ => ⟨by rw [q1]; exact Clo.tup (CloL.cons (Clo.os _ _ _) (CloL.cons (Clo.raw _) CloL.nil)), by rw [q2]; exact CloH.cons (CloL.mapInt _ _) CloH.nil⟩) rfl rfl (fun v h1 hR => ?_)
    obtain ⟨b9, c9, j9, _, _, rfl, rfl⟩ := hR
    repeat' (first
      | (refine j_go ?_; first
        | refine j_op0 rfl rfl rfl rfl ?_ | refine j_off rfl rfl rfl ?_ | (refine j_kBin rfl ?_; first | refine j_in rfl rfl ⟨by omega, by omega⟩ rfl rfl ?_) | (refine j_kGuard rfl ?_; first | (refine (j_ifn rfl rfl rfl (fun hb => ?_) (fun hb => ?_)) <;> first | (exfalso; omega) | skip)))
      | refine j_nil ?_
      | (refine r_go ?_; first | refine run_seq ?_ | refine run_region ?_ | refine run_cond_f rfl ?_ | refine run_skip ?_)
      | refine seqQ_normal ?_ | refine blockQ_normal ?_)
    · refine j_kCall rfl rfl rfl rfl ?_
      refine jcp (_ :: _ :: F) (o_one s code a2 sd2 6 (by omega) (by omega)) (List.Perm.swap _ _ _) (LeL.refl _) rfl rfl (fun v h1 hR => ?_)
      obtain ⟨bo, a3, sd3, rfl, ha3, rfl⟩ := hR
      repeat' (first
      | (refine j_go ?_; first
        | refine j_op0 rfl rfl rfl rfl ?_ | (refine j_kIdx rfl ?_; first | refine j_midxz rfl rfl rfl rfl rfl (by first | omega | (simp only [List.length_append, List.length_cons, List.length_nil]; omega)) rfl rfl ?_) | (refine j_kBin rfl ?_; first | refine j_in rfl rfl ⟨by omega, by omega⟩ rfl rfl ?_))
      | refine j_nil ?_
      | (refine r_go ?_; first | refine run_region ?_ | refine run_skip ?_ | refine run_condn rfl (fun hb => ?_) (fun hb => ?_))
      | refine seqQ_normal ?_ | refine blockQ_normal ?_)
      · have hr4 : r2.toNat < (l.set r2.toNat (l[r2.toNat] + 1)).length := by omega
        have e4 : (l.set r2.toNat (l[r2.toNat] + 1))[r2.toNat] = l[r2.toNat] + 1 := List.getElem_set_self _
        refine j_mloadE 2 r2.toNat (g := Go.AI.encI) (L := l.set r2.toNat (l[r2.toNat] + 1)) (z := 1) rfl rfl rfl rfl (fun _ => rfl) (by omega) (by omega) (fun _ => rfl) rfl rfl ?_
        rw [e4]
        repeat' (first
      | (refine j_go ?_; first
        | (refine j_kIdx rfl ?_; first | refine j_midxz rfl rfl rfl rfl rfl (by first | omega | (simp only [List.length_append, List.length_cons, List.length_nil]; omega)) rfl rfl ?_) | (refine j_kBin rfl ?_; first | refine j_in rfl rfl ⟨by omega, by omega⟩ rfl rfl ?_)))
        refine j_storeE 2 r2.toNat (g := Go.AI.encI) (l[r2.toNat] + 1 - 1) rfl rfl rfl rfl rfl rfl rfl rfl rfl (fun _ => rfl) (by omega) (by omega) ?_
        repeat' (first
      | (refine j_go ?_; first
        | refine j_op0 rfl rfl rfl rfl ?_ | (refine j_kBin rfl ?_; first | refine j_in rfl rfl ⟨by omega, by omega⟩ rfl rfl ?_))
      | refine j_nil ?_
      | (refine r_go ?_; first | refine run_region ?_)
      | refine seqQ_normal ?_ | refine blockQ_normal ?_)
        exact loopQ_nextD (i - 1, (l.set r2.toNat (l[r2.toNat] + 1)).set r2.toNat (l[r2.toNat] + 1 - 1), a3, sd3) ⟨by dsimp only; omega, by dsimp only; rw [List.length_set]; exact hl2, fun y h => by
          dsimp only at h ⊢
          rcases List.mem_or_eq_of_mem_set h with q | q
          · exact hc2 y q
          · subst q; omega, by dsimp only; omega⟩ (by dsimp only; omega) ((List.sublist_cons_self _ _).cons_cons _) ⟨rfl, rfl, rfl, rfl, rfl, trivial⟩
      · exact loopQ_nextD (i - 1, l.set r2.toNat (l[r2.toNat] + 1), a3, sd3) ⟨by dsimp only; omega, hl2, hc2, by dsimp only; omega⟩ (by dsimp only; omega) ((List.sublist_cons_self _ _).cons_cons _) ⟨rfl, rfl, rfl, rfl, rfl, trivial⟩
    · exact loopQ_nextD (i - 1, l.set r2.toNat (l[r2.toNat] + 1), a2, sd2) ⟨by dsimp only; omega, hl2, hc2, by dsimp only; omega⟩ (by dsimp only; omega) (List.sublist_cons_self _ _) ⟨rfl, rfl, rfl, rfl, rfl, trivial⟩
  repeat' (first
      | (refine j_go ?_; first
        | refine j_op0 rfl rfl rfl rfl ?_ | refine j_off rfl rfl rfl ?_ | (refine j_kLen rfl ?_; first | refine j_op rfl rfl rfl rfl ?_) | (refine j_kGuard rfl ?_; first | (refine (j_if rfl rfl rfl (fun hb => ?_) (fun hb => ?_)) <;> first | (exfalso; omega) | skip)))
      | refine j_nil ?_
      | (refine r_go ?_; first | refine run_seq ?_ | refine run_region ?_ | refine run_cond_f rfl ?_ | (refine (run_if rfl (fun hb => ?_) (fun hb => ?_)) <;> first | (exfalso; omega) | skip) | refine run_ret ?_ | refine run_exit ?_)
      | refine seqQ_normal ?_ | refine seqQ_exit ?_ | refine blockQ_eq ?_ | refine loopQ_exit ?_)
  all_goals refine endD_view (view_sub (List.sublist_cons_self _ _)) ?_
  all_goals exact endD_ret (h1 := [_]) rfl (.cons (.tmp rfl) .nil) (Le.refl _) ⟨l, some bz, p.rules.length, by rw [hl]; rfl, hl, fun y q => by have := hy y q; omega, rfl⟩ (.inl rfl)
end Go.Proofs.Ytahjliejgjjfeaa

/-
  The choice that takes rules in order, on both sides: FirstChoice. No condition.
-/
namespace Go.Proofs.Ytahjliejgjjfeaa
open Go.AI
set_option maxRecDepth 8000
set_option maxHeartbeats 1600000

/-- How often a list of numbers can be taken from another one, by the first k numbers; at most 1000. -/
def tmsK (a b : List Int) : Nat → Int
  | 0 => 1000
  | k + 1 => if 0 < a.getD k 0 then min (tmsK a b k) (b.getD k 0 / a.getD k 0) else tmsK a b k
def tms (a b : List Int) : Int := tmsK a b a.length
theorem div_bnd {x y : Int} (hx : 0 ≤ x ∧ x ≤ 1000) (hy : 0 < y) : 0 ≤ x / y ∧ x / y ≤ 1000 ∧ x / y * y ≤ x := by
  have h1 : 0 ≤ x / y := Int.ediv_nonneg hx.1 (by omega)
  have h2 : x / y ≤ x := Int.ediv_le_self _ hx.1
  have h3 : x / y * y ≤ x := Int.ediv_mul_le _ (by omega)
  exact ⟨h1, by omega, h3⟩
theorem tmsK_le {a b : List Int} (hl : a.length ≤ b.length) {i : Nat} (hi : i < a.length) (h : 0 < a[i]) : ∀ k, k ≤ a.length → i < k → tmsK a b k ≤ b[i] / a[i]
  | 0, _, q => absurd q (by omega)
  | k + 1, hk, q => by
    rw [tmsK, getD_get (by omega : k < a.length), getD_get (by omega : k < b.length)]
    by_cases e : i = k
    · subst e; rw [if_pos h]; omega
    · have ih := tmsK_le hl hi h k (by omega) (by omega)
      split <;> omega
structure TmOk (a b : List Int) : Prop where
  l : a.length = b.length
  n : a.length ≤ 1000000
  a : ∀ x ∈ a, 0 ≤ x ∧ x ≤ 1000
  b : ∀ x ∈ b, 0 ≤ x ∧ x ≤ 1000



structure FcOk (s : System) (t : State) (q : List Int × List (List Int)) : Prop where
  o : q.1.length = s.rules.length
  r : q.2.length = t.bags.length
  b : ∀ b ∈ q.2, (b.length : Int) = s.kinds ∧ ∀ x ∈ b, 0 ≤ x ∧ x ≤ 1000
end Go.Proofs.Ytahjliejgjjfeaa

/-
  Packings: how many there are; the reference's side. No condition.
-/
namespace Go.Proofs.Ytahjliejgjjfeaa
open Go.AI
set_option maxRecDepth 8000
set_option maxHeartbeats 1600000

def sumN (f : Nat → Nat) : Nat → Nat
  | 0 => 0
  | k + 1 => sumN f k + f k
/-- None of the parts is within a rest. -/
def fullP (parts : List (List Int)) (rest : List Int) : Prop := ∀ p ∈ parts, ¬ Within p rest
open Classical in
/-- The number of packings. -/
noncomputable def packN (parts : List (List Int)) : List (List Int) → List Int → Nat
  | [], rest => if fullP parts rest then 1 else 0
  | p :: ps, rest => sumN (fun n => packN parts ps (plusL rest p (0 - (n : Int)))) ((tms p rest).toNat + 1)
/-- A bag of so many kinds; one that is not empty. -/
def Bgk (K : Nat) (b : List Int) : Prop := (b.length = K ∧ 1 ≤ K ∧ K ≤ 8) ∧ ∀ x ∈ b, 0 ≤ x ∧ x ≤ 1000
def Ptk (K : Nat) (b : List Int) : Prop := Bgk K b ∧ ¬ tot b = 0
theorem Ptk.left {K : Nat} {a b : List Int} (ha : Ptk K a) (hb : Bgk K b) {n : Int} (h0 : 0 ≤ n) (hn : n ≤ tms a b) : Bgk K (plusL b a (0 - n)) := by
  have hl := ha.1.1.1
  have hl2 := hb.1.1
  refine ⟨⟨by unfold plusL; rw [List.length_zipWith]; omega, hb.1.2⟩, fun x hx => ?_⟩
  unfold plusL at hx
  obtain ⟨i, hi, rfl⟩ := List.getElem_of_mem hx
  rw [List.length_zipWith] at hi
  rw [List.getElem_zipWith]
  have h1 := ha.1.2 _ (List.getElem_mem (n := i) (by omega))
  have h2 := hb.2 _ (List.getElem_mem (n := i) (by omega))
  by_cases q : 0 < a[i]'(by omega)
  · have h4 := tmsK_le (b := b) (by omega) (by omega : i < a.length) q a.length (Nat.le_refl _) (by omega)
    have h5 := div_bnd h2 q
    have h6 : a[i]'(by omega) * n ≤ b[i]'(by omega) := by
      have : n ≤ b[i]'(by omega) / a[i]'(by omega) := Int.le_trans hn h4
      have h7 := Int.mul_le_mul_of_nonneg_left this h1.1
      have h8 := h5.2.2
      rw [Int.mul_comm] at h8
      omega
    have h7 : 0 ≤ a[i]'(by omega) * n := Int.mul_nonneg h1.1 h0
    rw [Int.mul_sub, Int.mul_zero]
    omega
  · have e : a[i]'(by omega) = 0 := by omega
    rw [e, Int.zero_mul]; omega
theorem Ptk.fits {K : Nat} {a b : List Int} (ha : Ptk K a) (hb : Bgk K b) {n : Int} (h0 : 0 ≤ n) (hn : n ≤ 1000) : Fits b a (0 - n) := by
  have hl := ha.1.1
  have hl2 := hb.1.1
  refine ⟨by omega, by omega, fun x hx => by have := hb.2 x hx; omega, fun y hy => ?_⟩
  have := neg_mul_bnd (ha.1.2 y hy) ⟨h0, hn⟩
  omega
end Go.Proofs.Ytahjliejgjjfeaa

/-
  Weights of a passing system that are drawn. No condition.
-/
namespace Go.Proofs.Ytahjliejgjjfeaa
open Go.AI
set_option maxRecDepth 8000
set_option maxHeartbeats 1600000
section
variable {C : Cx} {n : Nat} {Q : Exit → Env → Heap → Prop} {e : Env} {h : Heap}

end
end Go.Proofs.Ytahjliejgjjfeaa

/-
  Plain facts: small stocks stay stocks, and what weights that are an invariant say of a step. No program in sight.
-/
namespace Go.Proofs.Ytahjliejgjjfeaa
open Go.AI
set_option maxRecDepth 8000

/-! #### weights of a system -/
/-- Weights, of any size. -/
def Passing.LZ (p : Passing) (W : List (List Int)) : Prop := ∀ k, k < p.free.length → p.free.getD k false = true → (W.getD p.parents.length []).getD k 0 = 0
def Passing.chg (p : Passing) (W : List (List Int)) (r : PassRule) : Int := dot r.in_ (W.getD r.cell.toNat []) - dot r.out (W.getD r.cell.toNat []) + dot r.out (W.getD (p.up r.cell) []) - dot r.in_ (W.getD (p.up r.cell) [])
def Passing.Inv (p : Passing) (W : List (List Int)) : Prop := p.LZ W ∧ ∀ r ∈ p.rules, p.chg W r = 0
theorem up_last {p : Passing} (hv : p.Frame) {c : Int} (h0 : 0 ≤ c) (hc : c.toNat < p.parents.length) : p.up c = p.parents.length → c = 0 := by
  intro q
  by_cases e : c = 0
  · exact e
  · have := hv.par (c := c) (by omega) hc
    unfold Passing.up at q
    rw [if_neg e, this.1] at q; omega
/-! #### small stocks -/
theorem mul10 {y t : Int} (hy : 0 ≤ y ∧ y ≤ 2) (ht : -5 ≤ t ∧ t ≤ 5) : -10 ≤ y * t ∧ y * t ≤ 10 := by
  obtain rfl | rfl | rfl : y = 0 ∨ y = 1 ∨ y = 2 := by omega
  all_goals omega
theorem Sh.mixS {n K : Nat} {L : List (List Int)} {B : Int} (h : Sh n K L B) {c u : Nat} {g : Nat → Bool} {a b : List Int} (ha : a.length = K ∧ ∀ y ∈ a, 0 ≤ y ∧ y ≤ 2) (hb : b.length = K ∧ ∀ y ∈ b, 0 ≤ y ∧ y ≤ 2) {t : Int} (ht : -5 ≤ t ∧ t ≤ 5) : Sh n K (mixR c u g a b t L) (B + 20) :=
  ((h.add (M := 10) (by omega) ha.1 (fun y hy => mul10 (ha.2 y hy) ht)).add (M := 10) (by omega) (by rw [only_len]; exact hb.1) (fun y hy => by
    unfold only at hy
    obtain ⟨i, hi, rfl⟩ := List.getElem_of_mem hy
    rw [List.getElem_mapIdx]
    split
    · exact mul10 (hb.2 _ (List.getElem_mem _)) ht
    · omega)).mono (by omega)
theorem chs_small {p : Passing} (hv : PasSm p) {cs : List Int} (hc : p.Cnts cs) (hc5 : ∀ x ∈ cs, 0 ≤ x ∧ x ≤ 5) {n : Nat} {L : List (List Int)} {B : Int} (h : Sh n p.kinds.toNat L B) : ∀ k, k ≤ p.rules.length → Sh n p.kinds.toNat (p.chs cs L k) (B + 40 * k)
  | 0, _ => h.mono (by omega)
  | k + 1, hk => by
    obtain ⟨h1, _⟩ := Cn hc (k := k) (by omega)
    have h2 := hc5 _ (List.getElem_mem h1)
    have R := ruF hv.1 (List.getElem_mem (show k < p.rules.length by omega))
    have q := hv.2.2.2.2 _ (List.getElem_mem (show k < p.rules.length by omega))
    rw [chs_succ (by omega) h1]
    exact (((chs_small hv hc hc5 h k (by omega)).mixS ⟨R.o.1, q.1⟩ ⟨R.i.1, q.2⟩ (by omega)).mixS ⟨R.i.1, q.2⟩ ⟨R.o.1, q.1⟩ (by omega)).mono (by push_cast; omega)
theorem gvs_nn {p : Passing} (hv : p.Ok) {cs : List Int} (hc : p.Cnts cs) {L : List (List Int)} {B : Int} (h : Sh (p.parents.length + 1) p.kinds.toNat L B) (h0 : Nn L) : ∀ k, k ≤ p.rules.length → Nn (p.gvs cs L k)
  | 0, _ => h0
  | k + 1, hk => by
    obtain ⟨h1, h2⟩ := Cn hc (k := k) (by omega)
    have R := ruF hv (List.getElem_mem (show k < p.rules.length by omega))
    have H := gvs_sh hv hc h k (by omega)
    have hN := gvs_nn hv hc h h0 k (by omega)
    rw [gvs_succ (by omega) h1]
    have hN2 := (nn_val H).1 hN
    refine (nn_val (H.gv R h2)).2 (fun i j hi hj => ?_)
    unfold Passing.gv
    have hRc := R.c
    rw [mixR_val H (by omega) R.u R.i R.o (by omega) hi hj]
    have e0 := hN2 i j hi hj
    have e1 : 0 ≤ (if i = p.rules[k].cell.toNat then p.rules[k].in_.getD j 0 * cs[k] else 0) := by
      split
      · rw [getD_get (by rw [R.i.1]; exact hj)]
        exact Int.mul_nonneg (R.i.2 _ (List.getElem_mem _)).1 h2.1
      · omega
    have e2 : 0 ≤ (if i = p.up p.rules[k].cell ∧ p.gk p.rules[k].cell j = true then p.rules[k].out.getD j 0 * cs[k] else 0) := by
      split
      · rw [getD_get (by rw [R.o.1]; exact hj)]
        exact Int.mul_nonneg (R.o.2 _ (List.getElem_mem _)).1 h2.1
      · omega
    omega
/-- What is free around stays away. -/
theorem mix_free {p : Passing} (hv : p.Ok) {r : PassRule} (hr : r ∈ p.rules) {L : List (List Int)} {B : Int} (hL : Sh (p.parents.length + 1) p.kinds.toNat L B) {a b : List Int} (ha : Bg p.kinds.toNat a) (hb : Bg p.kinds.toNat b) {t : Int} (ht : -1000 ≤ t ∧ t ≤ 1000) {k : Nat} (hk : k < p.kinds.toNat) (hf : p.free.getD k false = true) :
    val (mixR r.cell.toNat (p.up r.cell) (p.gk r.cell) a b t L) p.parents.length k = val L p.parents.length k := by
  have R := ruF hv hr
  have hRc := R.c
  rw [mixR_val hL (by omega) R.u ha hb ht (by omega) hk, if_neg (by omega), if_neg (fun q => ?_)]
  · omega
  · have := up_last hv.1 R.c0 R.c q.1.symm
    have h2 := q.2
    unfold Passing.gk at h2
    rw [if_pos this, hf] at h2
    cases h2
theorem chs_free {p : Passing} (hv : p.Ok) {cs : List Int} (hc : p.Cnts cs) {L : List (List Int)} {B : Int} (hL : Sh (p.parents.length + 1) p.kinds.toNat L B) {j : Nat} (hj : j < p.kinds.toNat) (hf : p.free.getD j false = true) : ∀ k, k ≤ p.rules.length → val (p.chs cs L k) p.parents.length j = val L p.parents.length j
  | 0, _ => rfl
  | k + 1, hk => by
    obtain ⟨h1, h2⟩ := Cn hc (k := k) (by omega)
    have hm := List.getElem_mem (show k < p.rules.length by omega)
    have R := ruF hv hm
    have H := chs_sh hv hc hL k (by omega)
    rw [chs_succ (by omega) h1]
    unfold Passing.gv
    rw [mix_free hv hm (H.tk R h2) R.i R.o (by omega) hj hf]
    unfold Passing.tk
    rw [mix_free hv hm H R.o R.i (by omega) hj hf, chs_free hv hc hL hj hf k (by omega)]
theorem plc_stockOf {n : Nat} {L : List (List Int)} (h : L.length = n + 1) : plc (stockOf n L) = L := by
  rw [stockOf_eq (by omega)]
  unfold plc
  dsimp only
  have : L.drop n = [L[n]'(by omega)] := by
    rw [List.drop_eq_getElem_cons (by omega), List.drop_of_length_le (by omega)]
  rw [← this, List.take_append_drop]
theorem plc_small {p : Passing} {s : Stock} (hs : StkSm p s) : Sh (p.parents.length + 1) p.kinds.toNat (plc s) 3 := by
  have h := plc_sh hs.1
  refine ⟨h.n, fun x hx => ⟨(h.b x hx).1, fun y hy => ?_⟩⟩
  rcases List.mem_append.1 hx with q | q
  · have := hs.2.1 x q y hy; omega
  · rw [List.mem_singleton] at q; subst q; have := hs.2.2 y hy; omega
theorem after_ok {p : Passing} {s : Stock} (hv : PasSm p) (hs : StkSm p s) {cs : List Int} (hc : p.Cnts cs) (hc5 : ∀ x ∈ cs, 0 ≤ x ∧ x ≤ 5) (hN : Nn (p.left s cs)) : p.StockOk (p.after s cs) := by
  have hf := hv.1.1
  have H := chs_small hv hc hc5 (plc_small hs) p.rules.length (Nat.le_refl _)
  have N : Nn (p.chs cs (plc s) p.rules.length) := by
    rw [chs_eq]
    exact gvs_nn hv.1 hc (tks_sh hv.1 hc (plc_sh hs.1) p.rules.length (Nat.le_refl _)) hN _ (Nat.le_refl _)
  have Fr := fun j (hj : j < p.kinds.toNat) hfj => chs_free hv.1 hc (plc_sh hs.1) hj hfj p.rules.length (Nat.le_refl _)
  unfold Passing.after
  generalize p.chs cs (plc s) p.rules.length = C at H N Fr
  have hn := H.n
  have bag : ∀ x ∈ C, BagK p.kinds x := fun x hx => by
    have h1 := (H.b x hx).1
    have := hf.1
    have := hv.2.2.2.1
    exact ⟨⟨fun y hy => ⟨N x hx y hy, by have := (H.b x hx).2 y hy; omega⟩, by omega⟩, by omega⟩
  rw [stockOf_eq (by omega)]
  refine ⟨by simp; omega, bag _ (List.getElem_mem _), fun b hb => bag b (List.mem_of_mem_take hb), fun i hi ⟨q1, q2⟩ => ?_⟩
  dsimp only at hi q1
  have hk : i < p.kinds.toNat := by have := (H.b _ (List.getElem_mem (show p.parents.length < C.length by omega))).1; omega
  have hfi : p.free.getD i false = true := by rw [List.getD_eq_getElem?_getD, q2]; rfl
  have e := Fr i hk hfi
  rw [val_eq (by omega) hi] at e
  obtain ⟨a1, a2, a3, a4⟩ := hs.1
  have hpl : (plc s).length = p.parents.length + 1 := (plc_sh hs.1).n
  have hla : (plc s)[p.parents.length]'(by omega) = s.around := by
    unfold plc
    rw [List.getElem_append_right (by omega)]; simp [a1]
  have hai : i < s.around.length := by have := a2.2; omega
  rw [val_eq (by omega) (by rw [hla]; exact hai)] at e
  simp only [hla] at e
  have := a4 i hai
  have := (a2.1.1 _ (List.getElem_mem hai)).1
  have : ¬ 0 < s.around[i] := fun q => a4 i hai ⟨q, q2⟩
  omega
end Go.Proofs.Ytahjliejgjjfeaa

/-
  Choices: IsChoice, IsMaximal of the reference and of the program. No condition.
-/
namespace Go.Proofs.Ytahjliejgjjfeaa
open Go.AI
set_option maxRecDepth 8000
set_option maxHeartbeats 1600000





end Go.Proofs.Ytahjliejgjjfeaa
