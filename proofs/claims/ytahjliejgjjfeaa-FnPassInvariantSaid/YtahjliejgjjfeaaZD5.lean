/-
  Counts of a passing system that are drawn. No condition.
-/
import Derived.Test.YtahjliejgjjfeaaZD3
import Derived.Test.YtahjliejgjjfeaaZS6e
import Derived.Test.YtahjliejgjjfeaaZS5f
import Derived.Test.YtahjliejgjjfeaaZOpen
namespace Go.Proofs.Ytahjliejgjjfeaa
open Go.AI
set_option maxRecDepth 8000
set_option maxHeartbeats 1600000

/-- Counts that are drawn, in memory of the call's own. -/
def CntR (p : Passing) : A → Heap → Prop := fun v h' => ∃ (cs : List Int) (b : Option Nat) (cap : Nat), v = .os b cs.length cap ∧ cs.length = p.rules.length ∧ (∀ x ∈ cs, 0 ≤ x ∧ x ≤ 5) ∧ h' = [lsB b cap cs]
theorem o_P6Counts (code : List UInt8) (p : Passing) (st : Stock) (hv : p.Ok) (hs : p.StockOk st) : Does Try.prog 48 [.sl (code.map encY), .agg (encPassing p), .agg (encStock st)] [] (CntR p) := by
  refine fn_of_runD tyOk ztOk mix Try.func48 rfl (by decide) Try.ntmps48 (fun w0 F => ?_)
  change Run _ _ _ _ _ F
  have r8 := hv.1.2.2.2.2.1
  repeat' (first
      | (refine j_go ?_; first
        | refine j_op0 rfl rfl rfl rfl ?_ | refine j_box rfl rfl rfl rfl rfl rfl ?_)
      | refine j_nil ?_
      | (refine r_go ?_; first | refine run_seq ?_ | refine run_region ?_)
      | refine seqQ_normal ?_)
  refine j_kCall rfl rfl rfl rfl ?_
  refine jcp F (o_from code) (List.Perm.refl _) (LeL.refl _) rfl rfl (fun v h1 hR => ?_)
  obtain ⟨s, rfl, rfl⟩ := hR
  repeat' (first
      | (refine j_go ?_; first
        | refine j_op0 rfl rfl rfl rfl ?_ | (refine j_kLen rfl ?_; first | refine j_len rfl rfl rfl rfl rfl rfl ?_))
      | refine j_nil ?_
      | (refine r_go ?_; first | refine run_seq ?_ | refine run_region ?_)
      | refine seqQ_normal ?_)
  refine j_makeI (g := Go.AI.encI) (m := p.rules.length) 0 rfl rfl rfl rfl rfl rfl rfl rfl rfl (by omega) rfl rfl (fun bz => ?_)
  repeat' (first
      | (refine j_go ?_; first
        | refine j_op0 rfl rfl rfl rfl ?_)
      | refine j_nil ?_
      | (refine r_go ?_; first | refine run_seq ?_ | refine run_region ?_)
      | refine seqQ_normal ?_)
  refine j_kCall rfl rfl rfl rfl ?_
  refine jcp (_ :: F) (o_pick s code 0 0 6 (by omega) (by omega)) (List.Perm.swap _ _ _) (LeL.refl _) rfl rfl (fun v h1 hR => ?_)
  obtain ⟨r, a1, sd1, rfl, hr, ha1, rfl⟩ := hR
  repeat' (first
      | (refine j_go ?_; first
        | refine j_op0 rfl rfl rfl rfl ?_)
      | refine j_nil ?_
      | (refine r_go ?_; first | refine run_block ?_)
      | refine seqQ_normal ?_)
  refine run_loop (fun x : Int × List Int × Nat × Int => [(4, .ip (encPassing p)), (5, .ip (encStock st)), (7, .op (some s) 0), (8, .os (some bz) p.rules.length p.rules.length), (9, .int x.1)])
    (fun x => srcB s code x.2.2.1 x.2.2.2 :: lsB (some bz) p.rules.length x.2.1 :: F)
    (fun x => (0 ≤ x.1 ∧ x.1 ≤ 5) ∧ x.2.1.length = p.rules.length ∧ (∀ y ∈ x.2.1, 0 ≤ y ∧ y ≤ 5 - x.1) ∧ (x.2.2.1 : Int) ≤ 2 + 4 * (5 - x.1)) (fun x => x.1.toNat) (r, List.replicate p.rules.length 0, a1, sd1) ⟨rfl, rfl, rfl, rfl, rfl, trivial⟩ rfl ⟨by dsimp only; omega, List.length_replicate, fun y hy => by dsimp only; rw [List.eq_of_mem_replicate hy]; omega, by dsimp only; omega⟩ (fun ⟨i, l, a, sd⟩ ⟨hi, hl, hy, hA⟩ => ?_)
  dsimp only at hi hl hy hA ⊢
  by_cases h0 : 0 < i ∧ 0 < p.rules.length
  case pos =>
    obtain ⟨hi0, hr0⟩ := h0
    repeat' (first
      | (refine j_go ?_; first
        | refine j_op0 rfl rfl rfl rfl ?_ | (refine j_kLen rfl ?_; first | refine j_op rfl rfl rfl rfl ?_) | (refine j_kGuard rfl ?_; first | (refine (j_if rfl rfl rfl (fun hb => ?_) (fun hb => ?_)) <;> first | (exfalso; omega) | skip)))
      | refine j_nil ?_
      | (refine r_go ?_; first | refine run_seq ?_ | refine run_region ?_ | (refine (run_if rfl (fun hb => ?_) (fun hb => ?_)) <;> first | (exfalso; omega) | skip) | refine run_block ?_ | refine run_skip ?_)
      | refine seqQ_normal ?_)
    refine j_kCall rfl rfl rfl rfl ?_
    refine jcp (_ :: F) (o_pick s code a sd p.rules.length (by omega) (by omega)) (List.Perm.refl _) (LeL.refl _) rfl rfl (fun v h1 hR => ?_)
    obtain ⟨r2, a2, sd2, rfl, hr2, ha2, rfl⟩ := hR
    have hr3 : r2.toNat < l.length := by omega
    have hg := hy _ (List.getElem_mem hr3)
    repeat' (first
      | (refine j_go ?_; first
        | refine j_op0 rfl rfl rfl rfl ?_ | (refine j_kIdx rfl ?_; first | refine j_midxz rfl rfl rfl rfl rfl (by first | omega | (simp only [List.length_append, List.length_cons, List.length_nil]; omega)) rfl rfl ?_))
      | refine j_nil ?_
      | (refine r_go ?_; first | refine run_seq ?_ | refine run_region ?_)
      | refine seqQ_normal ?_)
    refine j_mloadE 1 r2.toNat (g := Go.AI.encI) (L := l) (z := 1) rfl rfl rfl rfl (fun _ => rfl) (by omega) (by omega) (fun _ => rfl) rfl rfl ?_
    repeat' (first
      | (refine j_go ?_; first
        | (refine j_kIdx rfl ?_; first | refine j_midxz rfl rfl rfl rfl rfl (by first | omega | (simp only [List.length_append, List.length_cons, List.length_nil]; omega)) rfl rfl ?_) | (refine j_kBin rfl ?_; first | refine j_in rfl rfl ⟨by omega, by omega⟩ rfl rfl ?_)))
    refine j_storeE 1 r2.toNat (g := Go.AI.encI) (l[r2.toNat] + 1) rfl rfl rfl rfl rfl rfl rfl rfl rfl (fun _ => rfl) (by omega) (by omega) ?_
    have hc : p.Cnts (l.set r2.toNat (l[r2.toNat] + 1)) := ⟨fun y h => by
      rcases List.mem_or_eq_of_mem_set h with q | q
      · have := hy y q; omega
      · subst q; omega, by rw [List.length_set]; omega⟩
    have hl2 : (l.set r2.toNat (l[r2.toNat] + 1)).length = p.rules.length := by rw [List.length_set]; exact hl
    have hc2 : ∀ y ∈ l.set r2.toNat (l[r2.toNat] + 1), 0 ≤ y ∧ y ≤ 5 - (i - 1) := fun y h => by
      rcases List.mem_or_eq_of_mem_set h with q | q
      · have := hy y q; omega
      · subst q; omega
    repeat' (first
      | (refine j_go ?_; first
        | refine j_op0 rfl rfl rfl rfl ?_)
      | refine j_nil ?_
      | (refine r_go ?_; first | refine run_seq ?_ | refine run_region ?_)
      | refine seqQ_normal ?_)
    refine j_kCall rfl rfl rfl rfl ?_
    refine jct [lsB (some bz) p.rules.length (l.set r2.toNat (l[r2.toNat] + 1))] (o_l06Left p st _ hv hs hc) (fun k hk => by rw [List.mem_singleton] at hk; subst hk; exact List.mem_cons_of_mem _ List.mem_cons_self) (FrzL.cons (Frz.same _ _) (FrzL.cons (Frz.same _ _) (FrzL.cons (Frz.flat (g := Go.AI.encI) (ys := l.set r2.toNat (l[r2.toNat] + 1)) (z := 1) hl2.symm rfl (fun _ => rfl) rfl rfl) (FrzL.nil _)))) (fun v h1 ⟨_, _, _, _, _, q1, q2⟩ => ⟨by rw [q1]; exact Clo.tup (CloL.cons (Clo.os _ _ _) (CloL.cons (Clo.raw _) CloL.nil)), by rw [q2]; exact CloH.cons (CloL.mapInt _ _) CloH.nil⟩) rfl rfl (fun v h1 hR => ?_)
    obtain ⟨b9, c9, j9, _, _, rfl, rfl⟩ := hR
    repeat' (first
      | (refine j_go ?_; first
        | refine j_op0 rfl rfl rfl rfl ?_ | refine j_off rfl rfl rfl ?_ | (refine j_kBin rfl ?_; first | refine j_in rfl rfl ⟨by omega, by omega⟩ rfl rfl ?_) | (refine j_kGuard rfl ?_; first | (refine (j_ifn rfl rfl rfl (fun hb => ?_) (fun hb => ?_)) <;> first | (exfalso; omega) | skip)))
      | refine j_nil ?_
      | (refine r_go ?_; first | refine run_seq ?_ | refine run_region ?_ | refine run_cond_f rfl ?_ | refine run_skip ?_)
      | refine seqQ_normal ?_ | refine blockQ_normal ?_)
    · refine j_kCall rfl rfl rfl rfl ?_
      refine jcp (_ :: _ :: F) (o_one s code a2 sd2 6 (by omega) (by omega)) (List.Perm.swap _ _ _) (LeL.refl _) rfl rfl (fun v h1 hR => ?_)
      obtain ⟨bo, a3, sd3, rfl, ha3, rfl⟩ := hR
      repeat' (first
      | (refine j_go ?_; first
        | refine j_op0 rfl rfl rfl rfl ?_ | (refine j_kIdx rfl ?_; first | refine j_midxz rfl rfl rfl rfl rfl (by first | omega | (simp only [List.length_append, List.length_cons, List.length_nil]; omega)) rfl rfl ?_) | (refine j_kBin rfl ?_; first | refine j_in rfl rfl ⟨by omega, by omega⟩ rfl rfl ?_))
      | refine j_nil ?_
      | (refine r_go ?_; first | refine run_region ?_ | refine run_skip ?_ | refine run_condn rfl (fun hb => ?_) (fun hb => ?_))
      | refine seqQ_normal ?_ | refine blockQ_normal ?_)
      · have hr4 : r2.toNat < (l.set r2.toNat (l[r2.toNat] + 1)).length := by omega
        have e4 : (l.set r2.toNat (l[r2.toNat] + 1))[r2.toNat] = l[r2.toNat] + 1 := List.getElem_set_self _
        refine j_mloadE 2 r2.toNat (g := Go.AI.encI) (L := l.set r2.toNat (l[r2.toNat] + 1)) (z := 1) rfl rfl rfl rfl (fun _ => rfl) (by omega) (by omega) (fun _ => rfl) rfl rfl ?_
        rw [e4]
        repeat' (first
      | (refine j_go ?_; first
        | (refine j_kIdx rfl ?_; first | refine j_midxz rfl rfl rfl rfl rfl (by first | omega | (simp only [List.length_append, List.length_cons, List.length_nil]; omega)) rfl rfl ?_) | (refine j_kBin rfl ?_; first | refine j_in rfl rfl ⟨by omega, by omega⟩ rfl rfl ?_)))
        refine j_storeE 2 r2.toNat (g := Go.AI.encI) (l[r2.toNat] + 1 - 1) rfl rfl rfl rfl rfl rfl rfl rfl rfl (fun _ => rfl) (by omega) (by omega) ?_
        repeat' (first
      | (refine j_go ?_; first
        | refine j_op0 rfl rfl rfl rfl ?_ | (refine j_kBin rfl ?_; first | refine j_in rfl rfl ⟨by omega, by omega⟩ rfl rfl ?_))
      | refine j_nil ?_
      | (refine r_go ?_; first | refine run_region ?_)
      | refine seqQ_normal ?_ | refine blockQ_normal ?_)
        exact loopQ_nextD (i - 1, (l.set r2.toNat (l[r2.toNat] + 1)).set r2.toNat (l[r2.toNat] + 1 - 1), a3, sd3) ⟨by dsimp only; omega, by dsimp only; rw [List.length_set]; exact hl2, fun y h => by
          dsimp only at h ⊢
          rcases List.mem_or_eq_of_mem_set h with q | q
          · exact hc2 y q
          · subst q; omega, by dsimp only; omega⟩ (by dsimp only; omega) ((List.sublist_cons_self _ _).cons_cons _) ⟨rfl, rfl, rfl, rfl, rfl, trivial⟩
      · exact loopQ_nextD (i - 1, l.set r2.toNat (l[r2.toNat] + 1), a3, sd3) ⟨by dsimp only; omega, hl2, hc2, by dsimp only; omega⟩ (by dsimp only; omega) ((List.sublist_cons_self _ _).cons_cons _) ⟨rfl, rfl, rfl, rfl, rfl, trivial⟩
    · exact loopQ_nextD (i - 1, l.set r2.toNat (l[r2.toNat] + 1), a2, sd2) ⟨by dsimp only; omega, hl2, hc2, by dsimp only; omega⟩ (by dsimp only; omega) (List.sublist_cons_self _ _) ⟨rfl, rfl, rfl, rfl, rfl, trivial⟩
  repeat' (first
      | (refine j_go ?_; first
        | refine j_op0 rfl rfl rfl rfl ?_ | refine j_off rfl rfl rfl ?_ | (refine j_kLen rfl ?_; first | refine j_op rfl rfl rfl rfl ?_) | (refine j_kGuard rfl ?_; first | (refine (j_if rfl rfl rfl (fun hb => ?_) (fun hb => ?_)) <;> first | (exfalso; omega) | skip)))
      | refine j_nil ?_
      | (refine r_go ?_; first | refine run_seq ?_ | refine run_region ?_ | refine run_cond_f rfl ?_ | (refine (run_if rfl (fun hb => ?_) (fun hb => ?_)) <;> first | (exfalso; omega) | skip) | refine run_ret ?_ | refine run_exit ?_)
      | refine seqQ_normal ?_ | refine seqQ_exit ?_ | refine blockQ_eq ?_ | refine loopQ_exit ?_)
  all_goals refine endD_view (view_sub (List.sublist_cons_self _ _)) ?_
  all_goals exact endD_ret (h1 := [_]) rfl (.cons (.tmp rfl) .nil) (Le.refl _) ⟨l, some bz, p.rules.length, by rw [hl]; rfl, hl, fun y q => by have := hy y q; omega, rfl⟩ (.inl rfl)
end Go.Proofs.Ytahjliejgjjfeaa

/-
  The choice that takes rules in order, on both sides: FirstChoice. No condition.
-/
namespace Go.Proofs.Ytahjliejgjjfeaa
open Go.AI
set_option maxRecDepth 8000
set_option maxHeartbeats 1600000

/-- How often a list of numbers can be taken from another one, by the first k numbers; at most 1000. -/
def tmsK (a b : List Int) : Nat → Int
  | 0 => 1000
  | k + 1 => if 0 < a.getD k 0 then min (tmsK a b k) (b.getD k 0 / a.getD k 0) else tmsK a b k
def tms (a b : List Int) : Int := tmsK a b a.length
theorem div_bnd {x y : Int} (hx : 0 ≤ x ∧ x ≤ 1000) (hy : 0 < y) : 0 ≤ x / y ∧ x / y ≤ 1000 ∧ x / y * y ≤ x := by
  have h1 : 0 ≤ x / y := Int.ediv_nonneg hx.1 (by omega)
  have h2 : x / y ≤ x := Int.ediv_le_self _ hx.1
  have h3 : x / y * y ≤ x := Int.ediv_mul_le _ (by omega)
  exact ⟨h1, by omega, h3⟩
theorem tmsK_le {a b : List Int} (hl : a.length ≤ b.length) {i : Nat} (hi : i < a.length) (h : 0 < a[i]) : ∀ k, k ≤ a.length → i < k → tmsK a b k ≤ b[i] / a[i]
  | 0, _, q => absurd q (by omega)
  | k + 1, hk, q => by
    rw [tmsK, getD_get (by omega : k < a.length), getD_get (by omega : k < b.length)]
    by_cases e : i = k
    · subst e; rw [if_pos h]; omega
    · have ih := tmsK_le hl hi h k (by omega) (by omega)
      split <;> omega
structure TmOk (a b : List Int) : Prop where
  l : a.length = b.length
  n : a.length ≤ 1000000
  a : ∀ x ∈ a, 0 ≤ x ∧ x ≤ 1000
  b : ∀ x ∈ b, 0 ≤ x ∧ x ≤ 1000



structure FcOk (s : System) (t : State) (q : List Int × List (List Int)) : Prop where
  o : q.1.length = s.rules.length
  r : q.2.length = t.bags.length
  b : ∀ b ∈ q.2, (b.length : Int) = s.kinds ∧ ∀ x ∈ b, 0 ≤ x ∧ x ≤ 1000
end Go.Proofs.Ytahjliejgjjfeaa

/-
  Packings: how many there are; the reference's side. No condition.
-/
namespace Go.Proofs.Ytahjliejgjjfeaa
open Go.AI
set_option maxRecDepth 8000
set_option maxHeartbeats 1600000

def sumN (f : Nat → Nat) : Nat → Nat
  | 0 => 0
  | k + 1 => sumN f k + f k
/-- None of the parts is within a rest. -/
def fullP (parts : List (List Int)) (rest : List Int) : Prop := ∀ p ∈ parts, ¬ Within p rest
open Classical in
/-- The number of packings. -/
noncomputable def packN (parts : List (List Int)) : List (List Int) → List Int → Nat
  | [], rest => if fullP parts rest then 1 else 0
  | p :: ps, rest => sumN (fun n => packN parts ps (plusL rest p (0 - (n : Int)))) ((tms p rest).toNat + 1)
/-- A bag of so many kinds; one that is not empty. -/
def Bgk (K : Nat) (b : List Int) : Prop := (b.length = K ∧ 1 ≤ K ∧ K ≤ 8) ∧ ∀ x ∈ b, 0 ≤ x ∧ x ≤ 1000
def Ptk (K : Nat) (b : List Int) : Prop := Bgk K b ∧ ¬ tot b = 0
theorem Ptk.left {K : Nat} {a b : List Int} (ha : Ptk K a) (hb : Bgk K b) {n : Int} (h0 : 0 ≤ n) (hn : n ≤ tms a b) : Bgk K (plusL b a (0 - n)) := by
  have hl := ha.1.1.1
  have hl2 := hb.1.1
  refine ⟨⟨by unfold plusL; rw [List.length_zipWith]; omega, hb.1.2⟩, fun x hx => ?_⟩
  unfold plusL at hx
  obtain ⟨i, hi, rfl⟩ := List.getElem_of_mem hx
  rw [List.length_zipWith] at hi
  rw [List.getElem_zipWith]
  have h1 := ha.1.2 _ (List.getElem_mem (n := i) (by omega))
  have h2 := hb.2 _ (List.getElem_mem (n := i) (by omega))
  by_cases q : 0 < a[i]'(by omega)
  · have h4 := tmsK_le (b := b) (by omega) (by omega : i < a.length) q a.length (Nat.le_refl _) (by omega)
    have h5 := div_bnd h2 q
    have h6 : a[i]'(by omega) * n ≤ b[i]'(by omega) := by
      have : n ≤ b[i]'(by omega) / a[i]'(by omega) := Int.le_trans hn h4
      have h7 := Int.mul_le_mul_of_nonneg_left this h1.1
      have h8 := h5.2.2
      rw [Int.mul_comm] at h8
      omega
    have h7 : 0 ≤ a[i]'(by omega) * n := Int.mul_nonneg h1.1 h0
    rw [Int.mul_sub, Int.mul_zero]
    omega
  · have e : a[i]'(by omega) = 0 := by omega
    rw [e, Int.zero_mul]; omega
theorem Ptk.fits {K : Nat} {a b : List Int} (ha : Ptk K a) (hb : Bgk K b) {n : Int} (h0 : 0 ≤ n) (hn : n ≤ 1000) : Fits b a (0 - n) := by
  have hl := ha.1.1
  have hl2 := hb.1.1
  refine ⟨by omega, by omega, fun x hx => by have := hb.2 x hx; omega, fun y hy => ?_⟩
  have := neg_mul_bnd (ha.1.2 y hy) ⟨h0, hn⟩
  omega
theorem o_l00Own (l : List Int) (hn : l.length ≤ 1000000) : Does Try.prog 115 [.sl (l.map Go.AI.encI)] [] (fun v h1 => ∃ b cap, v = .os b l.length cap ∧ h1 = [⟨b, 2, cap * 1, (l.map Go.AI.encI).flatten⟩]) := by
  refine fn_of_runD tyOk ztOk mix Try.func115 rfl (by decide) Try.ntmps115 (fun w0 F => ?_)
  change Run _ _ _ _ _ F
  repeat' (first
      | (refine j_go ?_; first
        | refine j_op0 rfl rfl rfl rfl ?_ | (refine j_kBsl rfl ?_; first | refine j_bs0 rfl rfl rfl rfl rfl rfl ?_))
      | refine j_nil ?_
      | (refine r_go ?_; first | refine run_seq ?_ | refine run_region ?_)
      | refine seqQ_normal ?_)
  refine j_append0 (g := Go.AI.encI) l rfl rfl rfl rfl rfl rfl rfl rfl (fun _ => rfl) (fun _ _ => rfl) ⟨by omega, by omega⟩ rfl rfl (fun b' cap' => ?_)
  repeat' (first
      | (refine j_go ?_; first
        | refine j_op0 rfl rfl rfl rfl ?_)
      | refine j_nil ?_
      | (refine r_go ?_; first | refine run_ret ?_)
      | refine seqQ_normal ?_)
  exact endD_ret (h1 := [_]) rfl (.cons (.tmp rfl) .nil) (Le.refl _) ⟨b', cap', rfl, rfl⟩ (.inl rfl)

end Go.Proofs.Ytahjliejgjjfeaa

/-
  Weights of a passing system that are drawn. No condition.
-/
namespace Go.Proofs.Ytahjliejgjjfeaa
open Go.AI
set_option maxRecDepth 8000
set_option maxHeartbeats 1600000
section
variable {C : Cx} {n : Nat} {Q : Exit → Env → Heap → Prop} {e : Env} {h : Heap}

theorem j_some {l os : List Oper} (i : Nat) {b : Option Nat} {T room : Nat} {cs : List A} (hi : h[i]? = some ⟨b, T, room, cs⟩) (hne : cs ≠ []) (hr : ∀ b', b = some b' → J false C n l os Q e h) : J false C n l os Q e h := by
  unfold J at *
  intro a w hc
  cases b with
  | some b' => exact hr b' rfl a w hc
  | none =>
    have := hc.heap.blk _ (List.mem_of_getElem? hi)
    exact absurd this.1 hne
end
def tlA (q : Option Nat × Nat × List Int) : A := .os q.1 q.2.2.length q.2.1
abbrev tlH (q : Option Nat × Nat × List Int) : Blk := lsB q.1 q.2.1 q.2.2
/-- Weights that are drawn: a row for each cell and one for the surroundings. -/
def Wts (p : Passing) (L : List (List Int)) : Prop := L.length = p.parents.length + 1 ∧ ∀ l ∈ L, (l.length : Int) = p.kinds ∧ ∀ x ∈ l, -4 ≤ x ∧ x ≤ 4
def WtsR (p : Passing) : A → Heap → Prop := fun v h' => ∃ (L : List (List Int)) (b : Option Nat) (cap : Nat), Wts p L ∧ v = .os b L.length cap ∧ h' = [clB b cap (L.map slA)]
theorem o_P6Weights (code : List UInt8) (p : Passing) (hv : PasSm p) : Does Try.prog 47 [.sl (code.map encY), .agg (encPassing p)] [] (WtsR p) := by
  refine fn_of_runD tyOk ztOk mix Try.func47 rfl (by decide) Try.ntmps47 (fun w0 F => ?_)
  change Run _ _ _ _ _ F
  obtain ⟨hp1, hp2, hp3, hp4, hp5⟩ := hv
  have hf := hp1.1
  have hkin := hf.1
  have hfl := hf.2.2.2.1
  repeat' (first
      | (refine j_go ?_; first
        | refine j_op0 rfl rfl rfl rfl ?_ | refine j_box rfl rfl rfl rfl rfl rfl ?_)
      | refine j_nil ?_
      | (refine r_go ?_; first | refine run_seq ?_ | refine run_region ?_)
      | refine seqQ_normal ?_)
  refine j_kCall rfl rfl rfl rfl ?_
  refine jcp F (o_from code) (List.Perm.refl _) (LeL.refl _) rfl rfl (fun v h1 hR => ?_)
  obtain ⟨s, rfl, rfl⟩ := hR
  repeat' (first
      | (refine j_go ?_; first
        | refine j_op0 rfl rfl rfl rfl ?_ | (refine j_kBsl rfl ?_; first | refine j_bs0 rfl rfl rfl rfl rfl rfl ?_))
      | refine j_nil ?_
      | (refine r_go ?_; first | refine run_seq ?_ | refine run_region ?_ | refine run_block ?_)
      | refine seqQ_normal ?_)
  refine run_view (view_none 25 (0 * 1) rfl) ?_
  refine run_view (view_none 2 (0 * 1) rfl) ?_
  refine run_view (view_perm (List.perm_middle (l₁ := [_, _]))) ?_
  refine run_loop (fun x : Nat × List Int × Option Nat × Nat × Nat × Int => [(3, .ip (encPassing p)), (5, .op (some s) 0), (6, .os none 0 0), (7, .os x.2.2.1 x.2.1.length x.2.2.2.1), (8, .int (x.1 : Int))])
    (fun x => srcB s code x.2.2.2.2.1 x.2.2.2.2.2 :: lsB x.2.2.1 x.2.2.2.1 x.2.1 :: clB none 0 [] :: F)
    (fun x => (x.1 : Int) ≤ p.kinds ∧ x.2.1.length = x.1 ∧ (∀ y ∈ x.2.1, -2 ≤ y ∧ y ≤ 2) ∧ x.2.2.2.2.1 ≤ 2 * x.1) (fun x => p.kinds.toNat - x.1) (0, [], none, 0, 0, 0) ⟨rfl, rfl, rfl, rfl, rfl, trivial⟩ rfl ⟨by dsimp only; omega, rfl, by simp, by dsimp only; omega⟩ (fun ⟨k, l, b, cap, a, sd⟩ ⟨kl, hl, hy, hA⟩ => ?_)
  dsimp only at kl hl hy hA ⊢
  by_cases hk : (k : Int) < p.kinds
  case pos =>
    have hkf : k < p.free.length := by omega
    repeat' (first
      | (refine j_go ?_; first
        | refine j_op0 rfl rfl rfl rfl ?_)
      | refine j_nil ?_
      | (refine r_go ?_; first | refine run_seq ?_ | refine run_region ?_ | (refine (run_if rfl (fun hb => ?_) (fun hb => ?_)) <;> first | (exfalso; omega) | skip) | refine run_block ?_ | refine run_skip ?_)
      | refine seqQ_normal ?_)
    refine j_kCall rfl rfl rfl rfl ?_
    refine jcp (_ :: _ :: F) (o_pick s code a sd 5 (by omega) (by omega)) (List.Perm.refl _) (LeL.refl _) rfl rfl (fun v h1 hR => ?_)
    obtain ⟨r3, a3, sd3, rfl, hr3, ha3, rfl⟩ := hR
    repeat' (first
      | (refine j_go ?_; first
        | (refine j_kBin rfl ?_; first | refine j_in rfl rfl ⟨by omega, by omega⟩ rfl rfl ?_) | (refine j_kBsl rfl ?_; first | refine j_bsl rfl rfl rfl rfl rfl rfl rfl rfl rfl rfl rfl ?_)))
    refine j_append 1 (g := Go.AI.encI) (ys := l) [r3 - 2] rfl rfl rfl rfl rfl rfl rfl rfl rfl rfl rfl rfl (fun _ => rfl) (fun _ _ => rfl) ⟨by simp only [List.length_cons, List.length_nil]; omega, by simp only [List.length_cons, List.length_nil]; omega⟩ rfl rfl (fun b' cap' => ?_)
    have ln : (l ++ [r3 - 2]).length = l.length + 1 := by rw [List.length_append]; rfl
    have hy2 : ∀ y ∈ l ++ [r3 - 2], -2 ≤ y ∧ y ≤ 2 := fun y h => by
      rcases List.mem_append.1 h with h | h
      · exact hy y h
      · rw [List.mem_singleton] at h; omega
    repeat' (first
      | (refine j_go ?_; first
        | refine j_op0 rfl rfl rfl rfl ?_ | (refine j_kIdx rfl ?_; first | refine j_idx rfl rfl rfl rfl rfl (by omega) rfl rfl rfl ?_) | (refine j_kBin rfl ?_; first | refine j_in rfl rfl ⟨by omega, by omega⟩ rfl rfl ?_))
      | refine j_nil ?_
      | (refine r_go ?_; first | refine run_seq ?_ | refine run_region ?_ | refine run_skip ?_ | refine run_cond rfl (fun hb => ?_) (fun hb => ?_))
      | refine seqQ_normal ?_ | refine blockQ_normal ?_)
    · refine j_some 1 rfl (fun q => by have := flat_len (f := Go.AI.encI) (z := 1) (fun _ => rfl) (l ++ [r3 - 2]); rw [q] at this; simp at this) (fun bq hbq => ?_)
      subst hbq
      repeat' (first
      | (refine j_go ?_; first
        | (refine j_kIdx rfl ?_; first | refine j_midx rfl rfl rfl rfl rfl (by first | omega | (simp only [List.length_append, List.length_cons, List.length_nil]; omega)) rfl rfl ?_)))
      refine j_storeE 1 k (g := Go.AI.encI) (L := l ++ [r3 - 2]) (sz := 1) (0 : Int) rfl rfl rfl rfl rfl rfl rfl rfl rfl (fun _ => rfl) (by omega) (by omega) ?_
      repeat' (first
      | (refine j_go ?_; first
        | refine j_op0 rfl rfl rfl rfl ?_ | (refine j_kBin rfl ?_; first | refine j_in rfl rfl ⟨by omega, by omega⟩ rfl rfl ?_))
      | refine j_nil ?_
      | (refine r_go ?_; first | refine run_region ?_)
      | refine seqQ_normal ?_ | refine blockQ_normal ?_)
      exact loopQ_next (k + 1, (l ++ [r3 - 2]).set k 0, some bq, cap', a3, sd3) ⟨by dsimp only; omega, by dsimp only; rw [List.length_set]; omega, fun y h => by
        rcases List.mem_or_eq_of_mem_set h with q | q
        · exact hy2 y q
        · subst q; omega, by dsimp only; omega⟩ (by dsimp only; omega) rfl ⟨rfl, rfl, rfl, by dsimp only; rw [List.length_set]; rfl, nx _, trivial⟩
    · exact loopQ_next (k + 1, l ++ [r3 - 2], b', cap', a3, sd3) ⟨by dsimp only; omega, by dsimp only; omega, hy2, by dsimp only; omega⟩ (by dsimp only; omega) rfl ⟨rfl, rfl, rfl, rfl, nx _, trivial⟩
  have hke : (k : Int) = p.kinds := by omega
  repeat' (first
      | (refine j_go ?_; first
        | refine j_op0 rfl rfl rfl rfl ?_)
      | refine j_nil ?_
      | (refine r_go ?_; first | refine run_seq ?_ | refine run_region ?_ | (refine (run_if rfl (fun hb => ?_) (fun hb => ?_)) <;> first | (exfalso; omega) | skip) | refine run_block ?_ | refine run_exit ?_)
      | refine seqQ_normal ?_ | refine seqQ_exit ?_ | refine blockQ_eq ?_ | refine loopQ_exit ?_)
  refine run_view (view_freeze 1 7 (ys := l) (g := Go.AI.encI) (z := 1) rfl rfl rfl (fun _ => rfl) rfl rfl) ?_
  refine run_loop (fun x : Nat × List A × List (List Int) × List (Option Nat × Nat × List Int) × Option Nat × Nat × Nat × Int => [(3, .ip (encPassing p)), (5, .op (some s) 0), (6, .os x.2.2.2.2.1 x.2.1.length x.2.2.2.2.2.1), (7, .sl (l.map Go.AI.encI)), (9, .int (x.1 : Int))])
    (fun x => srcB s code x.2.2.2.2.2.2.1 x.2.2.2.2.2.2.2 :: clB x.2.2.2.2.1 x.2.2.2.2.2.1 x.2.1 :: (x.2.2.2.1.map tlH ++ F))
    (fun x => x.1 ≤ p.parents.length + 1 ∧ x.2.1 = x.2.2.1.map slA ++ x.2.2.2.1.map tlA ∧ x.2.2.1.length + x.2.2.2.1.length = x.1 ∧ (x.1 ≤ p.parents.length → x.2.2.2.1 = []) ∧ (x.1 = p.parents.length + 1 → ∃ q, x.2.2.2.1 = [q] ∧ (q.2.2.length : Int) = p.kinds ∧ ∀ y ∈ q.2.2, -4 ≤ y ∧ y ≤ 4) ∧ (∀ c ∈ x.2.2.1, (c.length : Int) = p.kinds ∧ ∀ y ∈ c, -4 ≤ y ∧ y ≤ 4) ∧ x.2.2.2.2.2.2.1 ≤ 10 + 4 * x.1) (fun x => p.parents.length + 1 - x.1) (0, [], [], [], none, 0, a, sd) ⟨rfl, rfl, rfl, rfl, rfl, trivial⟩ rfl ⟨Nat.zero_le _, rfl, rfl, fun _ => rfl, fun q => by dsimp only at q; omega, by simp, by dsimp only; omega⟩ (fun ⟨k, vs, L, tl, b, cap, a, sd⟩ ⟨kl, hv, hc, ht0, ht1, hx, hA2⟩ => ?_)
  dsimp only at kl hv hc ht0 ht1 hx hA2 ⊢
  by_cases hk : k ≤ p.parents.length
  case pos =>
    obtain rfl := ht0 hk
    rw [List.map_nil, List.append_nil] at hv
    rw [List.length_nil, Nat.add_zero] at hc
    have hvl : vs.length = k := by rw [hv, List.length_map, hc]
    repeat' (first
      | (refine j_go ?_; first
        | refine j_op0 rfl rfl rfl rfl ?_ | (refine j_kLen rfl ?_; first | refine j_len rfl rfl rfl rfl rfl rfl ?_))
      | refine j_nil ?_
      | (refine r_go ?_; first | refine run_seq ?_ | refine run_region ?_ | (refine (run_if rfl (fun hb => ?_) (fun hb => ?_)) <;> first | (exfalso; omega) | skip) | refine run_block ?_ | refine run_skip ?_)
      | refine seqQ_normal ?_)
    refine j_kCall rfl rfl rfl rfl ?_
    refine jcp (_ :: _ :: F) (o_l00Own l (by omega)) (List.Perm.refl _) (LeL.refl _) rfl rfl (fun v h1 hR => ?_)
    obtain ⟨br, cr, rfl, rfl⟩ := hR
    refine j_some 0 rfl (fun q => by have := flat_len (f := Go.AI.encI) (z := 1) (fun _ => rfl) l; rw [q] at this; simp at this; omega) (fun bq hbq => ?_)
    subst hbq
    repeat' (first
      | (refine j_go ?_; first
        | refine j_op0 rfl rfl rfl rfl ?_)
      | refine j_nil ?_
      | (refine r_go ?_; first | refine run_seq ?_ | refine run_region ?_)
      | refine seqQ_normal ?_)
    refine j_kCall rfl rfl rfl rfl ?_
    refine jcp (_ :: _ :: F) (o_one s code a sd 6 (by omega) (by omega)) (List.Perm.swap _ _ _) (LeL.refl _) rfl rfl (fun v h1 hR => ?_)
    obtain ⟨bo, a3, sd3, rfl, ha3, rfl⟩ := hR
    repeat' (first
      | (refine j_go ?_; first
        | refine j_op0 rfl rfl rfl rfl ?_ | (refine j_kLen rfl ?_; first | refine j_op rfl rfl rfl rfl ?_) | (refine j_kBsl rfl ?_; first | refine j_bsl rfl rfl rfl rfl rfl rfl rfl rfl rfl rfl rfl ?_))
      | refine j_nil ?_
      | (refine r_go ?_; first | refine run_region ?_ | refine run_skip ?_ | refine run_cond rfl (fun hb => ?_) (fun hb => ?_))
      | refine seqQ_normal ?_)
    · refine j_kCall rfl rfl rfl rfl ?_
      refine jcp (_ :: _ :: F) (o_pick s code a3 sd3 l.length (by omega) (by omega)) (List.Perm.refl _) (LeL.refl _) rfl rfl (fun v h1 hR => ?_)
      obtain ⟨r4, a4, sd4, rfl, hr4, ha4, rfl⟩ := hR
      have hr5 : r4.toNat < l.length := by omega
      have hg := hy _ (List.getElem_mem hr5)
      repeat' (first
      | (refine j_go ?_; first
        | (refine j_kIdx rfl ?_; first | refine j_midxz rfl rfl rfl rfl rfl (by first | omega | (simp only [List.length_append, List.length_cons, List.length_nil]; omega)) rfl rfl ?_)))
      refine j_mloadE 1 r4.toNat (g := Go.AI.encI) (L := l) (z := 1) rfl rfl rfl rfl (fun _ => rfl) (by omega) (by omega) (fun _ => rfl) rfl rfl ?_
      repeat' (first
      | (refine j_go ?_; first
        | (refine j_kIdx rfl ?_; first | refine j_midxz rfl rfl rfl rfl rfl (by first | omega | (simp only [List.length_append, List.length_cons, List.length_nil]; omega)) rfl rfl ?_) | (refine j_kBin rfl ?_; first | refine j_in rfl rfl ⟨by omega, by omega⟩ rfl rfl ?_)))
      refine j_storeE 1 r4.toNat (g := Go.AI.encI) (l[r4.toNat] + 1) rfl rfl rfl rfl rfl rfl rfl rfl rfl (fun _ => rfl) (by omega) (by omega) ?_
      have hrl : (l.set r4.toNat (l[r4.toNat] + 1)).length = l.length := List.length_set
      have hry : ∀ y ∈ l.set r4.toNat (l[r4.toNat] + 1), -4 ≤ y ∧ y ≤ 4 := fun y h => by
        rcases List.mem_or_eq_of_mem_set h with q | q
        · have := hy y q; omega
        · subst q; omega
      have haa : a4 ≤ 10 + 4 * (k + 1) := by omega
      repeat' (first
      | (refine j_go ?_; first
        | refine j_op0 rfl rfl rfl rfl ?_ | (refine j_kBsl rfl ?_; first | refine j_bsl rfl rfl rfl rfl rfl rfl rfl rfl rfl rfl rfl ?_))
      | refine j_nil ?_
      | (refine r_go ?_; first | refine run_region ?_)
      | refine seqQ_normal ?_)
      refine j_append 2 (g := fun a => [a]) (ys := vs) [A.os (some bq) l.length cr] rfl rfl rfl rfl rfl rfl rfl rfl rfl rfl rfl rfl (fun _ => rfl) (fun _ hy => by simp only [List.mem_singleton] at hy; subst hy; rfl) ⟨by simp only [List.length_cons, List.length_nil]; omega, by simp only [List.length_cons, List.length_nil]; omega⟩ rfl rfl (fun b' cap' => ?_)
      repeat' (first
      | (refine j_go ?_; first
        | refine j_op0 rfl rfl rfl rfl ?_ | (refine j_kBin rfl ?_; first | refine j_in rfl rfl ⟨by omega, by omega⟩ rfl rfl ?_))
      | refine j_nil ?_
      | (refine r_go ?_; first | refine run_region ?_)
      | refine seqQ_normal ?_ | refine blockQ_normal ?_)
      by_cases hkn : k = p.parents.length
      · exact loopQ_view (view_perm (List.Perm.cons _ (List.Perm.swap _ _ _))) (loopQ_next (k + 1, vs ++ [A.os (some bq) l.length cr], L, [(some bq, cr, l.set r4.toNat (l[r4.toNat] + 1))], b', cap', a4, sd4) ⟨by dsimp only; omega, by dsimp only; rw [hv]; show _ = _ ++ [A.os (some bq) _ cr]; rw [hrl], by dsimp only; rw [hc]; rfl, fun q => by dsimp only at q; omega, fun _ => ⟨_, rfl, by dsimp only; omega, hry⟩, hx, haa⟩ (by dsimp only; omega) rfl ⟨rfl, rfl, rfl, rfl, nx _, trivial⟩)
      · have e1 : (vs ++ [A.os (some bq) l.length cr]).length = (vs ++ [slA (l.set r4.toNat (l[r4.toNat] + 1))]).length := by simp
        refine loopQ_view (view_cellF (k := vs.length) (b := b') (h1 := [lsB (some bq) cr (l.set r4.toNat (l[r4.toNat] + 1))]) (F := _ :: F) rev3 (get_last vs _) (FrzF.flat (g := Go.AI.encI) (ys := l.set r4.toNat (l[r4.toNat] + 1)) (z := 1) hrl.symm rfl (fun _ => rfl) rfl rfl)) ?_
        refine loopQ_view (view_perm (List.Perm.swap _ _ _)) ?_
        rw [show A.sl ((l.set r4.toNat (l[r4.toNat] + 1)).map Go.AI.encI) = slA (l.set r4.toNat (l[r4.toNat] + 1)) from rfl, set_last, e1]
        exact loopQ_next (k + 1, vs ++ [slA (l.set r4.toNat (l[r4.toNat] + 1))], L ++ [l.set r4.toNat (l[r4.toNat] + 1)], [], b', cap', a4, sd4) ⟨by dsimp only; omega, by dsimp only; rw [hv, List.map_append]; simp, by dsimp only; rw [List.length_append, hc]; rfl, fun _ => rfl, fun q => by dsimp only at q; omega, fun c h => by
          rcases List.mem_append.1 h with h | h
          · exact hx c h
          · rw [List.mem_singleton] at h; subst h; exact ⟨by omega, hry⟩, haa⟩ (by dsimp only; omega) rfl ⟨rfl, rfl, rfl, rfl, nx _, trivial⟩
    · have hrl : l.length = l.length := rfl
      have hry : ∀ y ∈ l, -4 ≤ y ∧ y ≤ 4 := fun y h => by have := hy y h; omega
      have haa : a3 ≤ 10 + 4 * (k + 1) := by omega
      skip
      refine j_append 2 (g := fun a => [a]) (ys := vs) [A.os (some bq) l.length cr] rfl rfl rfl rfl rfl rfl rfl rfl rfl rfl rfl rfl (fun _ => rfl) (fun _ hy => by simp only [List.mem_singleton] at hy; subst hy; rfl) ⟨by simp only [List.length_cons, List.length_nil]; omega, by simp only [List.length_cons, List.length_nil]; omega⟩ rfl rfl (fun b' cap' => ?_)
      repeat' (first
      | (refine j_go ?_; first
        | refine j_op0 rfl rfl rfl rfl ?_ | (refine j_kBin rfl ?_; first | refine j_in rfl rfl ⟨by omega, by omega⟩ rfl rfl ?_))
      | refine j_nil ?_
      | (refine r_go ?_; first | refine run_region ?_)
      | refine seqQ_normal ?_ | refine blockQ_normal ?_)
      by_cases hkn : k = p.parents.length
      · exact loopQ_view (view_perm (List.Perm.cons _ (List.Perm.swap _ _ _))) (loopQ_next (k + 1, vs ++ [A.os (some bq) l.length cr], L, [(some bq, cr, l)], b', cap', a3, sd3) ⟨by dsimp only; omega, by dsimp only; rw [hv]; show _ = _ ++ [A.os (some bq) _ cr]; rw [hrl], by dsimp only; rw [hc]; rfl, fun q => by dsimp only at q; omega, fun _ => ⟨_, rfl, by dsimp only; omega, hry⟩, hx, haa⟩ (by dsimp only; omega) rfl ⟨rfl, rfl, rfl, rfl, nx _, trivial⟩)
      · have e1 : (vs ++ [A.os (some bq) l.length cr]).length = (vs ++ [slA (l)]).length := by simp
        refine loopQ_view (view_cellF (k := vs.length) (b := b') (h1 := [lsB (some bq) cr (l)]) (F := _ :: F) rev3 (get_last vs _) (FrzF.flat (g := Go.AI.encI) (ys := l) (z := 1) hrl.symm rfl (fun _ => rfl) rfl rfl)) ?_
        refine loopQ_view (view_perm (List.Perm.swap _ _ _)) ?_
        rw [show A.sl ((l).map Go.AI.encI) = slA (l) from rfl, set_last, e1]
        exact loopQ_next (k + 1, vs ++ [slA (l)], L ++ [l], [], b', cap', a3, sd3) ⟨by dsimp only; omega, by dsimp only; rw [hv, List.map_append]; simp, by dsimp only; rw [List.length_append, hc]; rfl, fun _ => rfl, fun q => by dsimp only at q; omega, fun c h => by
          rcases List.mem_append.1 h with h | h
          · exact hx c h
          · rw [List.mem_singleton] at h; subst h; exact ⟨by omega, hry⟩, haa⟩ (by dsimp only; omega) rfl ⟨rfl, rfl, rfl, rfl, nx _, trivial⟩
  obtain rfl : k = p.parents.length + 1 := by omega
  obtain ⟨⟨bl, cl, row⟩, rfl, hrw, hry⟩ := ht1 rfl
  dsimp only at hrw hry
  have hvl : vs.length = p.parents.length + 1 := by rw [hv, List.length_append, List.length_map, List.length_map]; exact hc
  have hL : L.length = p.parents.length := by simp only [List.length_cons, List.length_nil] at hc; omega
  have hvg : vs[p.parents.length]'(by omega) = .os bl row.length cl := by
    subst hv
    rw [List.getElem_append_right (by rw [List.length_map]; omega)]
    simp [hL, tlA]
  refine run_some 1 rfl (fun q => by have := flat_len (f := fun a : A => [a]) (z := 1) (fun _ => rfl) vs; rw [q] at this; simp at this; omega) (fun bq hbq => ?_)
  subst hbq
  change Run _ _ _ _ _ (_ :: _ :: lsB bl cl row :: F)
  refine run_some 2 rfl (fun q => by have := flat_len (f := Go.AI.encI) (z := 1) (fun _ => rfl) row; rw [q] at this; simp at this; omega) (fun bw hbw => ?_)
  subst hbw
  repeat' (first
      | (refine j_go ?_; first
        | refine j_op0 rfl rfl rfl rfl ?_ | (refine j_kIdx rfl ?_; first | refine j_midxz rfl rfl rfl rfl rfl (by first | omega | (simp only [List.length_append, List.length_cons, List.length_nil]; omega)) rfl rfl ?_) | (refine j_kBin rfl ?_; first | refine j_in rfl rfl ⟨by omega, by omega⟩ rfl rfl ?_) | (refine j_kLen rfl ?_; first | refine j_len rfl rfl rfl rfl rfl rfl ?_ | refine j_op rfl rfl rfl rfl ?_))
      | refine j_nil ?_
      | (refine r_go ?_; first | refine run_seq ?_ | refine run_region ?_ | (refine (run_if rfl (fun hb => ?_) (fun hb => ?_)) <;> first | (exfalso; omega) | skip) | refine run_exit ?_)
      | refine seqQ_normal ?_ | refine seqQ_exit ?_ | refine blockQ_eq ?_ | refine loopQ_exit ?_)
  refine j_mloadE 1 p.parents.length (g := fun a => [a]) (L := vs) (z := 1) rfl rfl rfl rfl (fun _ => rfl) (by omega) (by omega) (fun _ => rfl) rfl rfl ?_
  rw [hvg]
  repeat' (first
      | (refine j_go ?_; first
        | refine j_op0 rfl rfl rfl rfl ?_)
      | refine j_nil ?_
      | (refine r_go ?_; first | refine run_seq ?_ | refine run_region ?_ | refine run_block ?_)
      | refine seqQ_normal ?_)
  refine run_loop (fun x : Nat × List Int => [(3, .ip (encPassing p)), (6, .os (some bq) vs.length cap), (11, .os (some bw) row.length cl), (12, .int (x.1 : Int))])
    (fun x => srcB s code a sd :: clB (some bq) cap vs :: lsB (some bw) cl x.2 :: F)
    (fun x => x.1 ≤ row.length ∧ x.2.length = row.length ∧ ∀ y ∈ x.2, -4 ≤ y ∧ y ≤ 4) (fun x => row.length - x.1) (0, row) ⟨rfl, rfl, rfl, rfl, trivial⟩ rfl ⟨Nat.zero_le _, rfl, hry⟩ (fun ⟨k, r⟩ ⟨kl, hrl, hy2⟩ => ?_)
  dsimp only at kl hrl hy2 ⊢
  by_cases hk : k < row.length
  case pos =>
    have hkf : k < p.free.length := by omega
    repeat' (first
      | (refine j_go ?_; first
        | refine j_op0 rfl rfl rfl rfl ?_ | (refine j_kIdx rfl ?_; first | refine j_idx rfl rfl rfl rfl rfl (by omega) rfl rfl rfl ?_ | refine j_midx rfl rfl rfl rfl rfl (by first | omega | (simp only [List.length_append, List.length_cons, List.length_nil]; omega)) rfl rfl ?_) | (refine j_kBin rfl ?_; first | refine j_in rfl rfl ⟨by omega, by omega⟩ rfl rfl ?_) | (refine j_kLen rfl ?_; first | refine j_op rfl rfl rfl rfl ?_))
      | refine j_nil ?_
      | (refine r_go ?_; first | refine run_seq ?_ | refine run_region ?_ | (refine (run_if rfl (fun hb => ?_) (fun hb => ?_)) <;> first | (exfalso; omega) | skip) | refine run_block ?_ | refine run_skip ?_ | refine run_cond rfl (fun hb => ?_) (fun hb => ?_))
      | refine seqQ_normal ?_ | refine blockQ_normal ?_)
    · refine j_storeE 2 k (g := Go.AI.encI) (L := r) (sz := 1) (0 : Int) rfl rfl rfl rfl rfl rfl rfl rfl rfl (fun _ => rfl) (by omega) (by omega) ?_
      repeat' (first
      | (refine j_go ?_; first
        | refine j_op0 rfl rfl rfl rfl ?_ | (refine j_kBin rfl ?_; first | refine j_in rfl rfl ⟨by omega, by omega⟩ rfl rfl ?_))
      | refine j_nil ?_
      | (refine r_go ?_; first | refine run_region ?_)
      | refine seqQ_normal ?_ | refine blockQ_normal ?_)
      exact loopQ_next (k + 1, r.set k 0) ⟨by dsimp only; omega, by dsimp only; rw [List.length_set]; exact hrl, fun y h => by
        rcases List.mem_or_eq_of_mem_set h with q | q
        · exact hy2 y q
        · subst q; omega⟩ (by dsimp only; omega) rfl ⟨rfl, rfl, rfl, nx _, trivial⟩
    · exact loopQ_next (k + 1, r) ⟨by dsimp only; omega, hrl, hy2⟩ (by dsimp only; omega) rfl ⟨rfl, rfl, rfl, nx _, trivial⟩
  repeat' (first
      | (refine j_go ?_; first
        | refine j_op0 rfl rfl rfl rfl ?_ | (refine j_kLen rfl ?_; first | refine j_op rfl rfl rfl rfl ?_))
      | refine j_nil ?_
      | (refine r_go ?_; first | refine run_seq ?_ | refine run_region ?_ | (refine (run_if rfl (fun hb => ?_) (fun hb => ?_)) <;> first | (exfalso; omega) | skip) | refine run_ret ?_ | refine run_exit ?_)
      | refine seqQ_normal ?_ | refine seqQ_exit ?_ | refine blockQ_eq ?_ | refine loopQ_exit ?_)
  have hv2 : vs = L.map slA ++ [A.os (some bw) row.length cl] := hv
  have hvl2 : vs.length = (L ++ [r]).length := by rw [hvl, List.length_append, hL]; rfl
  refine endD_view (view_cellF (k := p.parents.length) (b := some bq) (h1 := [lsB (some bw) cl r]) (F := srcB s code a sd :: F) ((List.Perm.swap _ _ _).trans (List.Perm.cons _ (List.Perm.swap _ _ _))) (by rw [hv2, ← hL]; have := get_last (L.map slA) (A.os (some bw) row.length cl); rw [List.length_map] at this; exact this) (FrzF.flat (g := Go.AI.encI) (ys := r) (z := 1) hrl.symm rfl (fun _ => rfl) rfl rfl)) ?_
  refine endD_view (view_sub ((List.sublist_cons_self _ _).cons_cons _)) ?_
  have e2 : (vs.map (fun a => [a])).flatten.set p.parents.length (.sl (r.map Go.AI.encI)) = (((L ++ [r]).map slA).map (fun a => [a])).flatten := by
    rw [hv2, ← hL, show (L ++ [r]).map slA = L.map slA ++ [slA r] from List.map_append]
    have := set_last (L.map slA) (A.os (some bw) row.length cl) (slA r)
    rw [List.length_map] at this
    exact this
  rw [e2, hvl2]
  exact endD_ret (h1 := [_]) rfl (.cons (.tmp rfl) .nil) (Le.refl _) ⟨L ++ [r], some bq, cap, ⟨by rw [List.length_append, hL]; rfl, fun c h => by
    rcases List.mem_append.1 h with h | h
    · exact hx c h
    · rw [List.mem_singleton] at h; subst h; exact ⟨by omega, hy2⟩⟩, rfl, rfl⟩ (.inl rfl)
end Go.Proofs.Ytahjliejgjjfeaa
