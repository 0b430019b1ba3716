/-
  The source of choices: what it draws, within bounds. No condition.
-/
import Derived.Test.YtmcljepicadjfaaGreatDoorZJO
import Derived.Test.YtmcljepicadjfaaGreatDoorZE4
import Derived.Test.YtmcljepicadjfaaGreatDoorZG6
import Derived.Test.YtmcljepicadjfaaGreatDoorZRd
import Derived.Test.YtmcljepicadjfaaGreatDoorZPS9
import Derived.Test.YtmcljepicadjfaaGreatDoorZRf
namespace Go.Proofs.YtmcljepicadjfaaGreatDoor
open Go.AI
set_option maxRecDepth 8000
set_option maxHeartbeats 1600000

def encY (c : UInt8) : List A := [.u8 c]
/-- The source's memory. -/
abbrev srcB (s : Nat) (code : List UInt8) (at_ : Nat) (sd : Int) : Blk := ⟨some s, 116, 3, [.sl (code.map encY), .int (at_ : Int), .raw (.int .u64 sd)]⟩
/-- What a draw hands back, and leaves. -/
def DrawR (s : Nat) (code : List UInt8) (lim : Nat) (p : Int → Prop) : A → Heap → Prop := fun v h' => ∃ r at2 sd, v = .int r ∧ p r ∧ at2 ≤ lim ∧ h' = [srcB s code at2 sd]
theorem o_next (s : Nat) (code : List UInt8) (at_ : Nat) (sd : Int) (ha : at_ ≤ 1000000000) : Does Tryz.prog 104 [.op (some s) 0] [srcB s code at_ sd] (DrawR s code (at_ + 1) (fun r => 0 ≤ r ∧ r ≤ 255)) := by
  refine fn_of_runD tyOk ztOk mix Tryz.func104 rfl (by decide) Tryz.ntmps104 (fun w0 F => ?_)
  change Run _ _ _ _ _ (_ :: F)
  repeat' (first
      | (refine j_go ?_; first
        | refine j_op0 rfl rfl rfl rfl ?_ | (refine j_kIdx rfl ?_; first | refine j_idx rfl rfl rfl rfl rfl (by omega) rfl rfl rfl ?_) | (refine j_kBin rfl ?_; first | refine j_in rfl rfl ⟨by omega, by omega⟩ rfl rfl ?_) | (refine j_kLen rfl ?_; first | refine j_len rfl rfl rfl rfl rfl rfl ?_) | (refine j_kLoad rfl ?_; first | refine j_mload 0 rfl rfl rfl rfl rfl rfl rfl ?_) | (refine j_kStore rfl ?_; first | refine j_store 0 rfl rfl rfl rfl rfl rfl rfl rfl rfl rfl rfl ?_))
      | refine j_nil ?_
      | (refine r_go ?_; first | refine run_seq ?_ | refine run_region ?_ | (refine (run_if rfl (fun hb => ?_) (fun hb => ?_)) <;> first | (exfalso; omega) | skip) | refine run_skip ?_ | refine run_regionD (by kernel_rfl) ?_)
      | refine seqQ_normal ?_)
  · have ha2 : at_ < code.length := by omega
    have hc := UInt8.toNat_lt code[at_]
    skip
    refine j_u64mul rfl rfl rfl rfl rfl rfl ?_
    repeat' (first
      | (refine j_go ?_; first
        | refine j_op0 rfl rfl rfl rfl ?_ | refine j_conv rfl rfl rfl rfl rfl (wrap_u64 (by omega) (by omega)) rfl rfl ?_))
    refine j_u64add rfl rfl rfl rfl rfl rfl ?_
    skip
    refine j_u64add rfl rfl rfl rfl rfl rfl ?_
    repeat' (first
      | (refine j_go ?_; first
        | refine j_op0 rfl rfl rfl rfl ?_ | (refine j_kLen rfl ?_; first | refine j_len rfl rfl rfl rfl rfl rfl ?_) | (refine j_kLoad rfl ?_; first | refine j_mload 0 rfl rfl rfl rfl rfl rfl rfl ?_) | (refine j_kStore rfl ?_; first | refine j_store 0 rfl rfl rfl rfl rfl rfl rfl rfl rfl rfl rfl ?_))
      | refine j_nil ?_
      | (refine r_go ?_; first | refine run_seq ?_ | refine run_region ?_ | (refine (run_if rfl (fun hb => ?_) (fun hb => ?_)) <;> first | (exfalso; omega) | skip) | refine run_ret ?_ | refine run_regionD (by kernel_rfl) ?_)
      | refine seqQ_normal ?_ | refine seqQ_ret ?_)
    exact endD_ret (h1 := [_]) rfl (.cons (.tmp rfl) .nil) (Le.refl _) ⟨_, at_ + 1, _, rfl, ⟨by omega, by omega⟩, Nat.le_refl _, rfl⟩ (.inl rfl)
  · skip
    refine j_u64mul rfl rfl rfl rfl rfl rfl ?_
    repeat' (first
      | (refine j_go ?_; first
        | refine j_op0 rfl rfl rfl rfl ?_ | refine j_conv rfl rfl rfl rfl rfl (wrap_u64 (by omega) (by omega)) rfl rfl ?_))
    refine j_u64add rfl rfl rfl rfl rfl rfl ?_
    skip
    refine j_u64add rfl rfl rfl rfl rfl rfl ?_
    repeat' (first
      | (refine j_go ?_; first
        | refine j_op0 rfl rfl rfl rfl ?_ | (refine j_kLen rfl ?_; first | refine j_len rfl rfl rfl rfl rfl rfl ?_) | (refine j_kLoad rfl ?_; first | refine j_mload 0 rfl rfl rfl rfl rfl rfl rfl ?_) | (refine j_kStore rfl ?_; first | refine j_store 0 rfl rfl rfl rfl rfl rfl rfl rfl rfl rfl rfl ?_))
      | refine j_nil ?_
      | (refine r_go ?_; first | refine run_seq ?_ | refine run_region ?_ | (refine (run_if rfl (fun hb => ?_) (fun hb => ?_)) <;> first | (exfalso; omega) | skip) | refine run_skip ?_ | refine run_regionD (by kernel_rfl) ?_)
      | refine seqQ_normal ?_)
    refine j_u64shr (k := 40) (kk := .u64) rfl rfl rfl (by first | exact .inr rfl | exact .inl rfl) (by omega) rfl rfl ?_
    skip
    refine j_u64and rfl rfl rfl rfl rfl rfl (fun c hc => ?_)
    skip
    refine j_u2i rfl rfl rfl rfl rfl hc rfl rfl ?_
    repeat' (first
      | (refine j_go ?_; first
        | refine j_op0 rfl rfl rfl rfl ?_)
      | refine j_nil ?_
      | (refine r_go ?_; first | refine run_ret ?_)
      | refine seqQ_normal ?_)
    exact endD_ret (h1 := [_]) rfl (.cons (.tmp rfl) .nil) (Le.refl _) ⟨c, at_ + 1, _, rfl, hc, Nat.le_refl _, rfl⟩ (.inl rfl)
theorem DrawR.lim {s : Nat} {code : List UInt8} {l l' : Nat} {p q : Int → Prop} (hl : l ≤ l') (hp : ∀ r, p r → q r) : ∀ v h', DrawR s code l p v h' → DrawR s code l' q v h' := fun _ _ ⟨r, a, sd, h1, h2, h3, h4⟩ => ⟨r, a, sd, h1, hp r h2, Nat.le_trans h3 hl, h4⟩
theorem o_pick (s : Nat) (code : List UInt8) (at_ : Nat) (sd m : Int) (ha : at_ ≤ 1000000) (hm : m ≤ 100000) : Does Tryz.prog 81 [.op (some s) 0, .int m] [srcB s code at_ sd] (DrawR s code (at_ + 2) (fun r => 0 ≤ r ∧ (r < m ∨ r = 0 ∧ m ≤ 1))) := by
  refine fn_of_runD tyOk ztOk mix Tryz.func81 rfl (by decide) Tryz.ntmps81 (fun w0 F => ?_)
  change Run _ _ _ _ _ (_ :: F)
  repeat' (first
      | (refine j_go ?_; first
        | refine j_op0 rfl rfl rfl rfl ?_)
      | refine j_nil ?_
      | (refine r_go ?_; first | refine run_seq ?_ | refine run_region ?_ | (refine (run_if rfl (fun hb => ?_) (fun hb => ?_)) <;> first | (exfalso; omega) | skip) | refine run_ret ?_ | refine run_skip ?_)
      | refine seqQ_normal ?_ | refine seqQ_ret ?_)
  · exact endD_ret (h1 := [_]) rfl (.cons (.tmp rfl) .nil) (Le.refl _) ⟨0, at_, sd, rfl, ⟨by omega, by omega⟩, by omega, rfl⟩ (.inl rfl)
  refine j_kCall rfl rfl rfl rfl ?_
  refine jcp F (o_next s code at_ sd (by omega)) (List.Perm.refl _) (LeL.refl _) rfl rfl (fun v h1 hR => ?_)
  obtain ⟨r, a1, sd1, rfl, hr, ha1, rfl⟩ := hR
  repeat' (first
      | (refine j_go ?_; first
        | refine j_op0 rfl rfl rfl rfl ?_ | (refine j_kBin rfl ?_; first | refine j_in rfl rfl ⟨by omega, by omega⟩ rfl rfl ?_ | refine j_rem rfl rfl rfl rfl (by omega) rfl rfl ?_))
      | refine j_nil ?_
      | (refine r_go ?_; first | refine run_seq ?_ | refine run_region ?_ | (refine (run_if rfl (fun hb => ?_) (fun hb => ?_)) <;> first | (exfalso; omega) | skip) | refine run_ret ?_ | refine run_skip ?_)
      | refine seqQ_normal ?_)
  · refine j_kCall rfl rfl rfl rfl ?_
    refine jcp F (o_next s code a1 sd1 (by omega)) (List.Perm.refl _) (LeL.refl _) rfl rfl (fun v h1 hR => ?_)
    obtain ⟨r2, a2, sd2, rfl, hr2, ha2, rfl⟩ := hR
    repeat' (first
      | (refine j_go ?_; first
        | refine j_op0 rfl rfl rfl rfl ?_ | (refine j_kBin rfl ?_; first | refine j_in rfl rfl ⟨by omega, by omega⟩ rfl rfl ?_ | refine j_rem rfl rfl rfl rfl (by omega) rfl rfl ?_))
      | refine j_nil ?_
      | (refine r_go ?_; first | refine run_seq ?_ | refine run_region ?_ | refine run_ret ?_)
      | refine seqQ_normal ?_)
    have q1 := Int.emod_nonneg (r * 256 + r2) (b := m) (by omega)
    have q2 := Int.emod_lt_of_pos (r * 256 + r2) (b := m) (by omega)
    exact endD_ret (h1 := [_]) rfl (.cons (.tmp rfl) .nil) (Le.refl _) ⟨_, a2, sd2, rfl, ⟨q1, .inl q2⟩, by omega, rfl⟩ (.inl rfl)
  · have q1 := Int.emod_nonneg r (b := m) (by omega)
    have q2 := Int.emod_lt_of_pos r (b := m) (by omega)
    exact endD_ret (h1 := [_]) rfl (.cons (.tmp rfl) .nil) (Le.refl _) ⟨_, a1, sd1, rfl, ⟨q1, .inl q2⟩, by omega, rfl⟩ (.inl rfl)
theorem o_one (s : Nat) (code : List UInt8) (at_ : Nat) (sd m : Int) (ha : at_ ≤ 1000000) (hm : m ≤ 100000) : Does Tryz.prog 82 [.op (some s) 0, .int m] [srcB s code at_ sd] (fun v h' => ∃ b at2 sd2, v = .raw (.bool b) ∧ at2 ≤ at_ + 2 ∧ h' = [srcB s code at2 sd2]) := by
  refine fn_of_runD tyOk ztOk mix Tryz.func82 rfl (by decide) Tryz.ntmps82 (fun w0 F => ?_)
  change Run _ _ _ _ _ (_ :: F)
  repeat' (first
      | (refine j_go ?_; first
        | refine j_op0 rfl rfl rfl rfl ?_)
      | refine j_nil ?_
      | (refine r_go ?_; first | refine run_seq ?_ | refine run_region ?_)
      | refine seqQ_normal ?_)
  refine j_kCall rfl rfl rfl rfl ?_
  refine jcp F (o_pick s code at_ sd m ha hm) (List.Perm.refl _) (LeL.refl _) rfl rfl (fun v h1 hR => ?_)
  obtain ⟨r, a1, sd1, rfl, hr, ha1, rfl⟩ := hR
  repeat' (first
      | (refine j_go ?_; first
        | refine j_op0 rfl rfl rfl rfl ?_)
      | refine j_nil ?_
      | (refine r_go ?_; first | refine run_ret ?_)
      | refine seqQ_normal ?_)
  exact endD_ret (h1 := [_]) rfl (.cons (.tmp rfl) .nil) (Le.refl _) ⟨_, a1, sd1, rfl, ha1, rfl⟩ (.inl rfl)
theorem o_from (code : List UInt8) : Does Tryz.prog 26 [.sl (code.map encY)] [] (fun v h' => ∃ s, v = .op (some s) 0 ∧ h' = [srcB s code 0 0]) := by
  refine fn_of_runD tyOk ztOk mix Tryz.func26 rfl (by decide) Tryz.ntmps26 (fun w0 F => ?_)
  change Run _ _ _ _ _ F
  repeat' (first
      | (refine j_go ?_; first
        | refine j_op0 rfl rfl rfl rfl ?_ | refine j_build rfl rfl rfl rfl rfl rfl rfl ?_)
      | refine j_nil ?_
      | (refine r_go ?_; first | refine run_seq ?_ | refine run_region ?_)
      | refine seqQ_normal ?_)
  refine j_boxM rfl rfl rfl rfl rfl rfl (fun b1 => ?_)
  repeat' (first
      | (refine j_go ?_; first
        | refine j_op0 rfl rfl rfl rfl ?_)
      | refine j_nil ?_
      | (refine r_go ?_; first | refine run_ret ?_)
      | refine seqQ_normal ?_)
  exact endD_ret (h1 := [_]) rfl (.cons (.tmp rfl) .nil) (Le.refl _) ⟨b1, rfl, rfl⟩ (.inl rfl)
/-- A bag that is drawn, in memory of its own, and the source behind it. -/
def ObjR (s : Nat) (code : List UInt8) (lim : Nat) (kinds most : Int) : A → Heap → Prop := fun v h' => ∃ (l : List Int) (b : Option Nat) (cap at2 : Nat) (sd : Int), v = .os b l.length cap ∧ (l.length : Int) = kinds ∧ (∀ x ∈ l, 0 ≤ x ∧ x ≤ most) ∧ at2 ≤ lim ∧ h' = [⟨b, 2, cap * 1, (l.map Go.AI.encI).flatten⟩, srcB s code at2 sd]
theorem o_l06Objects (s : Nat) (code : List UInt8) (at_ : Nat) (sd kinds most : Int) (ha : at_ ≤ 100000) (hk : 1 ≤ kinds ∧ kinds ≤ 8) (hm : 0 ≤ most ∧ most ≤ 4) : Does Tryz.prog 28 [.op (some s) 0, .int kinds, .int most] [srcB s code at_ sd] (ObjR s code (at_ + 10) kinds most) := by
  refine fn_of_runD tyOk ztOk mix Tryz.func28 rfl (by decide) Tryz.ntmps28 (fun w0 F => ?_)
  change Run _ _ _ _ _ (_ :: F)
  obtain ⟨K, rfl⟩ : ∃ K : Nat, kinds = (K : Int) := ⟨kinds.toNat, by omega⟩
  repeat' (first
      | (refine j_go ?_; first
        | refine j_op0 rfl rfl rfl rfl ?_)
      | refine j_nil ?_
      | (refine r_go ?_; first | refine run_seq ?_ | refine run_region ?_)
      | refine seqQ_normal ?_)
  refine j_makeI (g := Go.AI.encI) (m := K) 0 rfl rfl rfl rfl rfl rfl rfl rfl rfl (by omega) rfl rfl (fun bz => ?_)
  repeat' (first
      | (refine j_go ?_; first
        | refine j_op0 rfl rfl rfl rfl ?_ | (refine j_kBin rfl ?_; first | refine j_in rfl rfl ⟨by omega, by omega⟩ rfl rfl ?_))
      | refine j_nil ?_
      | (refine r_go ?_; first | refine run_seq ?_ | refine run_region ?_)
      | refine seqQ_normal ?_)
  refine j_kCall rfl rfl rfl rfl ?_
  refine jcp (_ :: F) (o_pick s code at_ sd (most + 1) (by omega) (by omega)) (List.Perm.swap _ _ _) (LeL.refl _) rfl rfl (fun v h1 hR => ?_)
  obtain ⟨r, a1, sd1, rfl, hr, ha1, rfl⟩ := hR
  repeat' (first
      | (refine j_go ?_; first
        | refine j_op0 rfl rfl rfl rfl ?_)
      | refine j_nil ?_
      | (refine r_go ?_; first | refine run_block ?_)
      | refine seqQ_normal ?_)
  refine run_loop (fun x : Int × List Int × Nat × Int => [(0, .op (some s) 0), (1, .int (K : Int)), (7, .os (some bz) K K), (8, .int x.1)]) (fun x => srcB s code x.2.2.1 x.2.2.2 :: ⟨some bz, 2, K * 1, (x.2.1.map Go.AI.encI).flatten⟩ :: F)
    (fun x => (0 ≤ x.1 ∧ x.1 ≤ most) ∧ x.2.1.length = K ∧ (∀ y ∈ x.2.1, 0 ≤ y ∧ y ≤ most - x.1) ∧ (x.2.2.1 : Int) ≤ at_ + 2 + 2 * (most - x.1)) (fun x => x.1.toNat) (r, List.replicate K 0, a1, sd1) ⟨rfl, rfl, rfl, rfl, trivial⟩ rfl ⟨by omega, List.length_replicate, fun y hy => by rw [List.eq_of_mem_replicate hy]; omega, by dsimp only; omega⟩ (fun ⟨i, l, a, sd⟩ ⟨hi, hl, hy, hA⟩ => ?_)
  dsimp only at hi hl hy hA ⊢
  by_cases h0 : 0 < i
  case pos =>
    repeat' (first
      | (refine j_go ?_; first
        | refine j_op0 rfl rfl rfl rfl ?_)
      | refine j_nil ?_
      | (refine r_go ?_; first | refine run_seq ?_ | refine run_region ?_ | (refine (run_if rfl (fun hb => ?_) (fun hb => ?_)) <;> first | (exfalso; omega) | skip) | refine run_block ?_ | refine run_skip ?_)
      | refine seqQ_normal ?_)
    refine j_kCall rfl rfl rfl rfl ?_
    refine jcp (_ :: F) (o_pick s code a sd K (by omega) (by omega)) (List.Perm.refl _) (LeL.refl _) rfl rfl (fun v h1 hR => ?_)
    obtain ⟨r2, a2, sd2, rfl, hr2, ha2, rfl⟩ := hR
    repeat' (first
      | (refine j_go ?_; first
        | (refine j_kIdx rfl ?_; first | refine j_midxz rfl rfl rfl rfl rfl (by first | omega | (simp only [List.length_append, List.length_cons, List.length_nil]; omega)) rfl rfl ?_)))
    have hr3 : r2.toNat < l.length := by omega
    have hg := hy _ (List.getElem_mem hr3)
    refine j_mloadE 1 r2.toNat (g := Go.AI.encI) (L := l) (z := 1) rfl rfl rfl rfl (fun _ => rfl) (by omega) (by omega) (fun _ => rfl) rfl rfl ?_
    repeat' (first
      | (refine j_go ?_; first
        | (refine j_kIdx rfl ?_; first | refine j_midxz rfl rfl rfl rfl rfl (by first | omega | (simp only [List.length_append, List.length_cons, List.length_nil]; omega)) rfl rfl ?_) | (refine j_kBin rfl ?_; first | refine j_in rfl rfl ⟨by omega, by omega⟩ rfl rfl ?_)))
    refine j_storeE 1 r2.toNat (g := Go.AI.encI) (l[r2.toNat] + 1) rfl rfl rfl rfl rfl rfl rfl rfl rfl (fun _ => rfl) (by omega) (by omega) ?_
    repeat' (first
      | (refine j_go ?_; first
        | refine j_op0 rfl rfl rfl rfl ?_ | (refine j_kBin rfl ?_; first | refine j_in rfl rfl ⟨by omega, by omega⟩ rfl rfl ?_))
      | refine j_nil ?_
      | (refine r_go ?_; first | refine run_region ?_)
      | refine seqQ_normal ?_ | refine blockQ_normal ?_)
    exact loopQ_next (i - 1, l.set r2.toNat (l[r2.toNat] + 1), a2, sd2) ⟨by dsimp only; omega, by dsimp only; rw [List.length_set]; exact hl, fun y h => by
      dsimp only at h ⊢
      rcases List.mem_or_eq_of_mem_set h with q | q
      · have := hy y q; omega
      · subst q; omega, by dsimp only; omega⟩ (by dsimp only; omega) rfl ⟨rfl, rfl, rfl, rfl, trivial⟩
  obtain rfl : i = 0 := by omega
  repeat' (first
      | (refine j_go ?_; first
        | refine j_op0 rfl rfl rfl rfl ?_)
      | refine j_nil ?_
      | (refine r_go ?_; first | refine run_seq ?_ | refine run_region ?_ | (refine (run_if rfl (fun hb => ?_) (fun hb => ?_)) <;> first | (exfalso; omega) | skip) | refine run_ret ?_ | refine run_exit ?_)
      | refine seqQ_normal ?_ | refine seqQ_exit ?_ | refine blockQ_eq ?_ | refine loopQ_exit ?_)
  refine endD_view (view_perm (List.Perm.swap _ _ _)) ?_
  exact endD_ret (h1 := [_, _]) rfl (.cons (.tmp rfl) .nil) (Le.refl _) ⟨l, some bz, K, a, sd, by rw [hl]; rfl, by omega, fun y h => by have := hy y h; omega, by omega, rfl⟩ (.inl rfl)
end Go.Proofs.YtmcljepicadjfaaGreatDoor

/-
  Sorting short lists of the call's own. No condition but that the list has at most twelve elements.
-/
namespace Go.Proofs.YtmcljepicadjfaaGreatDoor
open Go.AI
set_option maxRecDepth 8000
set_option maxHeartbeats 1600000


end Go.Proofs.YtmcljepicadjfaaGreatDoor

/-
  The possible parents of a cell: what the reference and the program compute. No condition.
-/
namespace Go.Proofs.YtmcljepicadjfaaGreatDoor
open Go.AI
set_option maxRecDepth 8000
set_option maxHeartbeats 1600000

/-- A cell has a rule that melts it. -/
def Melts (s : System) (c : Int) : Prop := ∃ r ∈ s.rules, r.cell = c ∧ r.melts = true
open Classical in
/-- The cells that can be around a cell, from p on. -/
noncomputable def chainF (s : System) : Nat → Int → List Int
  | 0, _ => []
  | n + 1, p => if 0 ≤ p then p :: (if Melts s p then chainF s n (s.parents.getD p.toNat (-1)) else []) else []
noncomputable def pars (s : System) (c : Int) : List Int := chainF s 7 (s.parents.getD c.toNat (-1))
end Go.Proofs.YtmcljepicadjfaaGreatDoor

/-
  The gains of a rule: what the reference and the program compute. No condition.
-/
namespace Go.Proofs.YtmcljepicadjfaaGreatDoor
open Go.AI
set_option maxRecDepth 8000
set_option maxHeartbeats 1600000

open Classical in
noncomputable def places (s : System) (r : Rule) : List Int := if r.cell = 0 then [(s.parents.length : Int)] else (pars s r.cell).reverse
end Go.Proofs.YtmcljepicadjfaaGreatDoor

/-
  Gains and what holds of all of them: what the program computes. No condition.
-/
namespace Go.Proofs.YtmcljepicadjfaaGreatDoor
open Go.AI
set_option maxRecDepth 8000
set_option maxHeartbeats 1600000


end Go.Proofs.YtmcljepicadjfaaGreatDoor

/-
  What a rule changes, in memory of the call's own: ChangeOf. No condition.
-/
namespace Go.Proofs.YtmcljepicadjfaaGreatDoor
open Go.AI
set_option maxRecDepth 8000
set_option maxHeartbeats 1600000

def addL (L : List (List Int)) (c : Nat) (b : List Int) (m : Int) : List (List Int) := L.set c (plusL (L.getD c []) b m)
theorem addL_get {L : List (List Int)} {c : Nat} (hc : c < L.length) (b : List Int) (m : Int) : addL L c b m = L.set c (plusL L[c] b m) := by unfold addL; rw [getD_get hc]
structure ChOk (s : System) (L : List (List Int)) (B : Int) : Prop where
  n : L.length = s.parents.length + 1
  b : ∀ x ∈ L, (x.length : Int) = s.kinds ∧ ∀ y ∈ x, -B ≤ y ∧ y ≤ B
theorem ChOk.add {s : System} {L : List (List Int)} {B : Int} (h : ChOk s L B) {c : Nat} (hc : c < L.length) {b : List Int} (hb : BagK s.kinds b) {m : Int} (hm : m = 1 ∨ m = -1) : ChOk s (addL L c b m) (B + 1000) := by
  rw [addL_get hc]
  refine ⟨by rw [List.length_set]; exact h.n, fun x hx => ?_⟩
  rcases List.mem_or_eq_of_mem_set hx with hx | rfl
  · have q := h.b x hx
    exact ⟨q.1, fun y hy => by have := q.2 y hy; omega⟩
  · have q := h.b _ (List.getElem_mem hc)
    have e := hb.2
    unfold plusL
    refine ⟨by rw [List.length_zipWith]; have := q.1; omega, fun y hy => ?_⟩
    obtain ⟨i, hi, rfl⟩ := List.getElem_of_mem hy
    rw [List.length_zipWith] at hi
    rw [List.getElem_zipWith]
    have h1 := q.2 _ (List.getElem_mem (n := i) (by omega))
    have h2 := hb.1.1 _ (List.getElem_mem (n := i) (by omega))
    rcases hm with rfl | rfl <;> omega
def toC (s : System) (t : State) (r : Rule) : Nat := if 0 ≤ pnow s t r.cell then (pnow s t r.cell).toNat else s.parents.length
def z0 (s : System) : List (List Int) := List.replicate (s.parents.length + 1) (List.replicate s.kinds.toNat 0)
def ch1 (s : System) (r : Rule) : List (List Int) := addL (z0 s) r.cell.toNat r.need (-1)
def ch2 (s : System) (r : Rule) : List (List Int) := addL (ch1 s r) r.cell.toNat r.here 1
def ch3 (s : System) (t : State) (r : Rule) : List (List Int) := addL (ch2 s r) (toC s t r) r.out 1
def chK (L : List (List Int)) (r : Rule) : Nat → List (List Int)
  | 0 => L
  | k + 1 => addL (chK L r k) (r.into.getD k default).cell.toNat (r.into.getD k default).bag 1
def chF (s : System) (t : State) (r : Rule) : List (List Int) := chK (ch3 s t r) r r.into.length
theorem z0_ok {s : System} (hk : 1 ≤ s.kinds ∧ s.kinds ≤ 8) : ChOk s (z0 s) 0 := by
  unfold z0
  refine ⟨by simp, fun x hx => ?_⟩
  rw [List.eq_of_mem_replicate hx]
  exact ⟨by rw [List.length_replicate]; omega, fun y hy => by rw [List.eq_of_mem_replicate hy]; omega⟩
theorem toC_lt {s : System} {t : State} {r : Rule} (hv : s.Ok) (hr : s.RuleOk r) : toC s t r < s.parents.length + 1 := by
  have := pnow_bnd (t := t) hv hr.1
  unfold toC
  split <;> omega
structure Chs (s : System) (t : State) (r : Rule) : Prop where
  k : 1 ≤ s.kinds ∧ s.kinds ≤ 8
  c : r.cell.toNat < s.parents.length + 1
  to : toC s t r < s.parents.length + 1
  o1 : ChOk s (ch1 s r) 1000
  o2 : ChOk s (ch2 s r) 2000
  o3 : ChOk s (ch3 s t r) 3000
theorem chs {s : System} {t : State} {r : Rule} (hv : s.Ok) (hr : s.RuleOk r) : Chs s t r := by
  have k8 := hv.1.1
  have h0 := hr.1
  have ht := toC_lt (t := t) hv hr
  obtain ⟨_, _, _, _, b1, _, _, b2, b3, _⟩ := hr
  have o0 := z0_ok k8
  have o1 : ChOk s (ch1 s r) 1000 := by
    exact o0.add (c := r.cell.toNat) (by have := o0.n; omega) b1 (.inr rfl)
  have o2 : ChOk s (ch2 s r) 2000 := o1.add (c := r.cell.toNat) (by have := o1.n; omega) b2 (.inl rfl)
  have o3 : ChOk s (ch3 s t r) 3000 := o2.add (c := toC s t r) (by have := o2.n; omega) b3 (.inl rfl)
  exact ⟨k8, by omega, ht, o1, o2, o3⟩
open Classical in
noncomputable def resChangeOf (s : System) (t : State) (i : Int) : List (List Int) := if s.Ok ∧ s.StateOk t ∧ (0 ≤ i ∧ i ≤ (s.rules.length : Int) - 1) ∧ EnP s t (s.rules.getD i.toNat default) then chF s t (s.rules.getD i.toNat default) else []
open Classical in
noncomputable def codeChangeOf (s : System) (t : State) (i : Int) : Int := if s.Ok ∧ s.StateOk t then if 0 ≤ i ∧ i ≤ (s.rules.length : Int) - 1 then if EnP s t (s.rules.getD i.toNat default) then 0 else 4 else 2 else 1
end Go.Proofs.YtmcljepicadjfaaGreatDoor

/-
  What rules of a passing system take and give: plain facts about lists of rows, one behind the other. No condition.
-/
namespace Go.Proofs.YtmcljepicadjfaaGreatDoor
open Go.AI
set_option maxRecDepth 8000
set_option maxHeartbeats 1600000

def val (L : List (List Int)) (i k : Nat) : Int := (L.getD i []).getD k 0
/-- So many rows, each of so many numbers that are bounded. -/
structure Sh (n K : Nat) (L : List (List Int)) (B : Int) : Prop where
  n : L.length = n
  b : ∀ x ∈ L, x.length = K ∧ ∀ y ∈ x, -B ≤ y ∧ y ≤ B
theorem Sh.mono {n K : Nat} {L : List (List Int)} {B B' : Int} (h : Sh n K L B) (hb : B ≤ B') : Sh n K L B' := ⟨h.n, fun x hx => ⟨(h.b x hx).1, fun y hy => by have := (h.b x hx).2 y hy; omega⟩⟩
theorem Sh.add {n K : Nat} {L : List (List Int)} {B M : Int} (h : Sh n K L B) (hM : 0 ≤ M) {c : Nat} {b : List Int} (hb : b.length = K) {t : Int} (hm : ∀ y ∈ b, -M ≤ y * t ∧ y * t ≤ M) : Sh n K (addL L c b t) (B + M) := by
  by_cases hc : c < L.length
  · rw [addL_get hc]
    refine ⟨by rw [List.length_set]; exact h.n, fun x hx => ?_⟩
    rcases List.mem_or_eq_of_mem_set hx with hx | rfl
    · exact (h.mono (by omega)).b x hx
    · have q := h.b _ (List.getElem_mem hc)
      unfold plusL
      refine ⟨by rw [List.length_zipWith]; have := q.1; omega, fun y hy => ?_⟩
      obtain ⟨i, hi, rfl⟩ := List.getElem_of_mem hy
      rw [List.length_zipWith] at hi
      rw [List.getElem_zipWith]
      have h1 := q.2 _ (List.getElem_mem (n := i) (by omega))
      have h2 := hm _ (List.getElem_mem (n := i) (by omega))
      omega
  · unfold addL; rw [List.set_eq_of_length_le (by omega)]; exact h.mono (by omega)
/-- All numbers of all rows are at least zero. -/
def Nn (L : List (List Int)) : Prop := ∀ x ∈ L, ∀ y ∈ x, 0 ≤ y
/-- The kinds of a bag that g names. -/
def only (g : Nat → Bool) (b : List Int) : List Int := b.mapIdx fun k x => if g k = true then x else 0
theorem only_len {g : Nat → Bool} {b : List Int} : (only g b).length = b.length := by simp [only]
theorem only_at {g : Nat → Bool} {b : List Int} {k : Nat} (hk : k < b.length) : (only g b).getD k 0 = if g k = true then b[k] else 0 := by rw [getD_get (by rw [only_len]; exact hk)]; simp [only]
def mixR (c u : Nat) (g : Nat → Bool) (a b : List Int) (t : Int) (L : List (List Int)) : List (List Int) := addL (addL L c a t) u (only g b) t
theorem mul_b {x t : Int} (hx : 0 ≤ x ∧ x ≤ 1000) (ht : -2000 ≤ t ∧ t ≤ 2000) : -2000000 ≤ x * t ∧ x * t ≤ 2000000 := by
  have h1 := Int.mul_le_mul_of_nonneg_left ht.1 hx.1
  have h2 := Int.mul_le_mul_of_nonneg_left ht.2 hx.1
  omega
def Bg (K : Nat) (b : List Int) : Prop := b.length = K ∧ ∀ y ∈ b, 0 ≤ y ∧ y ≤ 1000
theorem Bg.only {K : Nat} {b : List Int} (h : Bg K b) (g : Nat → Bool) : Bg K (only g b) := ⟨by rw [only_len]; exact h.1, fun y hy => by
  obtain ⟨k, hk, rfl⟩ := List.getElem_of_mem hy
  rw [only_len] at hk
  have := only_at (g := g) hk
  rw [getD_get (by rw [only_len]; exact hk)] at this
  rw [this]
  split
  · exact h.2 _ (List.getElem_mem _)
  · omega⟩
theorem Bg.mul {K : Nat} {b : List Int} (h : Bg K b) {t : Int} (ht : -2000 ≤ t ∧ t ≤ 2000) : ∀ y ∈ b, -2000000 ≤ y * t ∧ y * t ≤ 2000000 := fun y hy => mul_b (h.2 y hy) ht
theorem Sh.mix {n K : Nat} {L : List (List Int)} {B : Int} (h : Sh n K L B) {c u : Nat} {g : Nat → Bool} {a b : List Int} (ha : Bg K a) (hb : Bg K b) {t : Int} (ht : -2000 ≤ t ∧ t ≤ 2000) : Sh n K (mixR c u g a b t L) (B + 4000000) :=
  ((h.add (by omega) ha.1 (ha.mul ht)).add (by omega) (hb.only g).1 ((hb.only g).mul ht)).mono (by omega)
/-- The place of a cell's parent among all plc. -/
def Passing.up (p : Passing) (c : Int) : Nat := if c = 0 then p.parents.length else (p.parents.getD c.toNat 0).toNat
/-- Whether a kind passes between a cell and its parent. -/
def Passing.gk (p : Passing) (c : Int) (k : Nat) : Bool := if c = 0 then !(p.free.getD k false) else true
def Passing.tk (p : Passing) (r : PassRule) (t : Int) (L : List (List Int)) : List (List Int) := mixR r.cell.toNat (p.up r.cell) (p.gk r.cell) r.out r.in_ (0 - t) L
def Passing.gv (p : Passing) (r : PassRule) (t : Int) (L : List (List Int)) : List (List Int) := mixR r.cell.toNat (p.up r.cell) (p.gk r.cell) r.in_ r.out t L
def Passing.tks (p : Passing) (cs : List Int) (L : List (List Int)) : Nat → List (List Int)
  | 0 => L
  | k + 1 => p.tk (p.rules.getD k default) (cs.getD k 0) (p.tks cs L k)
def Passing.chs (p : Passing) (cs : List Int) (L : List (List Int)) : Nat → List (List Int)
  | 0 => L
  | k + 1 => p.gv (p.rules.getD k default) (cs.getD k 0) (p.tk (p.rules.getD k default) (cs.getD k 0) (p.chs cs L k))
def Passing.Cnts (p : Passing) (cs : List Int) : Prop := (∀ x ∈ cs, 0 ≤ x ∧ x ≤ 1000) ∧ (cs.length : Int) = p.rules.length
/-- .. numbers that a count may come to while it is tried. -/
def Passing.Cntw (p : Passing) (cs : List Int) : Prop := (∀ x ∈ cs, 0 ≤ x ∧ x ≤ 2000) ∧ (cs.length : Int) = p.rules.length
theorem Passing.Cnts.w {p : Passing} {cs : List Int} (h : p.Cnts cs) : p.Cntw cs := ⟨fun x hx => by have := h.1 x hx; omega, h.2⟩
/-- What a rule of a valid system has. -/
structure RuF (p : Passing) (r : PassRule) : Prop where
  c0 : 0 ≤ r.cell
  c : r.cell.toNat < p.parents.length
  u : p.up r.cell < p.parents.length + 1
  cu : r.cell.toNat ≠ p.up r.cell
  o : Bg p.kinds.toNat r.out
  i : Bg p.kinds.toNat r.in_
  o' : BagK p.kinds r.out
  i' : BagK p.kinds r.in_
theorem Passing.Frame.par {p : Passing} (h : p.Frame) {c : Int} (h0 : 0 < c) (hc : c.toNat < p.parents.length) : p.parents.getD c.toNat 0 = p.parents[c.toNat] ∧ 0 ≤ p.parents[c.toNat] ∧ p.parents[c.toNat] ≤ c - 1 := by
  have := h.2.2.2.2.2 c.toNat hc (by omega)
  exact ⟨getD_get hc, this.1, by omega⟩
theorem Sh.tk {p : Passing} {r : PassRule} (R : RuF p r) {n : Nat} {L : List (List Int)} {B : Int} (h : Sh n p.kinds.toNat L B) {t : Int} (ht : 0 ≤ t ∧ t ≤ 2000) : Sh n p.kinds.toNat (p.tk r t L) (B + 4000000) := h.mix R.o R.i (by omega)
theorem Sh.gv {p : Passing} {r : PassRule} (R : RuF p r) {n : Nat} {L : List (List Int)} {B : Int} (h : Sh n p.kinds.toNat L B) {t : Int} (ht : 0 ≤ t ∧ t ≤ 2000) : Sh n p.kinds.toNat (p.gv r t L) (B + 4000000) := h.mix R.i R.o (by omega)
/-- All places of a stock. -/
def plc (s : Stock) : List (List Int) := s.cells ++ [s.around]
end Go.Proofs.YtmcljepicadjfaaGreatDoor

/-
  A step of a passing system: what is taken and given, in memory of the call's own; the reference's side. No condition.
-/
namespace Go.Proofs.YtmcljepicadjfaaGreatDoor
open Go.AI
set_option maxRecDepth 8000
set_option maxHeartbeats 1600000

/-- The stock of all plc. -/
def stockOf (n : Nat) (L : List (List Int)) : Stock := ⟨L.take n, L.getD n []⟩
def Passing.left (p : Passing) (s : Stock) (cs : List Int) : List (List Int) := p.tks cs (plc s) p.rules.length
def Passing.after (p : Passing) (s : Stock) (cs : List Int) : Stock := stockOf p.parents.length (p.chs cs (plc s) p.rules.length)
open Classical in
noncomputable def resPassStep (p : Passing) (s : Stock) (cs : List Int) : Stock := if (p.Ok ∧ p.StockOk s) ∧ p.Cnts cs ∧ Nn (p.left s cs) ∧ p.StockOk (p.after s cs) then p.after s cs else ⟨[], []⟩
open Classical in
noncomputable def codePassStep (p : Passing) (s : Stock) (cs : List Int) : Int := if p.Ok then if p.StockOk s ∧ p.Cnts cs then if Nn (p.left s cs) then if p.StockOk (p.after s cs) then 0 else 3 else 4 else 2 else 1
/-! What is taken from a flat list, and given to it. -/
structure FlF (p : Passing) (r : PassRule) (K own up : Nat) (L : List (List Int)) : Prop where
  k : p.kinds = (K : Int)
  kt : p.kinds.toNat = K
  k8 : 1 ≤ K ∧ K ≤ 8
  o : r.cell.toNat * K = own
  oi : r.cell * p.kinds = (own : Int)
  u : p.up r.cell * K = up
  l : L.flatten.length = (p.parents.length + 1) * K
  ol : own + K ≤ L.flatten.length
  ul : up + K ≤ L.flatten.length
  d : own + K ≤ up ∨ up + K ≤ own
  b : L.flatten.length ≤ 40
end Go.Proofs.YtmcljepicadjfaaGreatDoor

/-
  A step of a passing system: the reference's side. No condition.
-/
namespace Go.Proofs.YtmcljepicadjfaaGreatDoor
open Go.AI
set_option maxRecDepth 8000
set_option maxHeartbeats 1600000


end Go.Proofs.YtmcljepicadjfaaGreatDoor

/-
  A step of a passing system: the reference's step. No condition.
-/
namespace Go.AI
open Go.RowKit
end Go.AI
namespace Go.Proofs.YtmcljepicadjfaaGreatDoor
open Go.AI
set_option maxRecDepth 8000
set_option maxHeartbeats 1600000

def STs (x : Stock) (c : Int) : A → Heap → Prop := fun v h' => ∃ b cap, v = .tup [.agg [.os b x.cells.length cap, .sl (x.around.map Go.AI.encI)], .int c] ∧ h' = [⟨b, 24, cap * 1, (x.cells.map (encS Go.AI.encI)).flatten⟩]
theorem STs.frz {x : Stock} {c : Int} {v : A} {h1 : Heap} (q : STs x c v h1) : FrzF h1 v (.tup [.agg (encStock x), .int c]) := by
  obtain ⟨b, cap, rfl, rfl⟩ := q
  refine FrzF.tup2 ?_ (Clo.int _)
  intro F w v ho r
  obtain ⟨vs, rfl, rl⟩ := r.agg_inv
  obtain ⟨v1, us1, rfl, r1, rl1⟩ := rl.uncons
  obtain ⟨v2, us2, rfl, r2, rl2⟩ := rl1.uncons
  have p1 := FrzF.flat (g := encS Go.AI.encI) (ys := x.cells) (z := 1) rfl rfl (fun _ => rfl) rfl rfl F w v1 ho r1
  have p2 := r2.heap (List.sublist_cons_self _ F)
  have q := RelL.cons p1 (RelL.cons p2 (show RelL (Im w F) w [] us2 from ⟨rl2.1, fun j hj => absurd hj (Nat.not_lt_zero _)⟩))
  exact .agg _ _ q.1 q.2
end Go.Proofs.YtmcljepicadjfaaGreatDoor
