/-
  Plain facts on lists of numbers: sums, counts. No condition.
-/
import Derived.Test.YtkfmjjoalkoncaaGreatZEnd
namespace Go.AI

/-- The sum of what f makes of the elements. -/
def sumF {α : Type} (f : α → Int) : List α → Int
  | [] => 0
  | x :: l => f x + sumF f l
theorem sumF_app {α : Type} (f : α → Int) (x : α) : ∀ l : List α, sumF f (l ++ [x]) = sumF f l + f x
  | [] => by simp [sumF]
  | y :: l => by
    have := sumF_app f x l
    simp only [List.cons_append, sumF, this]; omega
theorem sumF_succ {α : Type} (f : α → Int) {l : List α} {k : Nat} (h : k < l.length) : sumF f (l.take (k + 1)) = sumF f (l.take k) + f l[k] := by
  rw [List.take_succ_eq_append_getElem h, sumF_app]
theorem sumF_bnd {α : Type} (f : α → Int) {lo hi : Int} : ∀ (l : List α), (∀ x ∈ l, lo ≤ f x ∧ f x ≤ hi) → lo * l.length ≤ sumF f l ∧ sumF f l ≤ hi * l.length
  | [], _ => by simp [sumF]
  | x :: l, h => by
    have h1 := h x (by simp)
    have h2 := sumF_bnd f l (fun y hy => h y (by simp [hy]))
    have e : ∀ a : Int, a * ((x :: l).length : Int) = a * l.length + a := fun a => by
      rw [List.length_cons, Int.natCast_succ, Int.mul_add, Int.mul_one]
    rw [e, e, sumF]; omega
theorem sumF_take {α : Type} (f : α → Int) {lo hi : Int} (l : List α) (h : ∀ x ∈ l, lo ≤ f x ∧ f x ≤ hi) (k : Nat) (hk : k ≤ l.length) : lo * k ≤ sumF f (l.take k) ∧ sumF f (l.take k) ≤ hi * k := by
  have := sumF_bnd f (l.take k) (fun x hx => h x (List.mem_of_mem_take hx))
  rw [List.length_take, Nat.min_eq_left hk] at this; exact this
/-- The sum of numbers; how often a number is there. -/
def tot (l : List Int) : Int := sumF (fun x => x) l
def one (x y : Int) : Int := if y = x then 1 else 0
theorem one_bnd (x y : Int) : 0 ≤ one x y ∧ one x y ≤ 1 := by unfold one; split <;> omega
theorem one_t {x y : Int} (h : y = x) : one x y = 1 := by unfold one; rw [if_pos h]
theorem one_f {x y : Int} (h : ¬y = x) : one x y = 0 := by unfold one; rw [if_neg h]
/-- The place of the first element of which r is true; -1 if there is none. -/
noncomputable def fIdx {α : Type} (r : α → Prop) (l : List α) : Int := if l.findIdx (fun x => dec (r x)) < l.length then (l.findIdx (fun x => dec (r x)) : Int) else -1
theorem fIdx_at {α : Type} {r : α → Prop} {l : List α} {k : Nat} (h : k < l.length) (hr : r l[k]) (hn : ∀ i (hi : i < l.length), i < k → ¬ r l[i]) : fIdx r l = k := by
  have e : l.findIdx (fun x => dec (r x)) = k := by
    rw [List.findIdx_eq h]
    exact ⟨dec_t hr, fun j hj => dec_f (hn j (by omega) hj)⟩
  unfold fIdx; rw [e, if_pos h]
theorem fIdx_none {α : Type} {r : α → Prop} {l : List α} (hn : ∀ i (hi : i < l.length), ¬ r l[i]) : fIdx r l = -1 := by
  have e : l.findIdx (fun x => dec (r x)) = l.length := by
    rw [List.findIdx_eq_length]
    intro x hx
    obtain ⟨i, hi, rfl⟩ := List.getElem_of_mem hx
    exact dec_f (hn i hi)
  unfold fIdx; rw [e, if_neg (Nat.lt_irrefl _)]
theorem fIdx_ex {α : Type} (r : α → Prop) (l : List α) : 0 ≤ fIdx r l ↔ ∃ x ∈ l, r x := by
  constructor
  · intro h
    unfold fIdx at h
    split at h
    · rename_i hl
      have := List.findIdx_getElem (xs := l) (p := fun x => dec (r x)) (w := hl)
      exact ⟨_, List.getElem_mem hl, by
        by_cases hr : r l[l.findIdx (fun x => dec (r x))]
        · exact hr
        · rw [dec_f hr] at this; cases this⟩
    · omega
  · rintro ⟨x, hx, hr⟩
    have : l.findIdx (fun x => dec (r x)) < l.length := List.findIdx_lt_length_of_exists ⟨x, hx, dec_t hr⟩
    unfold fIdx; rw [if_pos this]; omega

/-- Bags: from one to eight numbers from 0 to 1000. -/
def Bag (b : List Int) : Prop := (∀ x ∈ b, 0 ≤ x ∧ x ≤ 1000) ∧ 1 ≤ b.length ∧ b.length ≤ 8
theorem Bag.take {b : List Int} (h : Bag b) (k : Nat) (hk : k ≤ b.length) : 0 ≤ sumF (fun x => x) (b.take k) ∧ sumF (fun x => x) (b.take k) ≤ 1000 * k := by
  have := sumF_take (fun x => x) b h.1 k hk
  simpa using this
open Classical in
/-- The code of a condition, and a number under it. -/
noncomputable def cdP (p : Prop) : Int := if p then 0 else 1
open Classical in
noncomputable def numP (p : Prop) (n : Int) : Int := if p then n else 0
theorem cd_t {p : Prop} (h : p) : cdP p = 0 := by unfold cdP; rw [if_pos h]
theorem cd_f {p : Prop} (h : ¬p) : cdP p = 1 := by unfold cdP; rw [if_neg h]
open Classical in
/-- The code of two conditions, one behind the other. -/
noncomputable def cd2 (p q : Prop) : Int := if p then (if q then 0 else 2) else 1
theorem cd2_f {p q : Prop} (h : ¬p) : cd2 p q = 1 := by unfold cd2; rw [if_neg h]
theorem cd2_t {p q : Prop} (h : p) (h2 : ¬q) : cd2 p q = 2 := by unfold cd2; rw [if_pos h, if_neg h2]
theorem cd2_z {p q : Prop} : cd2 p q = 0 ↔ p ∧ q := by
  unfold cd2
  constructor
  · intro h
    split at h
    · rename_i hp
      split at h
      · exact ⟨hp, by assumption⟩
      · cases h
    · cases h
  · intro ⟨h1, h2⟩; rw [if_pos h1, if_pos h2]
theorem cd2_o {p q : Prop} (h : p) (h2 : q) : cd2 p q = 0 := cd2_z.2 ⟨h, h2⟩

open Classical in
noncomputable def cd3 (p q r : Prop) : Int := if p then (if q then (if r then 0 else 4) else 2) else 1
theorem dec_congr {p q : Prop} (h : p ↔ q) : dec p = dec q := by rw [propext h]
/-- Lists whose sums stay within range. -/
def Small (b : List Int) : Prop := (∀ x ∈ b, -1000000000 ≤ x ∧ x ≤ 1000000000) ∧ b.length ≤ 1000000
theorem Bag.small {b : List Int} (h : Bag b) : Small b := ⟨fun x hx => by have := h.1 x hx; omega, by have := h.2; omega⟩
theorem Small.take {b : List Int} (h : Small b) (k : Nat) (hk : k ≤ b.length) : -1000000000 * k ≤ sumF (fun x => x) (b.take k) ∧ sumF (fun x => x) (b.take k) ≤ 1000000000 * k :=
  sumF_take (fun x => x) b h.1 k hk
end Go.AI

/-
  More rules of the walk: elements of lists of the call's own, the tail of a list. No condition.
-/
namespace Go.AI
open Go.RowKit

section
variable {C : Cx} {n : Nat} {Q : Exit → Env → Heap → Prop} {e : Env} {h h' : Heap} {d : Bool} {l os : List Oper} {o : Oper} {f : Fl} {fs : List Fl} {B : List (Nat × Blk)}
theorem drop_flat {α : Type} {g : α → List A} {z : Nat} (hz : ∀ y, (g y).length = z) : ∀ (L : List α) (m : Nat) (hm : m < L.length), (L.map g).flatten.drop (m * z) = g L[m] ++ ((L.drop (m + 1)).map g).flatten
  | [], m, hm => absurd hm (Nat.not_lt_zero _)
  | x :: L, 0, hm => by simp
  | x :: L, m + 1, hm => by
    have ih := drop_flat hz L m (by simpa using hm)
    simp only [List.map_cons, List.flatten_cons, List.drop_succ_cons, List.getElem_cons_succ]
    have e1 : (m + 1) * z = (g x).length + m * z := by rw [hz, Nat.succ_mul]; omega
    rw [e1, List.drop_length_add_append]; exact ih

/-- '.. = s[m]', s a list of the call's own. -/
theorem j_mloadE (i m : Nat) {α : Type} {g : α → List A} {L : List α} {z : Nat} {T b p T' room dd : Nat} {x : Operand} {v : A} (hw : wantE l e o = some true) (ho : o.op = .load T x) (hx : evO e x = some (.op (some b) p)) (hi : h[i]? = some ⟨some b, T', room, (L.map g).flatten⟩)
    (hz : ∀ y, (g y).length = z) (hp : p = m * z) (hm : m < L.length) (hv : ∀ rest, loadA C.ty T (g L[m] ++ rest) = some v) (hd : o.dst = some dd) (hn : Nat.blt dd n = true) (hj : J d C n l os Q ((dd, v) :: e) h) : J d C n l (o :: os) Q e h :=
  j_mload i hw ho hx hi (by rw [hp, drop_flat hz L m hm]; exact hv _) hd hn hj
theorem j_mloadEO (i m : Nat) {α : Type} {g : α → List A} {L : List α} {z : Nat} {T b p T' room dd : Nat} {x : Operand} {v : A} (ht : f.tight = true) (hw : wantE l e o = some true) (ho : o.op = .load T x) (hx : evO e x = some (.op (some b) p)) (hi : h[i]? = some ⟨some b, T', room, (L.map g).flatten⟩)
    (hz : ∀ y, (g y).length = z) (hp : p = m * z) (hm : m < L.length) (hv : ∀ rest, loadA C.ty T (g L[m] ++ rest) = some v) (hd : o.dst = some dd) (hn : Nat.blt dd n = true) (hj : JO fs B C n l os Q ((dd, v) :: e) h) : JO (f :: fs) B C n l (o :: os) Q e h :=
  j_mloadO i ht hw ho hx hi (by rw [hp, drop_flat hz L m hm]; exact hv _) hd hn hj
theorem buildA_quiet {T sz bytes ln E z : Nat} {zk : List ZK} {parts : Array (Nat × Operand)} {cs : List A} (ho : o.op = .build T parts) (hT : C.ty T = some ⟨sz, .arr ln E z⟩) (hz : C.zt T = some (zk, bytes))
    (hf : fillA e (fun i => some (i * z, z)) parts.toList (zk.map ZK.a) = some cs) : Quiet C.P o e h (.agg cs) := by
  apply Quiet.of_same
  intro a w hs
  have hops := hs.ops
  rw [ho] at hops
  have hti := C.ok _ _ hT
  simp only [TIok, Bool.and_eq_true] at hti
  obtain ⟨hu, hze⟩ := und_arr hti.2
  have hse := run_sizeOf hze w
  obtain ⟨z0, hz1, hz2⟩ := C.zok _ _ _ hz
  have hzr := run_zero hz1 w
  have hzrel : RelL (Im w h) w (zk.map ZK.a) (zk.map ZK.val) := ⟨by simp, fun j hj hj' => by simpa using ZK.rel _ _ _⟩
  obtain ⟨vs', q1, q2⟩ := fill_run (S := Im w h) (w := w) (a := a) (e := e) (place := fun i => some (i * z, z)) (place' := fun i => some (i * z, z)) (fun _ _ h => h) parts.toList _ cs (zk.map ZK.val) (fun p hp v hv => hops p.2 (by simp [Op.operands]; exact ⟨p.1, by simpa using hp⟩) v hv) hf hzrel
  refine ⟨.agg vs'.toArray, ?_, .agg cs vs' q2.1 q2.2⟩
  have hm : (parts.map fun p => (p.1, a.eval p.2)).toList = parts.toList.map fun p => (p.1, a.eval p.2) := by simp
  simp only [execOp, ho, Instr.build, Sem.run_bind, hzr, Result.andThen_ok, run_underlying hu, hse, hz2]
  rw [hm, q1]
  rfl
theorem j_buildA {T sz bytes ln E z dd : Nat} {zk : List ZK} {parts : Array (Nat × Operand)} {cs : List A} (hw : wantE l e o = some true) (ho : o.op = .build T parts) (hT : C.ty T = some ⟨sz, .arr ln E z⟩) (hz : C.zt T = some (zk, bytes))
    (hf : fillA e (fun i => some (i * z, z)) parts.toList (zk.map ZK.a) = some cs) (hd : o.dst = some dd) (hn : Nat.blt dd n = true) (hj : J d C n l os Q ((dd, .agg cs) :: e) h) : J d C n l (o :: os) Q e h := j_quiet hw (fun _ => buildA_quiet ho hT hz hf) hd hn hj
/-- 's[m:]'. -/
theorem j_tail (m : Nat) {α : Type} {g : α → List A} {ys : List α} {T E z sz dd : Nat} {x : Operand} {lo : Option Operand} (hw : wantE l e o = some true) (ho : o.op = .slice T x lo none none) (hT : C.ty T = some ⟨sz, .slice E z⟩) (hx : evO e x = some (.sl (ys.map g))) (hlo : bndO e 0 lo = some (.int (m : Int)))
    (hb : m ≤ ys.length) (hz : ∀ y, (g y).length = z) (hd : o.dst = some dd) (hn : Nat.blt dd n = true) (hj : J d C n l os Q ((dd, .sl ((ys.drop m).map g)) :: e) h) : J d C n l (o :: os) Q e h :=
  j_slice hw ho hT hx hlo (b := ((ys.map g).length : Int)) rfl (by rw [List.length_map]; omega) hz hd hn (by
    have e1 : ((((ys.map g).length : Nat) : Int)).toNat = ys.length := by rw [List.length_map]; omega
    have e2 : ((m : Int)).toNat = m := by omega
    rw [e1, e2, List.take_length]; exact hj)
end
end Go.AI

/-
  More rules of the walk: is a list nil? No condition.
-/
namespace Go.AI
open Go.RowKit

section
variable {C : Cx} {n : Nat} {Q : Exit → Env → Heap → Prop} {e : Env} {h h' : Heap} {d : Bool} {l os : List Oper} {o : Oper} {f : Fl} {fs : List Fl} {B : List (Nat × Blk)}
theorem slnil_quiet {t t2 sz E z : Nat} {x : Operand} {xs : List (List A)} (ho : o.op = .binOp .eql t x (.const (.slice none 0 0)) t2) (hT : C.ty t = some ⟨sz, .slice E z⟩) (hx : evO e x = some (.sl xs)) (hn : xs ≠ []) : Quiet C.P o e h (.raw (.bool false)) := by
  apply Quiet.of_same
  intro a w hst
  have hops := hst.ops
  rw [ho] at hops
  have h1 := C.ok _ _ hT
  simp only [TIok, Bool.and_eq_true] at h1
  have hu := (und_slice h1.2).1
  have rx := hops x (by simp [Op.operands]) _ hx
  have e1 : Op.maxDepth = 9999 + 1 := rfl
  obtain ⟨b, off, cap, hv⟩ : ∃ b off cap, a.eval x = .slice (some ⟨b, off, none⟩) xs.length cap := by
    generalize a.eval x = v at rx
    cases rx with
    | nil => exact absurd rfl hn
    | sl _ b off cap => exact ⟨b, off, cap, rfl⟩
  have heq : (Op.equal t (a.eval x) (.slice none 0 0)).run C.P w = .ok false w := by
    unfold Op.equal
    rw [e1, hv]
    unfold Op.equalIn
    simp [underlying, hu]
  have hg : (eqGuard .eql t x (.const (.slice none 0 0)) (a.eval x) (.slice none 0 0)).run C.P w = .ok () w := by
    rw [hv]; simp [eqGuard]
  have hy : a.eval (.const (.slice none 0 0)) = .slice none 0 0 := rfl
  refine ⟨.bool false, ?_, .raw _⟩
  rw [hv] at heq hg
  simp [execOp, ho, hy, hv, hg, binOp, heq]
theorem j_slnil {t t2 sz E z dd : Nat} {x : Operand} {xs : List (List A)} (hw : wantE l e o = some true) (ho : o.op = .binOp .eql t x (.const (.slice none 0 0)) t2) (hT : C.ty t = some ⟨sz, .slice E z⟩) (hx : evO e x = some (.sl xs)) (hne : xs ≠ []) (hd : o.dst = some dd) (hn : Nat.blt dd n = true)
    (hj : J d C n l os Q ((dd, .raw (.bool false)) :: e) h) : J d C n l (o :: os) Q e h := j_quiet hw (fun _ => slnil_quiet ho hT hx hne) hd hn hj
end
end Go.AI

/-
  More rules of the walk: unsigned numbers as they stand. No condition.
-/
namespace Go.AI
open Go.RowKit

section
variable {C : Cx} {n : Nat} {Q : Exit → Env → Heap → Prop} {e : Env} {h h' : Heap} {d : Bool} {l os : List Oper} {o : Oper} {f : Fl} {fs : List Fl} {B : List (Nat × Blk)}
end
end Go.AI

/-
  More rules of the walk: unsigned numbers of 64 bits, as they stand; bytes as numbers. No condition.
-/
namespace Go.AI
open Go.RowKit

section
variable {C : Cx} {n : Nat} {Q : Exit → Env → Heap → Prop} {e : Env} {h h' : Heap} {d : Bool} {l os : List Oper} {o : Oper} {f : Fl} {fs : List Fl} {B : List (Nat × Blk)}
theorem u64mul_quiet {t t2 : Nat} {x y : Operand} {m k : Int} (ho : o.op = .binOp .mul t x y t2) (hx : evO e x = some (.raw (.int .u64 m))) (hy : evO e y = some (.raw (.int .u64 k))) : Quiet C.P o e h (.raw (.int .u64 (IntKind.u64.wrap (m * k)))) := by
  apply Quiet.of_same
  intro a w hs
  have hops := hs.ops
  rw [ho] at hops
  have e1 := (hops x (by simp [Op.operands]) _ hx).raw_inv
  have e2 := (hops y (by simp [Op.operands]) _ hy).raw_inv
  exact ⟨.int .u64 (IntKind.u64.wrap (m * k)), by simp [execOp, ho, e1, e2, eqGuard, binOp, Op.intArith], .raw _⟩
theorem u64add_quiet {t t2 : Nat} {x y : Operand} {m k : Int} (ho : o.op = .binOp .add t x y t2) (hx : evO e x = some (.raw (.int .u64 m))) (hy : evO e y = some (.raw (.int .u64 k))) : Quiet C.P o e h (.raw (.int .u64 (IntKind.u64.wrap (m + k)))) := by
  apply Quiet.of_same
  intro a w hs
  have hops := hs.ops
  rw [ho] at hops
  have e1 := (hops x (by simp [Op.operands]) _ hx).raw_inv
  have e2 := (hops y (by simp [Op.operands]) _ hy).raw_inv
  exact ⟨.int .u64 (IntKind.u64.wrap (m + k)), by simp [execOp, ho, e1, e2, eqGuard, binOp, Op.intArith], .raw _⟩
theorem u64shr_quiet {t t2 : Nat} {x y : Operand} {m k : Int} {kk : IntKind} (ho : o.op = .binOp .shr t x y t2) (hx : evO e x = some (.raw (.int .u64 m))) (hy : evO e y = some (.raw (.int kk k)) ∨ evO e y = some (.int k)) (hk : 0 ≤ k) : Quiet C.P o e h (.raw (.int .u64 (m.fdiv (2 ^ (min k.toNat 64))))) := by
  apply Quiet.of_same
  intro a w hs
  have hops := hs.ops
  rw [ho] at hops
  have e1 := (hops x (by simp [Op.operands]) _ hx).raw_inv
  have hk2 : ¬ k < 0 := by omega
  rcases hy with hy | hy
  · have e2 := (hops y (by simp [Op.operands]) _ hy).raw_inv
    exact ⟨_, by simp [execOp, ho, e1, e2, eqGuard, binOp, Op.shift, hk2, IntKind.bits], .raw _⟩
  · have e2 := (hops y (by simp [Op.operands]) _ hy).int_inv.1
    exact ⟨_, by simp [execOp, ho, e1, e2, eqGuard, binOp, Op.shift, hk2, IntKind.bits], .raw _⟩
theorem u64and_quiet {t t2 : Nat} {x y : Operand} {m : Int} (ho : o.op = .binOp .and t x y t2) (hx : evO e x = some (.raw (.int .u64 m))) (hy : evO e y = some (.raw (.int .u64 255))) : ∃ c : Int, (0 ≤ c ∧ c ≤ 255) ∧ ∀ h, Quiet C.P o e h (.raw (.int .u64 c)) := by
  refine ⟨(((BitVec.ofInt 64 m) &&& (BitVec.ofInt 64 255)).toNat : Int), ?_, fun h => ?_⟩
  · have : ((BitVec.ofInt 64 m) &&& (BitVec.ofInt 64 255)).toNat ≤ 255 := by
      rw [BitVec.toNat_and]
      exact Nat.and_le_right
    omega
  · apply Quiet.of_same
    intro a w hs
    have hops := hs.ops
    rw [ho] at hops
    have e1 := (hops x (by simp [Op.operands]) _ hx).raw_inv
    have e2 := (hops y (by simp [Op.operands]) _ hy).raw_inv
    have hle : ((BitVec.ofInt 64 m) &&& (BitVec.ofInt 64 255)).toNat ≤ 255 := by
      rw [BitVec.toNat_and]
      exact Nat.and_le_right
    have hw : IntKind.u64.wrap (((BitVec.ofInt 64 m) &&& (BitVec.ofInt 64 255)).toNat : Int) = (((BitVec.ofInt 64 m) &&& (BitVec.ofInt 64 255)).toNat : Int) := by
      generalize ((BitVec.ofInt 64 m) &&& (BitVec.ofInt 64 255)).toNat = q at hle
      simp [IntKind.wrap, IntKind.bits, IntKind.signed]; omega
    refine ⟨_, ?_, .raw _⟩
    have hr : (execOp a.eval o).run C.P w = .ok (.value (.int .u64 (IntKind.u64.wrap (((BitVec.ofInt 64 m) &&& (BitVec.ofInt 64 255)).toNat : Int)))) w := by
      simp only [execOp, ho, e1, e2]
      simp [eqGuard, binOp, Op.intBits]
      rfl
    rw [hw] at hr
    exact hr
theorem u2i_quiet {s t sz sz2 : Nat} {x : Operand} {m : Int} (ho : o.op = .convert s t x) (hs : C.ty s = some ⟨sz, .ik .u64⟩) (ht : C.ty t = some ⟨sz2, .ik .i64⟩) (hx : evO e x = some (.raw (.int .u64 m))) (hm : 0 ≤ m ∧ m ≤ 255) : Quiet C.P o e h (.int m) := by
  apply Quiet.of_same
  intro a w hst
  have hops := hst.ops
  rw [ho] at hops
  have h1 := C.ok _ _ hs; have h2 := C.ok _ _ ht
  simp only [TIok, Bool.and_eq_true] at h1 h2
  have e1 := (hops x (by simp [Op.operands]) _ hx).raw_inv
  have hw : IntKind.i64.wrap m = m := by simp [IntKind.wrap, IntKind.bits, IntKind.signed]; omega
  exact ⟨.int .i64 m, by simp [execOp, ho, e1, convert, underlying, und_ik h1.2, und_ik h2.2, Conv.intToInt, hw], .int _ (by unfold InR; omega)⟩
theorem j_u64mul {t t2 dd : Nat} {x y : Operand} {m k : Int} (hw : wantE l e o = some true) (ho : o.op = .binOp .mul t x y t2) (hx : evO e x = some (.raw (.int .u64 m))) (hy : evO e y = some (.raw (.int .u64 k))) (hd : o.dst = some dd) (hn : Nat.blt dd n = true)
    (hj : J d C n l os Q ((dd, .raw (.int .u64 (IntKind.u64.wrap (m * k)))) :: e) h) : J d C n l (o :: os) Q e h := j_quiet hw (fun _ => u64mul_quiet ho hx hy) hd hn hj
theorem j_u64add {t t2 dd : Nat} {x y : Operand} {m k : Int} (hw : wantE l e o = some true) (ho : o.op = .binOp .add t x y t2) (hx : evO e x = some (.raw (.int .u64 m))) (hy : evO e y = some (.raw (.int .u64 k))) (hd : o.dst = some dd) (hn : Nat.blt dd n = true)
    (hj : J d C n l os Q ((dd, .raw (.int .u64 (IntKind.u64.wrap (m + k)))) :: e) h) : J d C n l (o :: os) Q e h := j_quiet hw (fun _ => u64add_quiet ho hx hy) hd hn hj
theorem j_u64shr {t t2 dd : Nat} {x y : Operand} {m k : Int} {kk : IntKind} (hw : wantE l e o = some true) (ho : o.op = .binOp .shr t x y t2) (hx : evO e x = some (.raw (.int .u64 m))) (hy : evO e y = some (.raw (.int kk k)) ∨ evO e y = some (.int k)) (hk : 0 ≤ k) (hd : o.dst = some dd) (hn : Nat.blt dd n = true)
    (hj : J d C n l os Q ((dd, .raw (.int .u64 (m.fdiv (2 ^ (min k.toNat 64))))) :: e) h) : J d C n l (o :: os) Q e h := j_quiet hw (fun _ => u64shr_quiet ho hx hy hk) hd hn hj
theorem j_u64and {t t2 dd : Nat} {x y : Operand} {m : Int} (hw : wantE l e o = some true) (ho : o.op = .binOp .and t x y t2) (hx : evO e x = some (.raw (.int .u64 m))) (hy : evO e y = some (.raw (.int .u64 255))) (hd : o.dst = some dd) (hn : Nat.blt dd n = true)
    (hj : ∀ c : Int, 0 ≤ c ∧ c ≤ 255 → J d C n l os Q ((dd, .raw (.int .u64 c)) :: e) h) : J d C n l (o :: os) Q e h := by
  obtain ⟨c, hc, hq⟩ := u64and_quiet (C := C) ho hx hy
  exact j_quiet hw (fun _ => hq _) hd hn (hj c hc)
theorem j_u2i {s t sz sz2 dd : Nat} {x : Operand} {m : Int} (hw : wantE l e o = some true) (ho : o.op = .convert s t x) (hs : C.ty s = some ⟨sz, .ik .u64⟩) (ht : C.ty t = some ⟨sz2, .ik .i64⟩) (hx : evO e x = some (.raw (.int .u64 m))) (hm : 0 ≤ m ∧ m ≤ 255) (hd : o.dst = some dd) (hn : Nat.blt dd n = true)
    (hj : J d C n l os Q ((dd, .int m) :: e) h) : J d C n l (o :: os) Q e h := j_quiet hw (fun _ => u2i_quiet ho hs ht hx hm) hd hn hj
end
end Go.AI

/-
  A statement of open order whose writing operations come in any order: the walk over all that is done. No condition.
-/
namespace Go.AI
open Go.RowKit

theorem wp_conv {P : Program} {o : Oper} {a : Act} {w : World} {K K' : Act → World → Prop} {Q Q' : Exit → Act → World → Prop} (h : ∀ a w, K a w → K' a w) (hq : ∀ x a w, x ≠ .normal → ¬ Q x a w)
    (hh : o.wp P a w K Q) : o.wp P a w K' Q' := by
  unfold Oper.wp at *
  generalize (execOp a.eval o).run P w = r at *
  cases r with
  | ok n w' =>
    cases n <;> simp only [Oper.upon] at hh ⊢ <;>
      first
        | exact h _ _ hh
        | exact Calls.mono hh (fun e w'' he => by
            cases e <;> first | exact h _ _ he | exact absurd he (hq _ _ _ (by simp)) | (obtain ⟨a, w, q⟩ := he; exact absurd q (hq _ _ _ (by simp))))
        | exact Rows.mono hh (fun _ _ he => h _ _ he)
  | halt x w' => cases x <;> simp only [Oper.upon] at hh ⊢ <;> first | exact hh | exact absurd hh (hq _ _ _ (by simp))

section
variable {C : Cx} {n : Nat} {l : List Oper} {Q : Exit → Env → Heap → Prop} {e e' : Env} {h h' : Heap} {o : Oper}
/-- What is left of a statement of open order, of which some operations are done. -/
def JA (C : Cx) (n : Nat) (l : List Oper) (Q : Exit → Env → Heap → Prop) (d : List Bool) (e : Env) (h : Heap) : Prop :=
  ∀ a w, Conc C n e h a w → wpAny C.P .any l.toArray (up C n Q) (d.count false) d.toArray a w
/-- One operation, and what is left behind it. -/
def JA1 (C : Cx) (n : Nat) (l : List Oper) (Q : Exit → Env → Heap → Prop) (d : List Bool) (i : Nat) (e : Env) (h : Heap) : Prop :=
  ∃ o, l[i]? = some o ∧ J false C n l [o] (fun x e h => x = .normal ∧ JA C n l Q (d.set i true) e h) e h
theorem ja_weak {d : List Bool} (hs : EnvLe e e') (hp : h.Perm h') (hj : JA C n l Q d e' h') : JA C n l Q d e h := fun a w hc => hj a w (view_perm hp _ _ _ _ (hc.sub hs.sub))
theorem ja_done {d : List Bool} (hr : Region.ready .any l.toArray d.toArray = []) (hq : Q .normal e h) : JA C n l Q d e h := fun a w hc => by
  cases hn : d.count false with
  | zero => exact ⟨hr, e, h, hc, hq⟩
  | succ k => exact ⟨fun _ => ⟨e, h, hc, hq⟩, fun i hi => by rw [hr] at hi; cases hi⟩
theorem ja_step {d : List Bool} {rs : List Nat} (hr : Region.ready .any l.toArray d.toArray = rs) (hne : rs ≠ []) (hs : ∀ i ∈ rs, JA1 C n l Q d i e h) : JA C n l Q d e h := fun a w hc => by
  have key : ∀ i ∈ rs, i < d.length ∧ d[i]? = some false := fun i hi => by
    rw [← hr] at hi
    unfold Region.ready at hi
    have := (List.mem_filter.1 hi).2
    simp only [Bool.and_eq_true, Bool.not_eq_true'] at this
    have h1 := this.1
    rw [Array.getD_eq_getD_getElem?, List.getElem?_toArray] at h1
    cases hd : d[i]? with
    | none => rw [hd] at h1; cases h1
    | some b =>
      rw [hd] at h1
      simp only [Option.getD_some] at h1
      exact ⟨(List.getElem?_eq_some_iff.1 hd).1, by rw [h1]⟩
  have cnt : ∀ i ∈ rs, (d.set i true).count false + 1 = d.count false := fun i hi => by
    obtain ⟨h1, h2⟩ := key i hi
    have h3 : d[i] = false := by rw [List.getElem?_eq_getElem h1] at h2; simpa using h2
    have pos : 0 < d.count false := List.count_pos_iff.2 (by rw [← h3]; exact List.getElem_mem h1)
    rw [List.count_set h1, h3]
    simp only [BEq.rfl, if_true]
    have : (if (true == false) = true then 1 else 0) = 0 := rfl
    rw [this]; omega
  obtain ⟨i0, hi0⟩ := List.exists_mem_of_ne_nil rs hne
  have c0 := cnt i0 hi0
  cases hn : d.count false with
  | zero => omega
  | succ k =>
    refine ⟨fun q => absurd (hr ▸ q) hne, fun i hi => ?_⟩
    rw [hr] at hi
    obtain ⟨o, ho, hj⟩ := hs i hi
    have hk : (d.set i true).count false = k := by have := cnt i hi; omega
    have he : d.toArray.setIfInBounds i true = (d.set i true).toArray := by simp
    unfold J at hj
    have hw := hj a w hc
    unfold wpList at hw
    unfold wpOp
    have ho' : l.toArray[i]? = some o := by simpa using ho
    simp only [ho']
    have conv : ∀ a w, wpList C.P l.toArray (up C n fun x e h => x = .normal ∧ JA C n l Q (d.set i true) e h) [] a w → wpAny C.P .any l.toArray (up C n Q) k (d.toArray.setIfInBounds i true) a w := fun a w q => by
      obtain ⟨e2, h2, hc2, _, hq⟩ := (show up C n _ .normal a w from q)
      rw [he, ← hk]
      exact hq a w hc2
    split at hw
    · rename_i hwt
      rw [if_pos hwt]
      have hno : ∀ x a w, x ≠ Exit.normal → ¬ up C n (fun x e h => x = .normal ∧ JA C n l Q (d.set i true) e h) x a w := fun x a w hx ⟨_, _, _, q, _⟩ => hx q
      rcases hw with hw | ⟨_, a2, w2, q⟩
      · exact .inl (wp_conv conv hno hw)
      · exact absurd q (hno _ _ _ (by simp))
    · rename_i hwt
      rw [if_neg hwt]
      exact conv _ _ hw
theorem ja_pred2 {d : List Bool} (hj : ∀ (P : List Bool → Env → Heap → Prop) (R : Exit → Env → Heap → Prop), P = JA C n l Q → R = Q → P d e h) : JA C n l Q d e h := hj _ _ rfl rfl
theorem run_regionA {id : Nat} (hj : JA C n l Q (List.replicate l.length false) e h) : Run C n (.region id l.toArray true) Q e h := by
  unfold Run
  intro a w hc
  refine wp_region_any C.mix ?_
  have := hj _ _ hc.drew
  simpa using this

/-- 'box': a new variable with a content, of the call's own. -/
theorem boxM_step {T : Nat} {x : Operand} {v : A} {cs : List A} (ho : o.op = .box T x) (hx : evO e x = some v) (hc : cellsA v = some cs) : MStep C.P o e h fun u h' => ∃ b, u = .op (some b) 0 ∧ h' = ⟨some b, T, cs.length, cs⟩ :: h := by
  intro a w hs
  have hops := hs.ops
  rw [ho] at hops
  have r := hops x (by simp [Op.operands]) _ hx
  obtain ⟨vs, e1, rl⟩ := cellsA_rel hc r
  have hrun : (execOp a.eval o).run C.P w = .ok (.value (.pointer (some ⟨w.heap.size, 0, none⟩))) (w.alloc (.cells vs.toArray T)) := by
    simp [execOp, ho, Instr.box, newVar, newRow, e1]
  unfold Yields
  rw [hrun]
  exact ⟨_, _, ⟨w.heap.size, rfl, rfl⟩, chg_new hs.heap (vs := vs) (rest := []) (Ext.alloc w _) (by rw [heap_new]; simp) rl (by rw [List.append_nil]; exact rl.1.symm), .op (some w.heap.size) 0⟩
theorem j_boxM {os : List Oper} {T dd : Nat} {x : Operand} {v : A} {cs : List A} (hw : wantE l e o = some true) (ho : o.op = .box T x) (hx : evO e x = some v) (hc : cellsA v = some cs) (hd : o.dst = some dd) (hn : Nat.blt dd n = true)
    (hj : ∀ b, J false C n l os Q ((dd, .op (some b) 0) :: e) (⟨some b, T, cs.length, cs⟩ :: h)) : J false C n l (o :: os) Q e h :=
  j_mut hw (boxM_step ho hx hc) (by rw [hd]; exact hn) fun v h' ⟨b, h1, h2⟩ => by rw [hd, h1, h2]; exact hj b
end
end Go.AI

/-
  Data whose memory is the call's own, all of it: what is told of it, how it is read for a while, and the calls that do so. No condition.
-/
namespace Go.AI
open Go.RowKit

/-- Told alike in whatever memory. -/
def Clo (a : A) : Prop := ∀ (S S' : Nat → Prop) (w w' : World) (v : Value), Rel S w a v → Rel S' w' a v
def CloL (as : List A) : Prop := ∀ a ∈ as, Clo a
def CloH (h : Heap) : Prop := ∀ k ∈ h, CloL k.cs
theorem Clo.int (n : Int) : Clo (.int n) := fun _ _ _ _ _ r => by cases r with | int _ h => exact .int _ h
theorem Clo.raw (v : Value) : Clo (.raw v) := fun _ _ _ _ _ r => by cases r; exact .raw _
theorem Clo.any (p : Value → Prop) : Clo (.any p) := fun _ _ _ _ _ r => by cases r with | any _ _ h => exact .any _ _ h
theorem Clo.os (b : Option Nat) (n cap : Nat) : Clo (.os b n cap) := fun _ _ _ _ _ r => by
  cases r with
  | os _ _ _ h => exact .os _ _ _ h
  | osn a => exact .osn a
theorem CloL.nil : CloL [] := fun _ h => by cases h
theorem CloL.cons {a : A} {as : List A} (h : Clo a) (t : CloL as) : CloL (a :: as) := fun x hx => by
  rcases List.mem_cons.1 hx with rfl | hx
  · exact h
  · exact t x hx
theorem CloL.rel {S S' : Nat → Prop} {w w' : World} {cs : List A} {vs : List Value} (h : CloL cs) (r : RelL S w cs vs) : RelL S' w' cs vs := ⟨r.1, fun j hj hj' => h _ (List.getElem_mem hj) _ _ _ _ _ (r.2 j hj hj')⟩
theorem Clo.agg {cs : List A} (h : CloL cs) : Clo (.agg cs) := fun S S' w w' v r => by
  obtain ⟨vs, rfl, rl⟩ := r.agg_inv
  have := h.rel (S' := S') (w' := w') rl
  exact .agg cs vs this.1 this.2
theorem Clo.tup {cs : List A} (h : CloL cs) : Clo (.tup cs) := fun S S' w w' v r => by
  obtain ⟨vs, rfl, rl⟩ := r.tup_inv
  have := h.rel (S' := S') (w' := w') rl
  exact .tup cs vs this.1 this.2
theorem CloL.flat {css : List (List A)} (h : ∀ cs ∈ css, CloL cs) : CloL css.flatten := fun a ha => by
  obtain ⟨cs, h1, h2⟩ := List.mem_flatten.1 ha
  exact h cs h1 a h2
theorem CloL.mapInt {α : Type} (f : α → Int) (l : List α) : CloL ((l.map fun x => [A.int (f x)]).flatten) := CloL.flat fun cs h => by
  obtain ⟨x, _, rfl⟩ := List.mem_map.1 h
  exact CloL.cons (Clo.int _) CloL.nil
theorem CloH.nil : CloH [] := fun _ h => by cases h
theorem CloH.cons {k : Blk} {h : Heap} (hk : CloL k.cs) (t : CloH h) : CloH (k :: h) := fun x hx => by
  rcases List.mem_cons.1 hx with rfl | hx
  · exact hk
  · exact t x hx
theorem CloH.append {h h' : Heap} (a : CloH h) (b : CloH h') : CloH (h ++ h') := fun x hx => by
  rcases List.mem_append.1 hx with hx | hx
  · exact a x hx
  · exact b x hx
theorem CloH.flat {hs : List Heap} (h : ∀ x ∈ hs, CloH x) : CloH hs.flatten := fun a ha => by
  obtain ⟨cs, h1, h2⟩ := List.mem_flatten.1 ha
  exact h cs h1 a h2
theorem BlkOk.clo {S S' : Nat → Prop} {w w' : World} {k : Blk} (hc : CloL k.cs) (hb : ∀ b, k.b = some b → w'.heap[b]? = w.heap[b]?) (H : BlkOk S w k) : BlkOk S' w' k := by
  unfold BlkOk at *
  split at H
  · exact H
  · rename_i b hk
    obtain ⟨vs, rest, e, r, hr⟩ := H
    exact ⟨vs, rest, by rw [hb b hk]; exact e, hc.rel r, hr⟩

/-- The data cs, whose memory hT is, can be read as cs'. -/
def FrzL (hT : Heap) (cs cs' : List A) : Prop := ∀ (h : Heap) (w : World) (vs : List Value), (∀ k ∈ hT, k ∈ h) → HeapOk h w → RelL (Im w h) w cs vs → RelL (Im w []) w cs' vs
def Frz (hT : Heap) (a a' : A) : Prop := ∀ (h : Heap) (w : World) (v : Value), (∀ k ∈ hT, k ∈ h) → HeapOk h w → Rel (Im w h) w a v → Rel (Im w []) w a' v
theorem Frz.same (hT : Heap) (a : A) : Frz hT a a := fun h _ _ _ _ r => r.heap (List.nil_sublist h)
theorem Frz.mono {h h' : Heap} {a a' : A} (hs : ∀ k ∈ h', k ∈ h) (H : Frz h' a a') : Frz h a a' := fun F w v hm ho r => H F w v (fun k hk => hm k (hs k hk)) ho r
theorem FrzL.nil (h : Heap) : FrzL h [] [] := fun _ _ _ _ _ r => ⟨r.1, fun j hj => absurd hj (Nat.not_lt_zero _)⟩
theorem FrzL.cons {h : Heap} {a a' : A} {cs cs' : List A} (H : Frz h a a') (T : FrzL h cs cs') : FrzL h (a :: cs) (a' :: cs') := fun F w vs hm ho r => by
  obtain ⟨v, us, rfl, h1, h2⟩ := r.uncons
  exact RelL.cons (H F w v hm ho h1) (T F w us hm ho h2)
theorem FrzL.mono {h h' : Heap} {a a' : List A} (hs : ∀ k ∈ h', k ∈ h) (H : FrzL h' a a') : FrzL h a a' := fun F w v hm ho r => H F w v (fun k hk => hm k (hs k hk)) ho r
theorem Frz.agg {h : Heap} {cs cs' : List A} (H : FrzL h cs cs') : Frz h (.agg cs) (.agg cs') := fun F w v hm ho r => by
  obtain ⟨vs, rfl, rl⟩ := r.agg_inv
  have := H F w vs hm ho rl
  exact .agg cs' vs this.1 this.2
/-- A list of the call's own over the whole of its block. -/
theorem Frz.flat {α : Type} {g : α → List A} {ys : List α} {z n : Nat} {b : Option Nat} {T room cap : Nat} {cs : List A} (hn : n = ys.length) (hcs : cs = (ys.map g).flatten) (hz : ∀ y, (g y).length = z) (hroom : room = cap * z) (hz0 : Nat.blt 0 z = true) : Frz [⟨b, T, room, cs⟩] (.os b n cap) (.sl (ys.map g)) := fun h w v hm ho r => by
  subst hn
  cases b with
  | none =>
    obtain ⟨h1, h2, p, h3⟩ := r.osn_inv
    have : ys = [] := List.eq_nil_of_length_eq_zero h1
    subst this
    rw [h3]; exact .nil _ _
  | some b =>
    obtain ⟨e1, hlen⟩ := r.os_inv
    rw [e1]
    have hmem := hm _ (List.mem_singleton.2 rfl)
    obtain ⟨vs, rest, hb, hr, hrm⟩ := ho.at hmem
    rw [hcs] at hr
    have hlt := ho.lt (mem_keys hmem rfl)
    have hvl : vs.length = ys.length * z := by rw [hr.1, flat_len hz]
    have hzp : 0 < z := Nat.le_of_ble_eq_true hz0
    have hcap : ys.length ≤ cap := by
      have : ys.length * z ≤ cap * z := by rw [← hroom, hrm, ← hvl]; simp
      exact Nat.le_of_mul_le_mul_right this hzp
    have bound : ∀ i j, i < ys.length → j < z → i * z + j < ys.length * z := fun i j h1 h2 => by
      have : (i + 1) * z ≤ ys.length * z := Nat.mul_le_mul_right z h1
      rw [Nat.succ_mul] at this; omega
    have key : Rel (Im w []) w (.sl (ys.map g)) (.slice (some ⟨b, 0, none⟩) (ys.map g).length cap) := by
      refine .sl _ b 0 cap z (fun i j => vs.getD (i * z + j) undef) ⟨hlt, by simp [keys]⟩ (by simpa using hlen) (by simpa using hcap) (fun i hi => by simpa using hz _) (fun i j hi hj => ?_) (fun i j hi hj => ?_)
      · simp at hi
        have hv : i * z + j < vs.length := by rw [hvl]; exact bound i j hi hj
        rw [Nat.zero_add, cell_of_vs hb _ hv]; simp [hv]
      · simp at hi hj
        have hj' : j < z := by rw [← hz ys[i]]; exact hj
        have hv : i * z + j < vs.length := by rw [hvl]; exact bound i j hi hj'
        obtain ⟨u, hu1, hu2⟩ := hr.get (flat_get ys i j hi hj hz)
        have : vs.getD (i * z + j) undef = u := by simp [hu1]
        rw [this]
        simpa using hu2.heap (List.nil_sublist h)
    simpa using key

abbrev Cells (z : Nat) := {l : List A // l.length = z}
/-- A list whose elements' cells and memory are told by E, in memory of the call's own. -/
def OwnSl {α : Type} (E : α → List A → Heap → Prop) (T z : Nat) (xs : List α) (a : A) (h : Heap) : Prop :=
  ∃ (b : Nat) (css : List (Cells z)) (hs : List Heap), css.length = xs.length ∧ hs.length = xs.length ∧ (∀ i (hi : i < xs.length) (h1 : i < css.length) (h2 : i < hs.length), E xs[i] css[i].1 hs[i]) ∧
    a = .os (some b) xs.length xs.length ∧ h = ⟨some b, T, xs.length * z, (css.map Subtype.val).flatten⟩ :: hs.flatten

theorem OwnSl.frz {α : Type} {E : α → List A → Heap → Prop} {enc : α → List A} {T z : Nat} {xs : List α} {a : A} {h : Heap} (hz : ∀ x, (enc x).length = z) (hE : ∀ x cs h, E x cs h → FrzL h cs (enc x)) (o : OwnSl E T z xs a h) : Frz h a (.sl (xs.map enc)) := by
  obtain ⟨b, css, hs, l1, l2, hall, rfl, rfl⟩ := o
  intro F w v hm ho r
  obtain ⟨e1, hlen⟩ := r.os_inv
  rw [e1]
  have hmem := hm (⟨some b, T, xs.length * z, (css.map Subtype.val).flatten⟩ : Blk) (List.mem_cons_self ..)
  obtain ⟨vs, rest, hb, hr, hrm⟩ := ho.at hmem
  have hlt := ho.lt (mem_keys hmem rfl)
  have hc2 : ∀ y : Cells z, (Subtype.val y).length = z := fun y => y.2
  have hvl : vs.length = xs.length * z := by rw [hr.1, flat_len hc2, l1]
  have bound : ∀ i j, i < xs.length → j < z → i * z + j < xs.length * z := fun i j h1 h2 => by
    have : (i + 1) * z ≤ xs.length * z := Nat.mul_le_mul_right z h1
    rw [Nat.succ_mul] at this; omega
  have key : Rel (Im w []) w (.sl (xs.map enc)) (.slice (some ⟨b, 0, none⟩) (xs.map enc).length xs.length) := by
    refine .sl _ b 0 xs.length z (fun i j => vs.getD (i * z + j) undef) ⟨hlt, by simp [keys]⟩ (by simpa using hlen) (by simp) (fun i hi => by simpa using hz _) (fun i j hi hj => ?_) (fun i j hi hj => ?_)
    · simp at hi
      have hv : i * z + j < vs.length := by rw [hvl]; exact bound i j hi hj
      rw [Nat.zero_add, cell_of_vs hb _ hv]; simp [hv]
    · simp only [List.length_map] at hi
      have hj' : j < z := by
        have := hz xs[i]
        simp only [List.getElem_map] at hj; omega
      have hi1 : i < css.length := by omega
      have hi2 : i < hs.length := by omega
      have seg : RelL (Im w F) w css[i].1 ((List.range z).map fun j => vs.getD (i * z + j) undef) := by
        refine ⟨by simp [css[i].2], fun q hq hq' => ?_⟩
        have hqz : q < z := by have := css[i].2; omega
        obtain ⟨u, hu1, hu2⟩ := hr.get (flat_get (f := Subtype.val) css i q hi1 hq hc2)
        have e3 : vs.getD (i * z + q) undef = u := by simp [hu1]
        simp only [List.getElem_map, List.getElem_range, e3]
        exact hu2
      have := (hE _ _ _ (hall i hi hi1 hi2)) F w _ (fun k hk => hm k (List.mem_cons_of_mem _ (List.mem_flatten.2 ⟨_, List.getElem_mem hi2, hk⟩))) ho seg
      have h3 := this.2 j (by rw [hz]; exact hj') (by simpa using hj')
      simpa using h3
  simpa using key

section
variable {C : Cx} {n : Nat} {Q : Exit → Env → Heap → Prop} {e : Env} {h : Heap} {l os : List Oper} {o : Oper}

/-- A call that reads data of the call's own as if nobody wrote it: what it hands back shares no memory with it. -/
theorem call_thaw {P : Program} {f : FuncId} {x : Operand} {args : Array Operand} {ts : Array TypeId} {hT : Heap} {caps as all : List A} {R : A → Heap → Prop} (ho : o.op = .call ⟨.value x, args, ts⟩) (hx : evO e x = some (.fn f caps))
    (ha : mapEv e args.toList = some as) (hf : Does P f all [] R) (hp : ∀ k ∈ hT, k ∈ h) (hz : FrzL hT (as ++ caps) all) (hR : ∀ v h1, R v h1 → Clo v ∧ CloH h1) : MStep P o e h fun v h' => ∃ h1, R v h1 ∧ h' = h1 ++ h := by
  intro a w hs
  have hops := hs.ops
  rw [ho] at hops
  obtain ⟨us, e1, ru⟩ := (hops x (by simp [Op.operands, Call.operands]) _ hx).fn_inv
  have ra := RelL.mapEv (a := a) (w := w) (h := h) (fun y hy => hops y (by simp [Op.operands, Call.operands, Array.mem_toList_iff.1 hy])) ha
  unfold Yields
  rw [exec_call hf.1 ho e1]
  have r2 := hz h w _ hp hs.heap (ra.append ru)
  refine (hf.2 [] w _ r2 ⟨by simp [keys], by simp, hs.heap.tab.stab fun _ hb => ⟨⟨hb.1, by simp [keys]⟩, rfl⟩⟩).mono fun e w' ⟨u, v, h', q1, q2, q3, q4⟩ => ⟨u, q1, v, h' ++ h, ⟨h', q2, rfl⟩, ?_, (hR v h' q2).1 _ _ _ _ _ q4⟩
  have kap : ∀ x y : Heap, keys (x ++ y) = keys x ++ keys y := fun x y => List.filterMap_append
  simp only [List.append_nil] at q3
  have hnew : ∀ b ∈ keys h', w.heap.size ≤ b := fun b hb => (q3.new b hb).elim (fun q => by simp [keys] at q) id
  have same : ∀ b, b < w.heap.size → w'.heap[b]? = w.heap[b]? := fun b hb => q3.block b hb (by simp [keys])
  have im : ∀ b, Im w h b → Im w' (h' ++ h) b ∧ w'.heap[b]? = w.heap[b]? := fun b hb => ⟨⟨Nat.lt_of_lt_of_le hb.1 q3.size, fun hm => by
    rw [kap] at hm
    rcases List.mem_append.1 hm with q | q
    · have := hnew b q; have := hb.1; omega
    · exact hb.2 q⟩, same b hb.1⟩
  refine ⟨q3.os, q3.tape, q3.output, q3.size, fun k hk _ => same k hk, fun b hb => ?_, ⟨?_, fun k hk => ?_, hs.heap.tab.stab im⟩⟩
  · rw [kap] at hb
    rcases List.mem_append.1 hb with hb | hb
    · exact .inr (hnew b hb)
    · exact .inl hb
  · rw [kap]
    exact List.nodup_append.2 ⟨q3.heap.nodup, hs.heap.nodup, fun b hb c hc q => by
      subst q
      have := hs.heap.lt hc
      have := hnew b hb
      omega⟩
  · rcases List.mem_append.1 hk with hk | hk
    · exact (q3.heap.blk k hk).clo ((hR v h' q2).2 k hk) fun _ _ => rfl
    · exact (hs.heap.blk k hk).stab im fun b hb => same b (hs.heap.lt (mem_keys hk hb))

theorem MStep.quiet {P : Program} {R : A → Heap → Prop} {v : A} (hm : MStep P o e h R) (hi : ∀ u h1, R u h1 → u = v ∧ h1 = h) : Quiet P o e h v := fun a w hs => by
  have := hm a w hs
  unfold Yields at this ⊢
  generalize (execOp a.eval o).run P w = r at this ⊢
  have conv : ∀ u w', (∃ v h1, R v h1 ∧ Chg h h1 w w' ∧ Rel (Im w' h1) w' v u) → Chg h h w w' ∧ Rel (Im w' h) w' v u := fun u w' ⟨v, h1, q1, q2, q3⟩ => by
    obtain ⟨rfl, rfl⟩ := hi v h1 q1
    exact ⟨q2, q3⟩
  cases r with
  | ok nx w' =>
    cases nx <;> first | exact conv _ _ this | (exact this.elim) | (exact this.mono fun e w'' ⟨u, he, hR⟩ => ⟨u, he, conv _ _ hR⟩)
  | halt x w' => exact this.elim

theorem jctq (hT : Heap) {d : Bool} {g : FuncId} {as all : List A} {v : A} {dd : Nat} (hf : Gives C.P g all v) (hv : Clo v) (hp : ∀ k ∈ hT, k ∈ h) (hz : FrzL hT as all) (hd : o.dst = some dd) (hn : Nat.blt dd n = true)
    (hj : J d C n l os Q ((dd, v) :: e) h) : JC g as d C n l o os Q e h := by
  unfold JC CallAt
  rintro ⟨x, args, ts, caps, as0, hw, ho, hx, ha, rfl⟩
  exact j_at hw ((call_thaw ho hx ha hf.does hp hz fun u h1 ⟨q1, q2⟩ => by subst q1 q2; exact ⟨hv, CloH.nil⟩).quiet fun u h1 ⟨h2, ⟨q1, q2⟩, q3⟩ => by subst q1 q2 q3; exact ⟨rfl, rfl⟩) hd hn hj
/-- A call that writes: the memory h0 is handed over, wherever it stands. -/
theorem jcp (F : Heap) {g : FuncId} {as all : List A} {R : A → Heap → Prop} {h0 : Heap} {dd : Nat} (hf : Does C.P g all h0 R) (hp : h.Perm (h0 ++ F)) (hle : LeL as all) (hd : o.dst = some dd) (hn : Nat.blt dd n = true)
    (hj : ∀ v h1, R v h1 → J false C n l os Q ((dd, v) :: e) (h1 ++ F)) : JC g as false C n l o os Q e h := by
  unfold JC CallAt
  rintro ⟨x, args, ts, caps, as0, hw, ho, hx, ha, rfl⟩
  exact j_mut hw ((call_step ho hx ha hf hle).perm hp) (by rw [hd]; exact hn) fun v h' ⟨h1, q1, q2⟩ => by rw [hd, q2]; exact hj v h1 q1
end

theorem Chg.drop {h h' h'' : Heap} {w w' : World} (c : Chg h h' w w') {h2 : Heap} (hp : h'.Perm h2) (hs : h''.Sublist h2) : Chg h h'' w w' :=
  ⟨c.os, c.tape, c.output, c.size, c.block, fun b hb => c.new b ((keys_perm hp).mem_iff.2 ((hs.filterMap _).subset hb)), (c.heap.perm hp).sub hs⟩
/-- What is not told of is given up. -/
theorem Does.drop {P : Program} {f : FuncId} {as : List A} {h : Heap} {R R' : A → Heap → Prop} (hd : Does P f as h R) (hR : ∀ v h', R v h' → ∃ h2 h3, h'.Perm h2 ∧ h3.Sublist h2 ∧ R' v h3) : Does P f as h R' :=
  ⟨hd.1, fun F w vs hr hh => (hd.2 F w vs hr hh).mono fun e w' ⟨u, v, h', e1, e2, e3, e4⟩ => by
    obtain ⟨h2, h3, p1, p2, p3⟩ := hR v h' e2
    have hp : (h' ++ F).Perm (h2 ++ F) := p1.append_right F
    have hs : (h3 ++ F).Sublist (h2 ++ F) := p2.append (List.Sublist.refl F)
    exact ⟨u, v, h3, e1, p3, e3.drop hp hs, (e4.stab fun b hb => ⟨im_perm hp hb, rfl⟩).heap hs⟩⟩

/-! ### Fields of elements of own lists -/
section
variable {C : Cx} {n : Nat} {Q : Exit → Env → Heap → Prop} {e : Env} {h : Heap} {d : Bool} {l os : List Oper} {o : Oper}
end
end Go.AI

/-
  Calls in statements of open order: with memory of the call's own that is read alone; that write. No condition.
-/
namespace Go.AI
open Go.RowKit
section
variable {C : Cx} {n : Nat} {Q : Exit → Env → Heap → Prop} {e : Env} {h : Heap} {l os : List Oper} {o : Oper} {f : Fl} {fs : List Fl} {B : List (Nat × Blk)}
theorem jctO (hT : Heap) {g : FuncId} {xs all : List A} {R : A → Heap → Prop} {dd : Nat} (hf : Does C.P g all [] R) (hm : f.w = true) (hB : ∀ k ∈ B, k.2 ∈ h) (hp : ∀ k ∈ hT, k ∈ h) (hz : FrzL hT xs all) (hR : ∀ v h1, R v h1 → Clo v ∧ CloH h1) (hd : o.dst = some dd) (hn : Nat.blt dd n = true)
    (hj : ∀ v h1, R v h1 → JO fs B C n l os Q ((dd, v) :: e) (h1 ++ h)) : JCO g xs f fs B C n l o os Q e h := by
  unfold JCO CallAt
  rintro ⟨x, args, ts, caps, as0, hw, ho, hx, ha, rfl⟩
  exact j_mutO hm hw (call_thaw ho hx ha hf hp hz hR) (fun v h' ⟨h1, q1, q2⟩ => by rw [q2]; exact fun k hk => List.mem_append_right _ (hB k hk)) (by rw [hd]; exact hn) fun v h' ⟨h1, q1, q2⟩ => by rw [hd, q2]; exact hj v h1 q1
theorem jcpO (F : Heap) {g : FuncId} {xs all : List A} {R : A → Heap → Prop} {h0 : Heap} {dd : Nat} (hf : Does C.P g all h0 R) (hm : f.w = true) (hp : h.Perm (h0 ++ F)) (hle : LeL xs all) (hd : o.dst = some dd) (hn : Nat.blt dd n = true)
    (hj : ∀ v h1, R v h1 → JO fs [] C n l os Q ((dd, v) :: e) (h1 ++ F)) : JCO g xs f fs [] C n l o os Q e h := by
  unfold JCO CallAt
  rintro ⟨x, args, ts, caps, as0, hw, ho, hx, ha, rfl⟩
  exact j_mutO hm hw ((call_step ho hx ha hf hle).perm hp) (fun _ _ _ k hk => nomatch hk) (by rw [hd]; exact hn) fun v h' ⟨h1, q1, q2⟩ => by rw [hd, q2]; exact hj v h1 q1
end
theorem flat_set {hs : List Heap} {c : Nat} (hc : c < hs.length) (x : Heap) : (x ++ hs.flatten).Perm (hs[c] ++ (hs.set c x).flatten) := by
  induction hs generalizing c with
  | nil => simp at hc
  | cons y hs ih =>
    cases c with
    | zero => simp only [List.set_cons_zero, List.flatten_cons, List.getElem_cons_zero]; classical exact List.perm_iff_count.2 fun _ => by simp only [List.count_append]; omega
    | succ c =>
      have := ih (c := c) (by simpa using hc)
      simp only [List.set_cons_succ, List.flatten_cons, List.getElem_cons_succ]
      classical
      refine List.perm_iff_count.2 fun a => ?_
      have q := List.perm_iff_count.1 this a
      simp only [List.count_append] at q ⊢
      omega
end Go.AI
