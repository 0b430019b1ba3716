/-
  Plain facts on lists of numbers: sums, counts. No condition.
-/
import Derived.Test.YtlllmhjpcdcoiaaZOpen
namespace Go.AI

/-- The sum of what f makes of the elements. -/
def sumF {α : Type} (f : α → Int) : List α → Int
  | [] => 0
  | x :: l => f x + sumF f l
theorem sumF_app {α : Type} (f : α → Int) (x : α) : ∀ l : List α, sumF f (l ++ [x]) = sumF f l + f x
  | [] => by simp [sumF]
  | y :: l => by
    have := sumF_app f x l
    simp only [List.cons_append, sumF, this]; omega
theorem sumF_succ {α : Type} (f : α → Int) {l : List α} {k : Nat} (h : k < l.length) : sumF f (l.take (k + 1)) = sumF f (l.take k) + f l[k] := by
  rw [List.take_succ_eq_append_getElem h, sumF_app]
theorem sumF_bnd {α : Type} (f : α → Int) {lo hi : Int} : ∀ (l : List α), (∀ x ∈ l, lo ≤ f x ∧ f x ≤ hi) → lo * l.length ≤ sumF f l ∧ sumF f l ≤ hi * l.length
  | [], _ => by simp [sumF]
  | x :: l, h => by
    have h1 := h x (by simp)
    have h2 := sumF_bnd f l (fun y hy => h y (by simp [hy]))
    have e : ∀ a : Int, a * ((x :: l).length : Int) = a * l.length + a := fun a => by
      rw [List.length_cons, Int.natCast_succ, Int.mul_add, Int.mul_one]
    rw [e, e, sumF]; omega
theorem sumF_take {α : Type} (f : α → Int) {lo hi : Int} (l : List α) (h : ∀ x ∈ l, lo ≤ f x ∧ f x ≤ hi) (k : Nat) (hk : k ≤ l.length) : lo * k ≤ sumF f (l.take k) ∧ sumF f (l.take k) ≤ hi * k := by
  have := sumF_bnd f (l.take k) (fun x hx => h x (List.mem_of_mem_take hx))
  rw [List.length_take, Nat.min_eq_left hk] at this; exact this
/-- The sum of numbers; how often a number is there. -/
def tot (l : List Int) : Int := sumF (fun x => x) l
def one (x y : Int) : Int := if y = x then 1 else 0
theorem one_bnd (x y : Int) : 0 ≤ one x y ∧ one x y ≤ 1 := by unfold one; split <;> omega
theorem one_t {x y : Int} (h : y = x) : one x y = 1 := by unfold one; rw [if_pos h]
theorem one_f {x y : Int} (h : ¬y = x) : one x y = 0 := by unfold one; rw [if_neg h]
/-- The place of the first element of which r is true; -1 if there is none. -/
noncomputable def fIdx {α : Type} (r : α → Prop) (l : List α) : Int := if l.findIdx (fun x => dec (r x)) < l.length then (l.findIdx (fun x => dec (r x)) : Int) else -1
theorem fIdx_at {α : Type} {r : α → Prop} {l : List α} {k : Nat} (h : k < l.length) (hr : r l[k]) (hn : ∀ i (hi : i < l.length), i < k → ¬ r l[i]) : fIdx r l = k := by
  have e : l.findIdx (fun x => dec (r x)) = k := by
    rw [List.findIdx_eq h]
    exact ⟨dec_t hr, fun j hj => dec_f (hn j (by omega) hj)⟩
  unfold fIdx; rw [e, if_pos h]
theorem fIdx_none {α : Type} {r : α → Prop} {l : List α} (hn : ∀ i (hi : i < l.length), ¬ r l[i]) : fIdx r l = -1 := by
  have e : l.findIdx (fun x => dec (r x)) = l.length := by
    rw [List.findIdx_eq_length]
    intro x hx
    obtain ⟨i, hi, rfl⟩ := List.getElem_of_mem hx
    exact dec_f (hn i hi)
  unfold fIdx; rw [e, if_neg (Nat.lt_irrefl _)]
theorem fIdx_ex {α : Type} (r : α → Prop) (l : List α) : 0 ≤ fIdx r l ↔ ∃ x ∈ l, r x := by
  constructor
  · intro h
    unfold fIdx at h
    split at h
    · rename_i hl
      have := List.findIdx_getElem (xs := l) (p := fun x => dec (r x)) (w := hl)
      exact ⟨_, List.getElem_mem hl, by
        by_cases hr : r l[l.findIdx (fun x => dec (r x))]
        · exact hr
        · rw [dec_f hr] at this; cases this⟩
    · omega
  · rintro ⟨x, hx, hr⟩
    have : l.findIdx (fun x => dec (r x)) < l.length := List.findIdx_lt_length_of_exists ⟨x, hx, dec_t hr⟩
    unfold fIdx; rw [if_pos this]; omega

/-- Bags: from one to eight numbers from 0 to 1000. -/
def Bag (b : List Int) : Prop := (∀ x ∈ b, 0 ≤ x ∧ x ≤ 1000) ∧ 1 ≤ b.length ∧ b.length ≤ 8
theorem Bag.take {b : List Int} (h : Bag b) (k : Nat) (hk : k ≤ b.length) : 0 ≤ sumF (fun x => x) (b.take k) ∧ sumF (fun x => x) (b.take k) ≤ 1000 * k := by
  have := sumF_take (fun x => x) b h.1 k hk
  simpa using this
open Classical in
/-- The code of a condition, and a number under it. -/
noncomputable def cdP (p : Prop) : Int := if p then 0 else 1
open Classical in
noncomputable def numP (p : Prop) (n : Int) : Int := if p then n else 0
theorem cd_t {p : Prop} (h : p) : cdP p = 0 := by unfold cdP; rw [if_pos h]
theorem cd_f {p : Prop} (h : ¬p) : cdP p = 1 := by unfold cdP; rw [if_neg h]
open Classical in
/-- The code of two conditions, one behind the other. -/
noncomputable def cd2 (p q : Prop) : Int := if p then (if q then 0 else 2) else 1
open Classical in
noncomputable def cd3 (p q r : Prop) : Int := if p then (if q then (if r then 0 else 4) else 2) else 1
theorem dec_congr {p q : Prop} (h : p ↔ q) : dec p = dec q := by rw [propext h]
/-- Lists whose sums stay within range. -/
def Small (b : List Int) : Prop := (∀ x ∈ b, -1000000000 ≤ x ∧ x ≤ 1000000000) ∧ b.length ≤ 1000000
theorem Bag.small {b : List Int} (h : Bag b) : Small b := ⟨fun x hx => by have := h.1 x hx; omega, by have := h.2; omega⟩
theorem Small.take {b : List Int} (h : Small b) (k : Nat) (hk : k ≤ b.length) : -1000000000 * k ≤ sumF (fun x => x) (b.take k) ∧ sumF (fun x => x) (b.take k) ≤ 1000000000 * k :=
  sumF_take (fun x => x) b h.1 k hk
end Go.AI

/-
  More rules of the walk: elements of lists of the call's own, the tail of a list. No condition.
-/
namespace Go.AI
open Go.RowKit

section
variable {C : Cx} {n : Nat} {Q : Exit → Env → Heap → Prop} {e : Env} {h h' : Heap} {d : Bool} {l os : List Oper} {o : Oper} {f : Fl} {fs : List Fl} {B : List (Nat × Blk)}
theorem drop_flat {α : Type} {g : α → List A} {z : Nat} (hz : ∀ y, (g y).length = z) : ∀ (L : List α) (m : Nat) (hm : m < L.length), (L.map g).flatten.drop (m * z) = g L[m] ++ ((L.drop (m + 1)).map g).flatten
  | [], m, hm => absurd hm (Nat.not_lt_zero _)
  | x :: L, 0, hm => by simp
  | x :: L, m + 1, hm => by
    have ih := drop_flat hz L m (by simpa using hm)
    simp only [List.map_cons, List.flatten_cons, List.drop_succ_cons, List.getElem_cons_succ]
    have e1 : (m + 1) * z = (g x).length + m * z := by rw [hz, Nat.succ_mul]; omega
    rw [e1, List.drop_length_add_append]; exact ih

/-- '.. = s[m]', s a list of the call's own. -/
theorem j_mloadE (i m : Nat) {α : Type} {g : α → List A} {L : List α} {z : Nat} {T b p T' room dd : Nat} {x : Operand} {v : A} (hw : wantE l e o = some true) (ho : o.op = .load T x) (hx : evO e x = some (.op (some b) p)) (hi : h[i]? = some ⟨some b, T', room, (L.map g).flatten⟩)
    (hz : ∀ y, (g y).length = z) (hp : p = m * z) (hm : m < L.length) (hv : ∀ rest, loadA C.ty T (g L[m] ++ rest) = some v) (hd : o.dst = some dd) (hn : Nat.blt dd n = true) (hj : J d C n l os Q ((dd, v) :: e) h) : J d C n l (o :: os) Q e h :=
  j_mload i hw ho hx hi (by rw [hp, drop_flat hz L m hm]; exact hv _) hd hn hj
theorem j_mloadEO (i m : Nat) {α : Type} {g : α → List A} {L : List α} {z : Nat} {T b p T' room dd : Nat} {x : Operand} {v : A} (ht : f.tight = true) (hw : wantE l e o = some true) (ho : o.op = .load T x) (hx : evO e x = some (.op (some b) p)) (hi : h[i]? = some ⟨some b, T', room, (L.map g).flatten⟩)
    (hz : ∀ y, (g y).length = z) (hp : p = m * z) (hm : m < L.length) (hv : ∀ rest, loadA C.ty T (g L[m] ++ rest) = some v) (hd : o.dst = some dd) (hn : Nat.blt dd n = true) (hj : JO fs B C n l os Q ((dd, v) :: e) h) : JO (f :: fs) B C n l (o :: os) Q e h :=
  j_mloadO i ht hw ho hx hi (by rw [hp, drop_flat hz L m hm]; exact hv _) hd hn hj
theorem buildA_quiet {T sz bytes ln E z : Nat} {zk : List ZK} {parts : Array (Nat × Operand)} {cs : List A} (ho : o.op = .build T parts) (hT : C.ty T = some ⟨sz, .arr ln E z⟩) (hz : C.zt T = some (zk, bytes))
    (hf : fillA e (fun i => some (i * z, z)) parts.toList (zk.map ZK.a) = some cs) : Quiet C.P o e h (.agg cs) := by
  apply Quiet.of_same
  intro a w hs
  have hops := hs.ops
  rw [ho] at hops
  have hti := C.ok _ _ hT
  simp only [TIok, Bool.and_eq_true] at hti
  obtain ⟨hu, hze⟩ := und_arr hti.2
  have hse := run_sizeOf hze w
  obtain ⟨z0, hz1, hz2⟩ := C.zok _ _ _ hz
  have hzr := run_zero hz1 w
  have hzrel : RelL (Im w h) w (zk.map ZK.a) (zk.map ZK.val) := ⟨by simp, fun j hj hj' => by simpa using ZK.rel _ _ _⟩
  obtain ⟨vs', q1, q2⟩ := fill_run (S := Im w h) (w := w) (a := a) (e := e) (place := fun i => some (i * z, z)) (place' := fun i => some (i * z, z)) (fun _ _ h => h) parts.toList _ cs (zk.map ZK.val) (fun p hp v hv => hops p.2 (by simp [Op.operands]; exact ⟨p.1, by simpa using hp⟩) v hv) hf hzrel
  refine ⟨.agg vs'.toArray, ?_, .agg cs vs' q2.1 q2.2⟩
  have hm : (parts.map fun p => (p.1, a.eval p.2)).toList = parts.toList.map fun p => (p.1, a.eval p.2) := by simp
  simp only [execOp, ho, Instr.build, Sem.run_bind, hzr, Result.andThen_ok, run_underlying hu, hse, hz2]
  rw [hm, q1]
  rfl
theorem j_buildA {T sz bytes ln E z dd : Nat} {zk : List ZK} {parts : Array (Nat × Operand)} {cs : List A} (hw : wantE l e o = some true) (ho : o.op = .build T parts) (hT : C.ty T = some ⟨sz, .arr ln E z⟩) (hz : C.zt T = some (zk, bytes))
    (hf : fillA e (fun i => some (i * z, z)) parts.toList (zk.map ZK.a) = some cs) (hd : o.dst = some dd) (hn : Nat.blt dd n = true) (hj : J d C n l os Q ((dd, .agg cs) :: e) h) : J d C n l (o :: os) Q e h := j_quiet hw (fun _ => buildA_quiet ho hT hz hf) hd hn hj
/-- 's[m:]'. -/
theorem j_tail (m : Nat) {α : Type} {g : α → List A} {ys : List α} {T E z sz dd : Nat} {x : Operand} {lo : Option Operand} (hw : wantE l e o = some true) (ho : o.op = .slice T x lo none none) (hT : C.ty T = some ⟨sz, .slice E z⟩) (hx : evO e x = some (.sl (ys.map g))) (hlo : bndO e 0 lo = some (.int (m : Int)))
    (hb : m ≤ ys.length) (hz : ∀ y, (g y).length = z) (hd : o.dst = some dd) (hn : Nat.blt dd n = true) (hj : J d C n l os Q ((dd, .sl ((ys.drop m).map g)) :: e) h) : J d C n l (o :: os) Q e h :=
  j_slice hw ho hT hx hlo (b := ((ys.map g).length : Int)) rfl (by rw [List.length_map]; omega) hz hd hn (by
    have e1 : ((((ys.map g).length : Nat) : Int)).toNat = ys.length := by rw [List.length_map]; omega
    have e2 : ((m : Int)).toNat = m := by omega
    rw [e1, e2, List.take_length]; exact hj)
end
end Go.AI

/-
  Data whose memory is the call's own, all of it: what is told of it, how it is read for a while, and the calls that do so. No condition.
-/
namespace Go.AI
open Go.RowKit

/-- Told alike in whatever memory. -/
def Clo (a : A) : Prop := ∀ (S S' : Nat → Prop) (w w' : World) (v : Value), Rel S w a v → Rel S' w' a v
def CloL (as : List A) : Prop := ∀ a ∈ as, Clo a
def CloH (h : Heap) : Prop := ∀ k ∈ h, CloL k.cs
theorem Clo.int (n : Int) : Clo (.int n) := fun _ _ _ _ _ r => by cases r with | int _ h => exact .int _ h
theorem Clo.raw (v : Value) : Clo (.raw v) := fun _ _ _ _ _ r => by cases r; exact .raw _
theorem Clo.any (p : Value → Prop) : Clo (.any p) := fun _ _ _ _ _ r => by cases r with | any _ _ h => exact .any _ _ h
theorem Clo.os (b : Option Nat) (n cap : Nat) : Clo (.os b n cap) := fun _ _ _ _ _ r => by
  cases r with
  | os _ _ _ h => exact .os _ _ _ h
  | osn a => exact .osn a
theorem CloL.nil : CloL [] := fun _ h => by cases h
theorem CloL.cons {a : A} {as : List A} (h : Clo a) (t : CloL as) : CloL (a :: as) := fun x hx => by
  rcases List.mem_cons.1 hx with rfl | hx
  · exact h
  · exact t x hx
theorem CloL.rel {S S' : Nat → Prop} {w w' : World} {cs : List A} {vs : List Value} (h : CloL cs) (r : RelL S w cs vs) : RelL S' w' cs vs := ⟨r.1, fun j hj hj' => h _ (List.getElem_mem hj) _ _ _ _ _ (r.2 j hj hj')⟩
theorem Clo.agg {cs : List A} (h : CloL cs) : Clo (.agg cs) := fun S S' w w' v r => by
  obtain ⟨vs, rfl, rl⟩ := r.agg_inv
  have := h.rel (S' := S') (w' := w') rl
  exact .agg cs vs this.1 this.2
theorem Clo.tup {cs : List A} (h : CloL cs) : Clo (.tup cs) := fun S S' w w' v r => by
  obtain ⟨vs, rfl, rl⟩ := r.tup_inv
  have := h.rel (S' := S') (w' := w') rl
  exact .tup cs vs this.1 this.2
theorem CloL.flat {css : List (List A)} (h : ∀ cs ∈ css, CloL cs) : CloL css.flatten := fun a ha => by
  obtain ⟨cs, h1, h2⟩ := List.mem_flatten.1 ha
  exact h cs h1 a h2
theorem CloL.mapInt {α : Type} (f : α → Int) (l : List α) : CloL ((l.map fun x => [A.int (f x)]).flatten) := CloL.flat fun cs h => by
  obtain ⟨x, _, rfl⟩ := List.mem_map.1 h
  exact CloL.cons (Clo.int _) CloL.nil
theorem CloH.nil : CloH [] := fun _ h => by cases h
theorem CloH.cons {k : Blk} {h : Heap} (hk : CloL k.cs) (t : CloH h) : CloH (k :: h) := fun x hx => by
  rcases List.mem_cons.1 hx with rfl | hx
  · exact hk
  · exact t x hx
theorem CloH.append {h h' : Heap} (a : CloH h) (b : CloH h') : CloH (h ++ h') := fun x hx => by
  rcases List.mem_append.1 hx with hx | hx
  · exact a x hx
  · exact b x hx
theorem CloH.flat {hs : List Heap} (h : ∀ x ∈ hs, CloH x) : CloH hs.flatten := fun a ha => by
  obtain ⟨cs, h1, h2⟩ := List.mem_flatten.1 ha
  exact h cs h1 a h2
theorem BlkOk.clo {S S' : Nat → Prop} {w w' : World} {k : Blk} (hc : CloL k.cs) (hb : ∀ b, k.b = some b → w'.heap[b]? = w.heap[b]?) (H : BlkOk S w k) : BlkOk S' w' k := by
  unfold BlkOk at *
  split at H
  · exact H
  · rename_i b hk
    obtain ⟨vs, rest, e, r, hr⟩ := H
    exact ⟨vs, rest, by rw [hb b hk]; exact e, hc.rel r, hr⟩

/-- The data cs, whose memory hT is, can be read as cs'. -/
def FrzL (hT : Heap) (cs cs' : List A) : Prop := ∀ (h : Heap) (w : World) (vs : List Value), (∀ k ∈ hT, k ∈ h) → HeapOk h w → RelL (Im w h) w cs vs → RelL (Im w []) w cs' vs
def Frz (hT : Heap) (a a' : A) : Prop := ∀ (h : Heap) (w : World) (v : Value), (∀ k ∈ hT, k ∈ h) → HeapOk h w → Rel (Im w h) w a v → Rel (Im w []) w a' v
theorem Frz.same (hT : Heap) (a : A) : Frz hT a a := fun h _ _ _ _ r => r.heap (List.nil_sublist h)
theorem Frz.mono {h h' : Heap} {a a' : A} (hs : ∀ k ∈ h', k ∈ h) (H : Frz h' a a') : Frz h a a' := fun F w v hm ho r => H F w v (fun k hk => hm k (hs k hk)) ho r
theorem FrzL.nil (h : Heap) : FrzL h [] [] := fun _ _ _ _ _ r => ⟨r.1, fun j hj => absurd hj (Nat.not_lt_zero _)⟩
theorem FrzL.cons {h : Heap} {a a' : A} {cs cs' : List A} (H : Frz h a a') (T : FrzL h cs cs') : FrzL h (a :: cs) (a' :: cs') := fun F w vs hm ho r => by
  obtain ⟨v, us, rfl, h1, h2⟩ := r.uncons
  exact RelL.cons (H F w v hm ho h1) (T F w us hm ho h2)
theorem FrzL.mono {h h' : Heap} {a a' : List A} (hs : ∀ k ∈ h', k ∈ h) (H : FrzL h' a a') : FrzL h a a' := fun F w v hm ho r => H F w v (fun k hk => hm k (hs k hk)) ho r
theorem Frz.agg {h : Heap} {cs cs' : List A} (H : FrzL h cs cs') : Frz h (.agg cs) (.agg cs') := fun F w v hm ho r => by
  obtain ⟨vs, rfl, rl⟩ := r.agg_inv
  have := H F w vs hm ho rl
  exact .agg cs' vs this.1 this.2
/-- A list of the call's own over the whole of its block. -/
theorem Frz.flat {α : Type} {g : α → List A} {ys : List α} {z n : Nat} {b : Option Nat} {T room cap : Nat} {cs : List A} (hn : n = ys.length) (hcs : cs = (ys.map g).flatten) (hz : ∀ y, (g y).length = z) (hroom : room = cap * z) (hz0 : Nat.blt 0 z = true) : Frz [⟨b, T, room, cs⟩] (.os b n cap) (.sl (ys.map g)) := fun h w v hm ho r => by
  subst hn
  cases b with
  | none =>
    obtain ⟨h1, h2, p, h3⟩ := r.osn_inv
    have : ys = [] := List.eq_nil_of_length_eq_zero h1
    subst this
    rw [h3]; exact .nil _ _
  | some b =>
    obtain ⟨e1, hlen⟩ := r.os_inv
    rw [e1]
    have hmem := hm _ (List.mem_singleton.2 rfl)
    obtain ⟨vs, rest, hb, hr, hrm⟩ := ho.at hmem
    rw [hcs] at hr
    have hlt := ho.lt (mem_keys hmem rfl)
    have hvl : vs.length = ys.length * z := by rw [hr.1, flat_len hz]
    have hzp : 0 < z := Nat.le_of_ble_eq_true hz0
    have hcap : ys.length ≤ cap := by
      have : ys.length * z ≤ cap * z := by rw [← hroom, hrm, ← hvl]; simp
      exact Nat.le_of_mul_le_mul_right this hzp
    have bound : ∀ i j, i < ys.length → j < z → i * z + j < ys.length * z := fun i j h1 h2 => by
      have : (i + 1) * z ≤ ys.length * z := Nat.mul_le_mul_right z h1
      rw [Nat.succ_mul] at this; omega
    have key : Rel (Im w []) w (.sl (ys.map g)) (.slice (some ⟨b, 0, none⟩) (ys.map g).length cap) := by
      refine .sl _ b 0 cap z (fun i j => vs.getD (i * z + j) undef) ⟨hlt, by simp [keys]⟩ (by simpa using hlen) (by simpa using hcap) (fun i hi => by simpa using hz _) (fun i j hi hj => ?_) (fun i j hi hj => ?_)
      · simp at hi
        have hv : i * z + j < vs.length := by rw [hvl]; exact bound i j hi hj
        rw [Nat.zero_add, cell_of_vs hb _ hv]; simp [hv]
      · simp at hi hj
        have hj' : j < z := by rw [← hz ys[i]]; exact hj
        have hv : i * z + j < vs.length := by rw [hvl]; exact bound i j hi hj'
        obtain ⟨u, hu1, hu2⟩ := hr.get (flat_get ys i j hi hj hz)
        have : vs.getD (i * z + j) undef = u := by simp [hu1]
        rw [this]
        simpa using hu2.heap (List.nil_sublist h)
    simpa using key

abbrev Cells (z : Nat) := {l : List A // l.length = z}
/-- A list whose elements' cells and memory are told by E, in memory of the call's own. -/
def OwnSl {α : Type} (E : α → List A → Heap → Prop) (T z : Nat) (xs : List α) (a : A) (h : Heap) : Prop :=
  ∃ (b : Nat) (css : List (Cells z)) (hs : List Heap), css.length = xs.length ∧ hs.length = xs.length ∧ (∀ i (hi : i < xs.length) (h1 : i < css.length) (h2 : i < hs.length), E xs[i] css[i].1 hs[i]) ∧
    a = .os (some b) xs.length xs.length ∧ h = ⟨some b, T, xs.length * z, (css.map Subtype.val).flatten⟩ :: hs.flatten

theorem OwnSl.frz {α : Type} {E : α → List A → Heap → Prop} {enc : α → List A} {T z : Nat} {xs : List α} {a : A} {h : Heap} (hz : ∀ x, (enc x).length = z) (hE : ∀ x cs h, E x cs h → FrzL h cs (enc x)) (o : OwnSl E T z xs a h) : Frz h a (.sl (xs.map enc)) := by
  obtain ⟨b, css, hs, l1, l2, hall, rfl, rfl⟩ := o
  intro F w v hm ho r
  obtain ⟨e1, hlen⟩ := r.os_inv
  rw [e1]
  have hmem := hm (⟨some b, T, xs.length * z, (css.map Subtype.val).flatten⟩ : Blk) (List.mem_cons_self ..)
  obtain ⟨vs, rest, hb, hr, hrm⟩ := ho.at hmem
  have hlt := ho.lt (mem_keys hmem rfl)
  have hc2 : ∀ y : Cells z, (Subtype.val y).length = z := fun y => y.2
  have hvl : vs.length = xs.length * z := by rw [hr.1, flat_len hc2, l1]
  have bound : ∀ i j, i < xs.length → j < z → i * z + j < xs.length * z := fun i j h1 h2 => by
    have : (i + 1) * z ≤ xs.length * z := Nat.mul_le_mul_right z h1
    rw [Nat.succ_mul] at this; omega
  have key : Rel (Im w []) w (.sl (xs.map enc)) (.slice (some ⟨b, 0, none⟩) (xs.map enc).length xs.length) := by
    refine .sl _ b 0 xs.length z (fun i j => vs.getD (i * z + j) undef) ⟨hlt, by simp [keys]⟩ (by simpa using hlen) (by simp) (fun i hi => by simpa using hz _) (fun i j hi hj => ?_) (fun i j hi hj => ?_)
    · simp at hi
      have hv : i * z + j < vs.length := by rw [hvl]; exact bound i j hi hj
      rw [Nat.zero_add, cell_of_vs hb _ hv]; simp [hv]
    · simp only [List.length_map] at hi
      have hj' : j < z := by
        have := hz xs[i]
        simp only [List.getElem_map] at hj; omega
      have hi1 : i < css.length := by omega
      have hi2 : i < hs.length := by omega
      have seg : RelL (Im w F) w css[i].1 ((List.range z).map fun j => vs.getD (i * z + j) undef) := by
        refine ⟨by simp [css[i].2], fun q hq hq' => ?_⟩
        have hqz : q < z := by have := css[i].2; omega
        obtain ⟨u, hu1, hu2⟩ := hr.get (flat_get (f := Subtype.val) css i q hi1 hq hc2)
        have e3 : vs.getD (i * z + q) undef = u := by simp [hu1]
        simp only [List.getElem_map, List.getElem_range, e3]
        exact hu2
      have := (hE _ _ _ (hall i hi hi1 hi2)) F w _ (fun k hk => hm k (List.mem_cons_of_mem _ (List.mem_flatten.2 ⟨_, List.getElem_mem hi2, hk⟩))) ho seg
      have h3 := this.2 j (by rw [hz]; exact hj') (by simpa using hj')
      simpa using h3
  simpa using key

section
variable {C : Cx} {n : Nat} {Q : Exit → Env → Heap → Prop} {e : Env} {h : Heap} {l os : List Oper} {o : Oper}

/-- A call that reads data of the call's own as if nobody wrote it: what it hands back shares no memory with it. -/
theorem call_thaw {P : Program} {f : FuncId} {x : Operand} {args : Array Operand} {ts : Array TypeId} {hT : Heap} {caps as all : List A} {R : A → Heap → Prop} (ho : o.op = .call ⟨.value x, args, ts⟩) (hx : evO e x = some (.fn f caps))
    (ha : mapEv e args.toList = some as) (hf : Does P f all [] R) (hp : ∀ k ∈ hT, k ∈ h) (hz : FrzL hT (as ++ caps) all) (hR : ∀ v h1, R v h1 → Clo v ∧ CloH h1) : MStep P o e h fun v h' => ∃ h1, R v h1 ∧ h' = h1 ++ h := by
  intro a w hs
  have hops := hs.ops
  rw [ho] at hops
  obtain ⟨us, e1, ru⟩ := (hops x (by simp [Op.operands, Call.operands]) _ hx).fn_inv
  have ra := RelL.mapEv (a := a) (w := w) (h := h) (fun y hy => hops y (by simp [Op.operands, Call.operands, Array.mem_toList_iff.1 hy])) ha
  unfold Yields
  rw [exec_call hf.1 ho e1]
  have r2 := hz h w _ hp hs.heap (ra.append ru)
  refine (hf.2 [] w _ r2 ⟨by simp [keys], by simp, hs.heap.tab.stab fun _ hb => ⟨⟨hb.1, by simp [keys]⟩, rfl⟩⟩).mono fun e w' ⟨u, v, h', q1, q2, q3, q4⟩ => ⟨u, q1, v, h' ++ h, ⟨h', q2, rfl⟩, ?_, (hR v h' q2).1 _ _ _ _ _ q4⟩
  have kap : ∀ x y : Heap, keys (x ++ y) = keys x ++ keys y := fun x y => List.filterMap_append
  simp only [List.append_nil] at q3
  have hnew : ∀ b ∈ keys h', w.heap.size ≤ b := fun b hb => (q3.new b hb).elim (fun q => by simp [keys] at q) id
  have same : ∀ b, b < w.heap.size → w'.heap[b]? = w.heap[b]? := fun b hb => q3.block b hb (by simp [keys])
  have im : ∀ b, Im w h b → Im w' (h' ++ h) b ∧ w'.heap[b]? = w.heap[b]? := fun b hb => ⟨⟨Nat.lt_of_lt_of_le hb.1 q3.size, fun hm => by
    rw [kap] at hm
    rcases List.mem_append.1 hm with q | q
    · have := hnew b q; have := hb.1; omega
    · exact hb.2 q⟩, same b hb.1⟩
  refine ⟨q3.os, q3.tape, q3.output, q3.size, fun k hk _ => same k hk, fun b hb => ?_, ⟨?_, fun k hk => ?_, hs.heap.tab.stab im⟩⟩
  · rw [kap] at hb
    rcases List.mem_append.1 hb with hb | hb
    · exact .inr (hnew b hb)
    · exact .inl hb
  · rw [kap]
    exact List.nodup_append.2 ⟨q3.heap.nodup, hs.heap.nodup, fun b hb c hc q => by
      subst q
      have := hs.heap.lt hc
      have := hnew b hb
      omega⟩
  · rcases List.mem_append.1 hk with hk | hk
    · exact (q3.heap.blk k hk).clo ((hR v h' q2).2 k hk) fun _ _ => rfl
    · exact (hs.heap.blk k hk).stab im fun b hb => same b (hs.heap.lt (mem_keys hk hb))

theorem MStep.quiet {P : Program} {R : A → Heap → Prop} {v : A} (hm : MStep P o e h R) (hi : ∀ u h1, R u h1 → u = v ∧ h1 = h) : Quiet P o e h v := fun a w hs => by
  have := hm a w hs
  unfold Yields at this ⊢
  generalize (execOp a.eval o).run P w = r at this ⊢
  have conv : ∀ u w', (∃ v h1, R v h1 ∧ Chg h h1 w w' ∧ Rel (Im w' h1) w' v u) → Chg h h w w' ∧ Rel (Im w' h) w' v u := fun u w' ⟨v, h1, q1, q2, q3⟩ => by
    obtain ⟨rfl, rfl⟩ := hi v h1 q1
    exact ⟨q2, q3⟩
  cases r with
  | ok nx w' =>
    cases nx <;> first | exact conv _ _ this | (exact this.elim) | (exact this.mono fun e w'' ⟨u, he, hR⟩ => ⟨u, he, conv _ _ hR⟩)
  | halt x w' => exact this.elim

/-- .. as a step: the memory hT of the data is read for a while. -/
theorem jct (hT : Heap) {g : FuncId} {as all : List A} {R : A → Heap → Prop} {dd : Nat} (hf : Does C.P g all [] R) (hp : ∀ k ∈ hT, k ∈ h) (hz : FrzL hT as all) (hR : ∀ v h1, R v h1 → Clo v ∧ CloH h1) (hd : o.dst = some dd) (hn : Nat.blt dd n = true)
    (hj : ∀ v h1, R v h1 → J false C n l os Q ((dd, v) :: e) (h1 ++ h)) : JC g as false C n l o os Q e h := by
  unfold JC CallAt
  rintro ⟨x, args, ts, caps, as0, hw, ho, hx, ha, rfl⟩
  exact j_mut hw (call_thaw ho hx ha hf hp hz hR) (by rw [hd]; exact hn) fun v h' ⟨h1, q1, q2⟩ => by rw [hd, q2]; exact hj v h1 q1
theorem jctq (hT : Heap) {d : Bool} {g : FuncId} {as all : List A} {v : A} {dd : Nat} (hf : Gives C.P g all v) (hv : Clo v) (hp : ∀ k ∈ hT, k ∈ h) (hz : FrzL hT as all) (hd : o.dst = some dd) (hn : Nat.blt dd n = true)
    (hj : J d C n l os Q ((dd, v) :: e) h) : JC g as d C n l o os Q e h := by
  unfold JC CallAt
  rintro ⟨x, args, ts, caps, as0, hw, ho, hx, ha, rfl⟩
  exact j_at hw ((call_thaw ho hx ha hf.does hp hz fun u h1 ⟨q1, q2⟩ => by subst q1 q2; exact ⟨hv, CloH.nil⟩).quiet fun u h1 ⟨h2, ⟨q1, q2⟩, q3⟩ => by subst q1 q2 q3; exact ⟨rfl, rfl⟩) hd hn hj
/-- A call that writes: the memory h0 is handed over, wherever it stands. -/
theorem jcp (F : Heap) {g : FuncId} {as all : List A} {R : A → Heap → Prop} {h0 : Heap} {dd : Nat} (hf : Does C.P g all h0 R) (hp : h.Perm (h0 ++ F)) (hle : LeL as all) (hd : o.dst = some dd) (hn : Nat.blt dd n = true)
    (hj : ∀ v h1, R v h1 → J false C n l os Q ((dd, v) :: e) (h1 ++ F)) : JC g as false C n l o os Q e h := by
  unfold JC CallAt
  rintro ⟨x, args, ts, caps, as0, hw, ho, hx, ha, rfl⟩
  exact j_mut hw ((call_step ho hx ha hf hle).perm hp) (by rw [hd]; exact hn) fun v h' ⟨h1, q1, q2⟩ => by rw [hd, q2]; exact hj v h1 q1
end

theorem Chg.drop {h h' h'' : Heap} {w w' : World} (c : Chg h h' w w') {h2 : Heap} (hp : h'.Perm h2) (hs : h''.Sublist h2) : Chg h h'' w w' :=
  ⟨c.os, c.tape, c.output, c.size, c.block, fun b hb => c.new b ((keys_perm hp).mem_iff.2 ((hs.filterMap _).subset hb)), (c.heap.perm hp).sub hs⟩
/-- What is not told of is given up. -/
theorem Does.drop {P : Program} {f : FuncId} {as : List A} {h : Heap} {R R' : A → Heap → Prop} (hd : Does P f as h R) (hR : ∀ v h', R v h' → ∃ h2 h3, h'.Perm h2 ∧ h3.Sublist h2 ∧ R' v h3) : Does P f as h R' :=
  ⟨hd.1, fun F w vs hr hh => (hd.2 F w vs hr hh).mono fun e w' ⟨u, v, h', e1, e2, e3, e4⟩ => by
    obtain ⟨h2, h3, p1, p2, p3⟩ := hR v h' e2
    have hp : (h' ++ F).Perm (h2 ++ F) := p1.append_right F
    have hs : (h3 ++ F).Sublist (h2 ++ F) := p2.append (List.Sublist.refl F)
    exact ⟨u, v, h3, e1, p3, e3.drop hp hs, (e4.stab fun b hb => ⟨im_perm hp hb, rfl⟩).heap hs⟩⟩

/-! ### Fields of elements of own lists -/
theorem splice_cells {z : Nat} : ∀ (L : List (Cells z)) (m j : Nat) (u : A) (hm : m < L.length) (hj : j < z), splice ((L.map Subtype.val).flatten) (m * z + j) [u] = ((L.set m ⟨L[m].1.set j u, by rw [List.length_set]; exact L[m].2⟩).map Subtype.val).flatten
  | [], m, j, u, hm, _ => absurd hm (Nat.not_lt_zero _)
  | x :: L, 0, j, u, hm, hj => by
    have hx := x.2
    simp only [splice, Nat.zero_mul, Nat.zero_add, List.map_cons, List.flatten_cons, List.set_cons_zero, List.getElem_cons_zero, List.length_cons, List.length_nil]
    have e1 : (x.1 ++ (L.map Subtype.val).flatten).take j = x.1.take j := by rw [List.take_append_of_le_length (by omega)]
    have e2 : (x.1 ++ (L.map Subtype.val).flatten).drop (j + 1) = x.1.drop (j + 1) ++ (L.map Subtype.val).flatten := by rw [List.drop_append_of_le_length (by omega)]
    rw [e1, e2, List.set_eq_take_append_cons_drop, if_pos (by omega)]
    simp
  | x :: L, m + 1, j, u, hm, hj => by
    have hx := x.2
    have ih := splice_cells L m j u (by simpa using hm) hj
    simp only [splice] at ih ⊢
    have e0 : (m + 1) * z + j = x.1.length + (m * z + j) := by rw [Nat.succ_mul, hx]; omega
    simp only [List.map_cons, List.flatten_cons, List.set_cons_succ, List.getElem_cons_succ]
    rw [e0, List.take_length_add_append, Nat.add_assoc, List.drop_length_add_append]
    rw [← ih]
    simp [List.append_assoc]

section
variable {C : Cx} {n : Nat} {Q : Exit → Env → Heap → Prop} {e : Env} {h : Heap} {d : Bool} {l os : List Oper} {o : Oper}
theorem j_storeF (i m j : Nat) {z : Nat} {L : List (Cells z)} {u : A} {T b p T' room sz : Nat} {k : TK} {x y : Operand} {v : A} (hw : wantE l e o = some true) (ho : o.op = .store T x y) (hd : o.dst = none) (hT : C.ty T = some ⟨sz, k⟩) (hx : evO e x = some (.op (some b) p))
    (hi : h[i]? = some ⟨some b, T', room, (L.map Subtype.val).flatten⟩) (hy : evO e y = some v) (hc : cellsA v = some [u]) (hok : okCell u = true) (hs : sz = 1) (hp : p = m * z + j) (hm : m < L.length) (hjz : j < z)
    (hj : J false C n l os Q e (h.set i ⟨some b, T', room, ((L.set m ⟨L[m].1.set j u, by rw [List.length_set]; exact L[m].2⟩).map Subtype.val).flatten⟩)) : J false C n l (o :: os) Q e h := by
  have hc2 : ∀ y : Cells z, (Subtype.val y).length = z := fun y => y.2
  have hle : p + [u].length ≤ ((L.map Subtype.val).flatten).length := by
    have : (m + 1) * z ≤ L.length * z := Nat.mul_le_mul_right z hm
    rw [flat_len hc2, hp]; rw [Nat.succ_mul] at this; simp; omega
  refine j_mut hw (store_step ho hT hx hi hy hc (by simp [hok]) (by simp [hs]) hle) (by rw [hd]; rfl) fun v h' ⟨_, h2⟩ => ?_
  rw [hd, h2, hp, splice_cells L m j u hm hjz]; exact hj
theorem j_loadF (i m j : Nat) {z : Nat} {L : List (Cells z)} {T b p T' room dd : Nat} {x : Operand} {v : A} (hw : wantE l e o = some true) (ho : o.op = .load T x) (hx : evO e x = some (.op (some b) p)) (hi : h[i]? = some ⟨some b, T', room, (L.map Subtype.val).flatten⟩)
    (hp : p = m * z + j) (hm : m < L.length) (hjz : j ≤ z) (hv : ∀ rest, loadA C.ty T (L[m].1.drop j ++ rest) = some v) (hd : o.dst = some dd) (hn : Nat.blt dd n = true) (hj : J d C n l os Q ((dd, v) :: e) h) : J d C n l (o :: os) Q e h := by
  have hc2 : ∀ y : Cells z, (Subtype.val y).length = z := fun y => y.2
  refine j_mload i hw ho hx hi ?_ hd hn hj
  have h2 := L[m].2
  rw [hp, ← List.drop_drop, drop_flat hc2 L m hm, List.drop_append_of_le_length (by omega)]
  exact hv _
end
end Go.AI

/-
  Plain facts on copies in memory of the call's own. No condition.
-/
namespace Go.AI
open Go.RowKit
def mcnt {α : Type} (f : α → Nat) (l : List α) : Nat := (l.map f).sum
theorem mcnt_take {α : Type} {f : α → Nat} {l : List α} {k : Nat} (hk : k < l.length) : mcnt f (l.take (k + 1)) = mcnt f (l.take k) + f l[k] := by
  unfold mcnt
  rw [List.take_succ_eq_append_getElem hk, List.map_append, List.sum_append]
  simp
theorem mcnt_take_le {α : Type} {f : α → Nat} : ∀ (k : Nat) (l : List α), mcnt f (l.take k) ≤ mcnt f l
  | 0, l => by simp [mcnt]
  | k + 1, [] => by simp
  | k + 1, x :: l => by
    have := mcnt_take_le (f := f) k l
    simp only [mcnt, List.take_succ_cons, List.map_cons, List.sum_cons] at this ⊢
    omega
theorem mcnt_le {α : Type} {f : α → Nat} {M : Nat} : ∀ {l : List α}, (∀ x ∈ l, f x ≤ M) → mcnt f l ≤ l.length * M
  | [], _ => by simp [mcnt]
  | x :: l, h => by
    have h1 := mcnt_le (f := f) (M := M) (l := l) fun y hy => h y (List.mem_cons_of_mem _ hy)
    have h2 := h x (List.mem_cons_self ..)
    simp only [mcnt, List.map_cons, List.sum_cons, List.length_cons] at h1 ⊢
    rw [Nat.succ_mul]; omega
theorem mcnt_le2 {α : Type} {f : α → Nat} {M N : Nat} {l : List α} (hn : l.length ≤ N) (h : ∀ x ∈ l, f x ≤ M) : mcnt f l ≤ N * M := Nat.le_trans (mcnt_le h) (Nat.mul_le_mul_right _ hn)
theorem sing_flat : ∀ (l : List A), (l.map fun a => [a]).flatten = l
  | [] => rfl
  | x :: l => by simp only [List.map_cons, List.flatten_cons, sing_flat l]; rfl
theorem range_set {f : Nat → A} {cs : List A} {i : Nat} (v : A) (hv : v = f i) (hi : i < cs.length) : (((List.range i).map f) ++ cs.drop i).set i v = ((List.range (i + 1)).map f) ++ cs.drop (i + 1) := by
  rw [List.set_append_right _ _ (by simp)]
  rw [List.drop_eq_getElem_cons hi]
  have : i - ((List.range i).map f).length = 0 := by simp
  rw [this, List.set_cons_zero, List.range_succ, hv]
  simp
theorem own_flat {α : Type} {g : α → List A} {T z b : Nat} {l : List α} (hz : ∀ x, (g x).length = z) : OwnSl (fun x cs h => cs = g x ∧ h = []) T z l (.os (some b) l.length l.length) [⟨some b, T, l.length * z, (l.map g).flatten⟩] :=
  ⟨b, l.map fun x => ⟨g x, hz x⟩, l.map fun _ => [], by simp, by simp, fun i hi h1 h2 => ⟨by simp, by simp⟩, rfl, by
    have e1 : ((l.map fun x => (⟨g x, hz x⟩ : Cells z)).map Subtype.val) = l.map g := by simp [Function.comp_def]
    have e2 : (l.map fun _ => ([] : Heap)).flatten = [] := by
      induction l with
      | nil => rfl
      | cons x l ih => simp
    rw [e1, e2]⟩
theorem own_unflat {α : Type} {g : α → List A} {T : Nat} {l : List α} {a : A} {h : Heap} (hg : ∀ x, ∃ u, g x = [u]) (ho : OwnSl (fun x cs h => cs = g x ∧ h = []) T 1 l a h) :
    ∃ (b : Nat) (cs : List A), a = .os (some b) l.length l.length ∧ cs.length = l.length ∧ h = [⟨some b, T, l.length * 1, (cs.map fun a => [a]).flatten⟩] := by
  obtain ⟨b, css, hs, l1, l2, hall, rfl, rfl⟩ := ho
  have hc2 : ∀ y : Cells 1, (Subtype.val y).length = 1 := fun y => y.2
  refine ⟨b, (css.map Subtype.val).flatten, rfl, by rw [flat_len hc2, l1]; omega, ?_⟩
  rw [sing_flat]
  have : hs.flatten = [] := List.flatten_eq_nil_iff.2 fun x hx => by
    obtain ⟨i, hi, rfl⟩ := List.mem_iff_getElem.1 hx
    exact (hall i (by omega) (by omega) hi).2
  rw [this]
theorem app_rep_set {α : Type} {css : List α} {k n : Nat} {x c : α} (g : css.length = k) (hk : k < n) : (css ++ List.replicate (n - k) x).set k c = css ++ [c] ++ List.replicate (n - (k + 1)) x := by
  rw [List.set_append_right _ _ (by omega), g, Nat.sub_self]
  have : n - k = (n - (k + 1)) + 1 := by omega
  rw [this, List.replicate_succ, List.set_cons_zero]
  simp
theorem own_snoc {α : Type} {E : α → List A → Heap → Prop} {z : Nat} {l : List α} {k : Nat} {css : List (Cells z)} {c : Cells z} {hs : List Heap} {h1 : Heap} (g2 : css.length = k) (g3 : hs.length = k) {hl : k < l.length}
    (g4 : ∀ i (hi : i < l.length) (h1 : i < css.length) (h2 : i < hs.length), E l[i] css[i].1 hs[i]) (hE : E l[k] c.1 h1) : ∀ i (hi : i < l.length) (h1' : i < (css ++ [c]).length) (h2' : i < (hs ++ [h1]).length), E l[i] (css ++ [c])[i].1 (hs ++ [h1])[i] := fun i hi h1' h2' => by
  by_cases hik : i < k
  · rw [List.getElem_append_left (by omega), List.getElem_append_left (by omega)]
    exact g4 i hi (by omega) (by omega)
  · have : i = k := by simp at h1'; omega
    subst this
    have e1 : (css ++ [c])[i] = c := by rw [List.getElem_append_right (by omega)]; simp [g2]
    have e2 : (hs ++ [h1])[i] = h1 := by rw [List.getElem_append_right (by omega)]; simp [g3]
    rw [e1, e2]; exact hE
theorem OwnSl.clo {α : Type} {E : α → List A → Heap → Prop} {T z : Nat} {xs : List α} {a : A} {h : Heap} (hE : ∀ x cs h, E x cs h → CloL cs ∧ CloH h) (o : OwnSl E T z xs a h) : Clo a ∧ CloH h := by
  obtain ⟨b, css, hs, l1, l2, hall, rfl, rfl⟩ := o
  refine ⟨Clo.os _ _ _, CloH.cons (CloL.flat fun cs hc => ?_) (CloH.flat fun x hx => ?_)⟩
  · obtain ⟨c, hc1, rfl⟩ := List.mem_map.1 hc
    obtain ⟨i, hi, rfl⟩ := List.mem_iff_getElem.1 hc1
    exact (hE _ _ _ (hall i (by omega) hi (by omega))).1
  · obtain ⟨i, hi, rfl⟩ := List.mem_iff_getElem.1 hx
    exact (hE _ _ _ (hall i (by omega) (by omega) hi)).2
/-- .. read only from here on. -/
def FrzF (h1 : Heap) (a a' : A) : Prop := ∀ (F : Heap) (w : World) (v : Value), HeapOk (h1 ++ F) w → Rel (Im w (h1 ++ F)) w a v → Rel (Im w F) w a' v
theorem FrzF.tup2 {h1 : Heap} {a a' c : A} (H : FrzF h1 a a') (hc : Clo c) : FrzF h1 (.tup [a, c]) (.tup [a', c]) := fun F w v ho r => by
  obtain ⟨vs, rfl, rl⟩ := r.tup_inv
  obtain ⟨v1, us, rfl, h1, h2⟩ := rl.uncons
  have := RelL.cons (H F w v1 ho h1) ((CloL.cons hc CloL.nil).rel h2)
  exact .tup _ _ this.1 this.2
theorem FrzF.flat {α : Type} {g : α → List A} {ys : List α} {z n : Nat} {b : Option Nat} {T room cap : Nat} {cs : List A} (hn : n = ys.length) (hcs : cs = (ys.map g).flatten) (hz : ∀ y, (g y).length = z) (hroom : room = cap * z) (hz0 : Nat.blt 0 z = true) : FrzF [⟨b, T, room, cs⟩] (.os b n cap) (.sl (ys.map g)) := fun F w v ho r => by
  have q := Frz.flat (g := g) (z := z) (T := T) hn hcs hz hroom hz0 ([⟨b, T, room, cs⟩] ++ F) w v (fun k hk => List.mem_append_left _ hk) ho r
  subst hn
  cases b with
  | none =>
    obtain ⟨h1, h2, p, h3⟩ := r.osn_inv
    have : ys = [] := List.eq_nil_of_length_eq_zero h1
    subst this
    rw [h3]; exact .nil _ _
  | some b =>
    obtain ⟨e1, hlen⟩ := r.os_inv
    rw [e1]
    have hmem : (⟨some b, T, room, cs⟩ : Blk) ∈ [⟨some b, T, room, cs⟩] ++ F := by simp
    obtain ⟨vs, rest, hb, hr, hrm⟩ := ho.at hmem
    rw [hcs] at hr
    have hlt := ho.lt (mem_keys hmem rfl)
    have hvl : vs.length = ys.length * z := by rw [hr.1, flat_len hz]
    have hzp : 0 < z := Nat.le_of_ble_eq_true hz0
    have hsub : F.Sublist ([⟨some b, T, room, cs⟩] ++ F) := List.sublist_append_right _ _
    have hnm : b ∉ keys F := by
      have := ho.nodup
      have e2 : keys ([⟨some b, T, room, cs⟩] ++ F) = b :: keys F := by simp [keys]
      rw [e2] at this
      exact (List.nodup_cons.1 this).1
    have hcap : ys.length ≤ cap := by
      have : ys.length * z ≤ cap * z := by rw [← hroom, hrm, ← hvl]; simp
      exact Nat.le_of_mul_le_mul_right this hzp
    have bound : ∀ i j, i < ys.length → j < z → i * z + j < ys.length * z := fun i j h1 h2 => by
      have : (i + 1) * z ≤ ys.length * z := Nat.mul_le_mul_right z h1
      rw [Nat.succ_mul] at this; omega
    have key : Rel (Im w F) w (.sl (ys.map g)) (.slice (some ⟨b, 0, none⟩) (ys.map g).length cap) := by
      refine .sl _ b 0 cap z (fun i j => vs.getD (i * z + j) undef) ⟨hlt, hnm⟩ (by simpa using hlen) (by simpa using hcap) (fun i hi => by simpa using hz _) (fun i j hi hj => ?_) (fun i j hi hj => ?_)
      · simp at hi
        have hv : i * z + j < vs.length := by rw [hvl]; exact bound i j hi hj
        rw [Nat.zero_add, cell_of_vs hb _ hv]; simp [hv]
      · simp at hi hj
        have hj' : j < z := by rw [← hz ys[i]]; exact hj
        have hv : i * z + j < vs.length := by rw [hvl]; exact bound i j hi hj'
        obtain ⟨u, hu1, hu2⟩ := hr.get (flat_get ys i j hi hj hz)
        have : vs.getD (i * z + j) undef = u := by simp [hu1]
        rw [this]
        simpa using hu2.heap hsub
    simpa using key
theorem Does.frozen {P : Program} {f : FuncId} {as : List A} {R : A → Heap → Prop} {v' : A} (hd : Does P f as [] R) (hR : ∀ v h1, R v h1 → FrzF h1 v v') : Gives P f as v' :=
  ⟨hd.1, fun h w vs hr hh => (hd.2 h w vs hr hh).mono fun e w' ⟨u, v, h1, e1, e2, e3, e4⟩ => ⟨u, e1, e3.drop (List.Perm.refl _) (List.sublist_append_right h1 h), hR v h1 e2 h w' u e3.heap e4⟩⟩
theorem OwnSl.isos {α : Type} {E : α → List A → Heap → Prop} {T z : Nat} {xs : List α} {a : A} {h : Heap} (o : OwnSl E T z xs a h) : ∃ b, a = .os (some b) xs.length xs.length := by
  obtain ⟨b, css, hs, l1, l2, hall, h1, h2⟩ := o
  exact ⟨b, h1⟩
theorem ani {a b : Nat} (h : a = b) : A.int (a : Int) = A.int (b : Int) := by rw [h]
theorem run_heq {C : Cx} {n : Nat} {c : Code} {Q : Exit → Env → Heap → Prop} {e : Env} {h h' : Heap} (q : h = h') (hr : Run C n c Q e h') : Run C n c Q e h := by rw [q]; exact hr
theorem put1 {x y z l1 : Heap} : (y ++ (l1 ++ (x ++ z))).Perm (l1 ++ (x ++ (y ++ z))) := by classical exact List.perm_iff_count.2 fun _ => by simp only [List.count_append]; omega
theorem pmid0 {x l1 l2 : Heap} : (l1 ++ (x ++ l2)).Perm (x ++ (l1 ++ l2)) := by classical exact List.perm_iff_count.2 fun _ => by simp only [List.count_append]; omega
theorem perm2 {a b : Blk} {x y : Heap} : (x ++ a :: b :: y).Perm (a :: b :: (x ++ y)) := List.perm_middle.trans (.cons _ List.perm_middle)
theorem set_own {z : Nat} {cc : List (Cells z)} {k : Nat} {c : Cells z} (hk : k < cc.length) (h : cc[k].1 = c.1) : cc = cc.set k c := by
  have : c = cc[k] := Subtype.ext h.symm
  rw [this, List.set_getElem_self]
section
variable {C : Cx} {n : Nat} {Q : Exit → Env → Heap → Prop} {e : Env} {h : Heap} {d : Bool} {l os : List Oper} {o : Oper}
theorem loopQ_nextS {z : Nat} {I : Nat × Nat × List (Cells z) → Env} {H : Nat × Nat × List (Cells z) → Heap} {G : Nat × Nat × List (Cells z) → Prop} {μ : Nat × Nat × List (Cells z) → Nat} {s : Nat × Nat × List (Cells z)} {c : Cells z} (k' kv' : Nat) (cc : List (Cells z)) (k : Nat) (h1 : G (k', kv', cc.set k c)) (h2 : μ (k', kv', cc.set k c) < μ s) (h3 : h = H (k', kv', cc.set k c)) (h4 : EnvLe e (I (k', kv', cc.set k c))) : loopQ I H G μ s Q .normal e h := loopQ_next _ h1 h2 h3 h4
theorem j_storeS (i m j : Nat) {z : Nat} {L : List (Cells z)} {c : Cells z} {u : A} {T b p T' room sz : Nat} {k : TK} {x y : Operand} {v : A} (hw : wantE l e o = some true) (ho : o.op = .store T x y) (hd : o.dst = none) (hT : C.ty T = some ⟨sz, k⟩) (hx : evO e x = some (.op (some b) p))
    (hi : h[i]? = some ⟨some b, T', room, ((L.set m c).map Subtype.val).flatten⟩) (hy : evO e y = some v) (hc : cellsA v = some [u]) (hok : okCell u = true) (hs : sz = 1) (hp : p = m * z + j) (hm : m < L.length) (hjz : Nat.blt j z = true)
    (hj : J false C n l os Q e (h.set i ⟨some b, T', room, ((L.set m ⟨c.1.set j u, by rw [List.length_set]; exact c.2⟩).map Subtype.val).flatten⟩)) : J false C n l (o :: os) Q e h := by
  refine j_storeF i m j hw ho hd hT hx hi hy hc hok hs hp (by simpa using hm) (Nat.le_of_ble_eq_true hjz) ?_
  have : (⟨((L.set m c)[m]'(by simpa using hm)).1.set j u, by rw [List.length_set]; exact ((L.set m c)[m]'(by simpa using hm)).2⟩ : Cells z) = ⟨c.1.set j u, by rw [List.length_set]; exact c.2⟩ := Subtype.ext (by simp)
  rw [this, List.set_set]
  exact hj
theorem j_loadS (i m j : Nat) {z : Nat} {L : List (Cells z)} {c : Cells z} {T b p T' room dd : Nat} {x : Operand} {v : A} (hw : wantE l e o = some true) (ho : o.op = .load T x) (hx : evO e x = some (.op (some b) p)) (hi : h[i]? = some ⟨some b, T', room, ((L.set m c).map Subtype.val).flatten⟩)
    (hp : p = m * z + j) (hm : m < L.length) (hjz : Nat.ble j z = true) (hv : ∀ rest, loadA C.ty T (c.1.drop j ++ rest) = some v) (hd : o.dst = some dd) (hn : Nat.blt dd n = true) (hj : J d C n l os Q ((dd, v) :: e) h) : J d C n l (o :: os) Q e h :=
  j_loadF i m j hw ho hx hi hp (by simpa using hm) (Nat.le_of_ble_eq_true hjz) (fun rest => by simp only [List.getElem_set_self]; exact hv rest) hd hn hj
end
end Go.AI
