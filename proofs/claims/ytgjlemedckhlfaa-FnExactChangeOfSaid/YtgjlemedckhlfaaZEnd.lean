/-
  Rules for appends and for calls that write; the ends of a call. No condition.
-/
import Derived.Test.YtgjlemedckhlfaaZApp
namespace Go.AI
open Go.RowKit

section
variable {C : Cx} {n : Nat} {Q : Exit → Env → Heap → Prop} {e : Env} {h h' : Heap} {d : Bool} {l os : List Oper} {o : Oper} {f : Fl} {fs : List Fl} {B : List (Nat × Blk)}

theorem flat_app {α : Type} {g : α → List A} (ys zs : List α) : ((ys.map g).flatten) ++ (zs.map g).flatten = ((ys ++ zs).map g).flatten := by rw [List.map_append, List.flatten_append]
theorem all_flat {α : Type} {g : α → List A} {zs : List α} (hok : ∀ y ∈ zs, (g y).all okCell = true) : ((zs.map g).flatten).all okCell = true := by
  rw [List.all_eq_true]
  intro u hu
  obtain ⟨r, hr, hur⟩ := List.mem_flatten.1 hu
  obtain ⟨y, hy, rfl⟩ := List.mem_map.1 hr
  exact List.all_eq_true.1 (hok y hy) u hur

theorem append_list {α : Type} {g : α → List A} {ys zs : List α} {T E z sz bytes cap i room : Nat} {zk : List ZK} {x y : Operand} {b : Option Nat} {cs : List A} {m : Nat} (ho : o.op = .call ⟨.builtin .append, #[x, y], #[T, T]⟩) (hT : C.ty T = some ⟨sz, .slice E z⟩) (hz : C.zt E = some (zk, bytes)) (hzl : zk.length = z) (hz0 : Nat.blt 0 z = true)
    (hx : evO e x = some (.os b m cap)) (hi : h[i]? = some ⟨b, E, room, cs⟩) (hroom : room = cap * z) (hcs : cs = (ys.map g).flatten) (hm : m = ys.length) (hy : evO e y = some (.sl (zs.map g))) (hg : ∀ y, (g y).length = z) (hok : ∀ y ∈ zs, (g y).all okCell = true)
    (hsize : (ys.length + zs.length) * bytes ≤ 140737488355328) (hlen : ys.length + zs.length ≤ 9223372036854775807) :
    MStep C.P o e h fun v h' => ∃ b' cap', v = .os b' (ys ++ zs).length cap' ∧ h' = h.set i ⟨b', E, cap' * z, ((ys ++ zs).map g).flatten⟩ := by
  subst hcs hm
  have := append_step (m := ys.length) ho hT hz hzl (Nat.le_of_ble_eq_true hz0) hx hi hroom (flat_len hg ys) hy (fun r hr => by obtain ⟨y, _, rfl⟩ := List.mem_map.1 hr; exact hg y) (all_flat hok) (by rw [List.length_map]; exact hsize) (by rw [List.length_map]; exact hlen)
  rw [List.length_map, flat_app] at this
  rw [List.length_append]
  exact this

/-- 'append(s, t...)', s a list ys of the call's own (block i), t a list zs. -/
theorem j_append (i : Nat) {α : Type} {g : α → List A} {ys : List α} (zs : List α) {T E z sz bytes cap room dd m : Nat} {zk : List ZK} {x y : Operand} {b : Option Nat} {cs : List A} (hw : wantE l e o = some true) (ho : o.op = .call ⟨.builtin .append, #[x, y], #[T, T]⟩) (hT : C.ty T = some ⟨sz, .slice E z⟩) (hz : C.zt E = some (zk, bytes)) (hzl : zk.length = z) (hz0 : Nat.blt 0 z = true)
    (hx : evO e x = some (.os b m cap)) (hi : h[i]? = some ⟨b, E, room, cs⟩) (hroom : room = cap * z) (hcs : cs = (ys.map g).flatten) (hm : m = ys.length) (hy : evO e y = some (.sl (zs.map g))) (hg : ∀ y, (g y).length = z) (hok : ∀ y ∈ zs, (g y).all okCell = true)
    (hsize : (ys.length + zs.length) * bytes ≤ 140737488355328 ∧ ys.length + zs.length ≤ 9223372036854775807) (hd : o.dst = some dd) (hn : Nat.blt dd n = true)
    (hj : ∀ b' cap', J false C n l os Q ((dd, .os b' (ys ++ zs).length cap') :: e) (h.set i ⟨b', E, cap' * z, ((ys ++ zs).map g).flatten⟩)) : J false C n l (o :: os) Q e h :=
  j_mut hw (append_list ho hT hz hzl hz0 hx hi hroom hcs hm hy hg hok hsize.1 hsize.2) (by rw [hd]; exact hn) fun v h' ⟨b', cap', h1, h2⟩ => by rw [hd, h1, h2]; exact hj b' cap'
theorem j_appendO (i : Nat) {α : Type} {g : α → List A} {ys : List α} (zs : List α) {T E z sz bytes cap room dd m : Nat} {zk : List ZK} {x y : Operand} {b : Option Nat} {cs : List A} (hf : f.w = true) (hB : ∀ k ∈ B, k.2 ∈ h.eraseIdx i) (hw : wantE l e o = some true) (ho : o.op = .call ⟨.builtin .append, #[x, y], #[T, T]⟩) (hT : C.ty T = some ⟨sz, .slice E z⟩) (hz : C.zt E = some (zk, bytes)) (hzl : zk.length = z) (hz0 : Nat.blt 0 z = true)
    (hx : evO e x = some (.os b m cap)) (hi : h[i]? = some ⟨b, E, room, cs⟩) (hroom : room = cap * z) (hcs : cs = (ys.map g).flatten) (hm : m = ys.length) (hy : evO e y = some (.sl (zs.map g))) (hg : ∀ y, (g y).length = z) (hok : ∀ y ∈ zs, (g y).all okCell = true)
    (hsize : (ys.length + zs.length) * bytes ≤ 140737488355328 ∧ ys.length + zs.length ≤ 9223372036854775807) (hd : o.dst = some dd) (hn : Nat.blt dd n = true)
    (hj : ∀ b' cap', JO fs B C n l os Q ((dd, .os b' (ys ++ zs).length cap') :: e) (h.set i ⟨b', E, cap' * z, ((ys ++ zs).map g).flatten⟩)) : JO (f :: fs) B C n l (o :: os) Q e h :=
  j_mutO hf hw (append_list ho hT hz hzl hz0 hx hi hroom hcs hm hy hg hok hsize.1 hsize.2) (fun v h' ⟨b', cap', h1, h2⟩ => by
    rw [h2]; exact fun k hk => (perm_set hi).mem_iff.1 (List.mem_cons_of_mem _ (hB k hk))) (by rw [hd]; exact hn) fun v h' ⟨b', cap', h1, h2⟩ => by rw [hd, h1, h2]; exact hj b' cap'

theorem MStep.none {P : Program} {R : A → Heap → Prop} {T : Nat} (hm : MStep P o e (⟨none, T, 0, []⟩ :: h) R) : MStep P o e h R := fun a w hs => by
  have hk : keys (⟨Option.none, T, 0, []⟩ :: h) = keys h := by simp [keys]
  have im : ∀ b, Im w h b → Im w (⟨Option.none, T, 0, []⟩ :: h) b ∧ w.heap[b]? = w.heap[b]? := fun b hb => ⟨⟨hb.1, by rw [hk]; exact hb.2⟩, rfl⟩
  have := hm a w ⟨fun x hx v hv => (hs.ops x hx v hv).stab im, by rw [hk]; exact hs.heap.nodup, fun k hkm => by
    rcases List.mem_cons.1 hkm with rfl | hkm
    · exact ⟨rfl, RoomOk.zero rfl⟩
    · exact (hs.heap.blk k hkm).stab im fun _ _ => rfl⟩
  unfold Yields at this ⊢
  generalize (execOp a.eval o).run P w = r at this ⊢
  have conv : ∀ u w', (∃ v h1, R v h1 ∧ Chg (⟨Option.none, T, 0, []⟩ :: h) h1 w w' ∧ Rel (Im w' h1) w' v u) → ∃ v h1, R v h1 ∧ Chg h h1 w w' ∧ Rel (Im w' h1) w' v u := fun u w' ⟨v, h1, q1, q2, q3⟩ =>
    ⟨v, h1, q1, ⟨q2.os, q2.tape, q2.output, q2.size, fun k hk' hn => q2.block k hk' (by rw [hk]; exact hn), fun b hb => by have := q2.new b hb; rw [hk] at this; exact this, q2.heap⟩, q3⟩
  cases r with
  | ok nx w' =>
    cases nx <;> first | exact conv _ _ this | (exact this.elim) | (exact this.mono fun e w'' ⟨u, he, hR⟩ => ⟨u, he, conv _ _ hR⟩)
  | halt x w' => exact this.elim

/-! #### Calls that write -/
/-! #### Several everyday steps at once -/
/-! #### The chosen order of a statement -/
def pickO (l : List Oper) : List Fl → Option (List Oper)
  | [] => some []
  | f :: fs => match l[f.i]?, pickO l fs with
    | some o, some os => some (o :: os)
    | _, _ => none
theorem al_of_pick : ∀ {fl : List Fl} {os : List Oper}, pickO l fl = some os → Al l fl os
  | [], os, h => by simp only [pickO, Option.some.injEq] at h; subst h; trivial
  | f :: fs, os, h => by
    simp only [pickO] at h
    split at h
    · rename_i o os' h1 h2
      simp only [Option.some.injEq] at h
      subst h
      exact ⟨h1, al_of_pick h2⟩
    · cases h
theorem run_opn {id : Nat} (id' : Nat) (fl : List Fl) (hid : id = id') (ha : pickO l fl = some os) (hok : openOk l fl = true) (hj : JO fl [] C n l os Q e h) : Run C n (.region id l.toArray true) Q e h := run_regionO id' fl hid (al_of_pick ha) hok hj

/-! #### What kind of step comes next -/
theorem r_go {c : Code} (hr : Run C n c Q e h) : Run C n c Q e h := hr
theorem j_go (hj : J d C n l (o :: os) Q e h) : J d C n l (o :: os) Q e h := hj
theorem j_kIdx {T : Nat} {x i : Operand} (_ho : o.op = .indexAddr T x i) (hj : J d C n l (o :: os) Q e h) : J d C n l (o :: os) Q e h := hj
theorem j_kBin {p : BinOp} {t t2 : Nat} {x y : Operand} (_ho : o.op = .binOp p t x y t2) (hj : J d C n l (o :: os) Q e h) : J d C n l (o :: os) Q e h := hj
theorem j_kLen {x : Operand} {t : Nat} (_ho : o.op = .call ⟨.builtin .len, #[x], #[t]⟩) (hj : J d C n l (o :: os) Q e h) : J d C n l (o :: os) Q e h := hj
theorem j_kLoad {T : Nat} {x : Operand} (_ho : o.op = .load T x) (hj : J d C n l (o :: os) Q e h) : J d C n l (o :: os) Q e h := hj
theorem j_kStore {T : Nat} {x y : Operand} (_ho : o.op = .store T x y) (hj : J d C n l (o :: os) Q e h) : J d C n l (o :: os) Q e h := hj
theorem j_kBsl {T k : Nat} {ps : Array (Nat × Operand)} (_ho : o.op = .buildSlice T k ps) (hj : J d C n l (o :: os) Q e h) : J d C n l (o :: os) Q e h := hj
theorem j_kSlice {T : Nat} {x : Operand} {lo hi : Option Operand} (_ho : o.op = .slice T x lo hi none) (hj : J d C n l (o :: os) Q e h) : J d C n l (o :: os) Q e h := hj
theorem j_kGuard {k : Nat} {b : Bool} (_hg : o.guard = some (k, b)) (hj : J d C n l (o :: os) Q e h) : J d C n l (o :: os) Q e h := hj
theorem j_goO (hj : JO (f :: fs) B C n l (o :: os) Q e h) : JO (f :: fs) B C n l (o :: os) Q e h := hj
theorem j_kIdxO {T : Nat} {x i : Operand} (_ho : o.op = .indexAddr T x i) (hj : JO (f :: fs) B C n l (o :: os) Q e h) : JO (f :: fs) B C n l (o :: os) Q e h := hj
theorem j_kBinO {p : BinOp} {t t2 : Nat} {x y : Operand} (_ho : o.op = .binOp p t x y t2) (hj : JO (f :: fs) B C n l (o :: os) Q e h) : JO (f :: fs) B C n l (o :: os) Q e h := hj
theorem j_kLenO {x : Operand} {t : Nat} (_ho : o.op = .call ⟨.builtin .len, #[x], #[t]⟩) (hj : JO (f :: fs) B C n l (o :: os) Q e h) : JO (f :: fs) B C n l (o :: os) Q e h := hj
theorem j_kLoadO {T : Nat} {x : Operand} (_ho : o.op = .load T x) (hj : JO (f :: fs) B C n l (o :: os) Q e h) : JO (f :: fs) B C n l (o :: os) Q e h := hj
theorem j_kStoreO {T : Nat} {x y : Operand} (_ho : o.op = .store T x y) (hj : JO (f :: fs) B C n l (o :: os) Q e h) : JO (f :: fs) B C n l (o :: os) Q e h := hj
theorem j_kBslO {T k : Nat} {ps : Array (Nat × Operand)} (_ho : o.op = .buildSlice T k ps) (hj : JO (f :: fs) B C n l (o :: os) Q e h) : JO (f :: fs) B C n l (o :: os) Q e h := hj
theorem j_kGuardO {k : Nat} {b : Bool} (_hg : o.guard = some (k, b)) (hj : JO (f :: fs) B C n l (o :: os) Q e h) : JO (f :: fs) B C n l (o :: os) Q e h := hj
/-- A call of g at as is next. -/
def CallAt (e : Env) (l : List Oper) (o : Oper) (g : FuncId) (as : List A) : Prop := ∃ (x : Operand) (args : Array Operand) (ts : Array TypeId) (caps as0 : List A),
  wantE l e o = some true ∧ o.op = .call ⟨.value x, args, ts⟩ ∧ evO e x = some (.fn g caps) ∧ mapEv e args.toList = some as0 ∧ as0 ++ caps = as
def JC (g : FuncId) (as : List A) (d : Bool) (C : Cx) (n : Nat) (l : List Oper) (o : Oper) (os : List Oper) (Q : Exit → Env → Heap → Prop) (e : Env) (h : Heap) : Prop := CallAt e l o g as → J d C n l (o :: os) Q e h
def JCO (g : FuncId) (as : List A) (f : Fl) (fs : List Fl) (B : List (Nat × Blk)) (C : Cx) (n : Nat) (l : List Oper) (o : Oper) (os : List Oper) (Q : Exit → Env → Heap → Prop) (e : Env) (h : Heap) : Prop := CallAt e l o g as → JO (f :: fs) B C n l (o :: os) Q e h
theorem j_kCall {d : Bool} {g : FuncId} {x : Operand} {args : Array Operand} {ts : Array TypeId} {caps as : List A} (hw : wantE l e o = some true) (ho : o.op = .call ⟨.value x, args, ts⟩) (hx : evO e x = some (.fn g caps)) (ha : mapEv e args.toList = some as)
    (hj : JC g (as ++ caps) d C n l o os Q e h) : J d C n l (o :: os) Q e h := hj ⟨x, args, ts, caps, as, hw, ho, hx, ha, rfl⟩
theorem j_kCallO {g : FuncId} {x : Operand} {args : Array Operand} {ts : Array TypeId} {caps as : List A} (hw : wantE l e o = some true) (ho : o.op = .call ⟨.value x, args, ts⟩) (hx : evO e x = some (.fn g caps)) (ha : mapEv e args.toList = some as)
    (hj : JCO g (as ++ caps) f fs B C n l o os Q e h) : JO (f :: fs) B C n l (o :: os) Q e h := hj ⟨x, args, ts, caps, as, hw, ho, hx, ha, rfl⟩
theorem jc {d : Bool} {g : FuncId} {as all : List A} {v : A} {dd : Nat} (hf : Gives C.P g all v) (hle : LeL as all) (hd : o.dst = some dd) (hn : Nat.blt dd n = true) (hj : J d C n l os Q ((dd, v) :: e) h) : JC g as d C n l o os Q e h := by
  rintro ⟨x, args, ts, caps, as0, hw, ho, hx, ha, rfl⟩
  exact j_call hw ho hx ha hf hle hd hn hj
theorem jcO {g : FuncId} {as all : List A} {v : A} {dd : Nat} (hf : Gives C.P g all v) (hle : LeL as all) (hd : o.dst = some dd) (hn : Nat.blt dd n = true) (hj : JO fs B C n l os Q ((dd, v) :: e) h) : JCO g as f fs B C n l o os Q e h := by
  rintro ⟨x, args, ts, caps, as0, hw, ho, hx, ha, rfl⟩
  exact j_callO hw ho hx ha hf hle hd hn hj
/-! #### The ends -/
theorem end_cellM {ty : Nat → Option TI} {p T b T' room : Nat} {cs : List A} {u v : A} {h0 : Heap} {x : Exit} (hp : lk e p = some (.op (some b) 0)) (i : Nat) (hi : h[i]? = some ⟨some b, T', room, cs⟩) (hv : loadA ty T cs = some u) (hs : h0.Sublist h) (huv : Le u v) (hx : x = .ret ∨ x = .normal) :
    endQ ty #[.cell p T] v h0 x e h := end_le hs (vs := [u]) (.cons (.cellM hp (List.mem_of_getElem? hi) hv) .nil) huv hx

theorem sub1 {a : Blk} {h0 : Heap} : h0.Sublist (a :: h0) := List.sublist_cons_self _ _
theorem sub2 {a b : Blk} {h0 : Heap} : h0.Sublist (a :: b :: h0) := (List.sublist_cons_self _ _).trans (List.sublist_cons_self _ _)
theorem sub3 {a b c : Blk} {h0 : Heap} : h0.Sublist (a :: b :: c :: h0) := sub2.trans (List.sublist_cons_self _ _)
end
theorem rb {b c : Bool} (h : b = c) : A.raw (.bool b) = A.raw (.bool c) := by rw [h]
theorem rbT {p : Prop} (h : p) : A.raw (.bool true) = A.raw (.bool (dec p)) := rb (dec_t h).symm
theorem rbF {p : Prop} (h : ¬p) : A.raw (.bool false) = A.raw (.bool (dec p)) := rb (dec_f h).symm
theorem all_step {m k : Nat} {p : ∀ i, i < m → Prop} (g : ∀ i (h : i < m), i < k → p i h) (hn : ∀ h : k < m, p k h) : ∀ i (h : i < m), i < k + 1 → p i h := fun i h hi => by
  rcases Nat.lt_or_eq_of_le (Nat.le_of_lt_succ hi) with h1 | rfl
  · exact g i h h1
  · exact hn h
theorem ai {b c : Int} (h : b = c) : A.int b = A.int c := by rw [h]
theorem take_rep_set {α : Type} {l : List α} {k : Nat} (hk : k < l.length) (z : α) : (l.take k ++ List.replicate (l.length - k) z).set k l[k] = l.take (k + 1) ++ List.replicate (l.length - (k + 1)) z := by
  have e1 : l.length - k = (l.length - (k + 1)) + 1 := by omega
  have e2 : k - (l.take k).length = 0 := by rw [List.length_take]; omega
  rw [e1, List.replicate_succ, List.set_append_right _ _ (by rw [List.length_take]; omega), e2, List.set_cons_zero, List.take_succ_eq_append_getElem hk, List.append_assoc]
  rfl
theorem take_eq_succ {α : Type} {a b : List α} {k : Nat} (h : a.take k = b.take k) (ha : k < a.length) (hb : k < b.length) (hx : a[k] = b[k]) : a.take (k + 1) = b.take (k + 1) := by
  rw [List.take_succ_eq_append_getElem ha, List.take_succ_eq_append_getElem hb, h, hx]
theorem Chg.below {w w' : World} (h : Chg [] [] w w') : Below w.heap.size w w' := ⟨h.os, h.tape, h.output, h.size, fun k hk => h.block k hk (by simp [keys])⟩
theorem raw_t {p : Prop} (h : p) : some (A.raw (.bool true)) = some (A.raw (.bool (dec p))) := by rw [rbT h]
theorem raw_f {p : Prop} (h : ¬p) : some (A.raw (.bool false)) = some (A.raw (.bool (dec p))) := by rw [rbF h]
theorem raw_n {p q : Prop} (h : ¬p ↔ q) : some (A.raw (.bool (!dec p))) = some (A.raw (.bool (dec q))) := by
  by_cases hp : p
  · rw [dec_t hp, dec_f (fun hq => h.2 hq hp)]; rfl
  · rw [dec_f hp, dec_t (h.1 hp)]; rfl
theorem rbD {p q : Prop} (h : p ↔ q) : A.raw (.bool (dec p)) = A.raw (.bool (dec q)) := by rw [propext h]
theorem rbN {p q : Prop} (h : ¬p ↔ q) : A.raw (.bool (!dec p)) = A.raw (.bool (dec q)) := Option.some.inj (raw_n h)
theorem si {b c : Int} (h : b = c) : some (A.int b) = some (A.int c) := by rw [h]
attribute [irreducible] JC JCO CallAt
end Go.AI
