/-
  Rules for appends and for calls that write; the ends of a call. No condition.
-/
import Derived.Test.YtbhiaccbpbnbmaaGreatZApp
namespace Go.AI
open Go.RowKit

section
variable {C : Cx} {n : Nat} {Q : Exit → Env → Heap → Prop} {e : Env} {h h' : Heap} {d : Bool} {l os : List Oper} {o : Oper} {f : Fl} {fs : List Fl} {B : List (Nat × Blk)}

theorem flat_app {α : Type} {g : α → List A} (ys zs : List α) : ((ys.map g).flatten) ++ (zs.map g).flatten = ((ys ++ zs).map g).flatten := by rw [List.map_append, List.flatten_append]
theorem all_flat {α : Type} {g : α → List A} {zs : List α} (hok : ∀ y ∈ zs, (g y).all okCell = true) : ((zs.map g).flatten).all okCell = true := by
  rw [List.all_eq_true]
  intro u hu
  obtain ⟨r, hr, hur⟩ := List.mem_flatten.1 hu
  obtain ⟨y, hy, rfl⟩ := List.mem_map.1 hr
  exact List.all_eq_true.1 (hok y hy) u hur

theorem append_list {α : Type} {g : α → List A} {ys zs : List α} {T E z sz bytes cap i room : Nat} {zk : List ZK} {x y : Operand} {b : Option Nat} {cs : List A} {m : Nat} (ho : o.op = .call ⟨.builtin .append, #[x, y], #[T, T]⟩) (hT : C.ty T = some ⟨sz, .slice E z⟩) (hz : C.zt E = some (zk, bytes)) (hzl : zk.length = z) (hz0 : Nat.blt 0 z = true)
    (hx : evO e x = some (.os b m cap)) (hi : h[i]? = some ⟨b, E, room, cs⟩) (hroom : room = cap * z) (hcs : cs = (ys.map g).flatten) (hm : m = ys.length) (hy : evO e y = some (.sl (zs.map g))) (hg : ∀ y, (g y).length = z) (hok : ∀ y ∈ zs, (g y).all okCell = true)
    (hsize : (ys.length + zs.length) * bytes ≤ 140737488355328) (hlen : ys.length + zs.length ≤ 9223372036854775807) :
    MStep C.P o e h fun v h' => ∃ b' cap', v = .os b' (ys ++ zs).length cap' ∧ h' = h.set i ⟨b', E, cap' * z, ((ys ++ zs).map g).flatten⟩ := by
  subst hcs hm
  have := append_step (m := ys.length) ho hT hz hzl (Nat.le_of_ble_eq_true hz0) hx hi hroom (flat_len hg ys) hy (fun r hr => by obtain ⟨y, _, rfl⟩ := List.mem_map.1 hr; exact hg y) (all_flat hok) (by rw [List.length_map]; exact hsize) (by rw [List.length_map]; exact hlen)
  rw [List.length_map, flat_app] at this
  rw [List.length_append]
  exact this

/-- 'append(s, t...)', s a list ys of the call's own (block i), t a list zs. -/
theorem j_append (i : Nat) {α : Type} {g : α → List A} {ys : List α} (zs : List α) {T E z sz bytes cap room dd m : Nat} {zk : List ZK} {x y : Operand} {b : Option Nat} {cs : List A} (hw : wantE l e o = some true) (ho : o.op = .call ⟨.builtin .append, #[x, y], #[T, T]⟩) (hT : C.ty T = some ⟨sz, .slice E z⟩) (hz : C.zt E = some (zk, bytes)) (hzl : zk.length = z) (hz0 : Nat.blt 0 z = true)
    (hx : evO e x = some (.os b m cap)) (hi : h[i]? = some ⟨b, E, room, cs⟩) (hroom : room = cap * z) (hcs : cs = (ys.map g).flatten) (hm : m = ys.length) (hy : evO e y = some (.sl (zs.map g))) (hg : ∀ y, (g y).length = z) (hok : ∀ y ∈ zs, (g y).all okCell = true)
    (hsize : (ys.length + zs.length) * bytes ≤ 140737488355328 ∧ ys.length + zs.length ≤ 9223372036854775807) (hd : o.dst = some dd) (hn : Nat.blt dd n = true)
    (hj : ∀ b' cap', J false C n l os Q ((dd, .os b' (ys ++ zs).length cap') :: e) (h.set i ⟨b', E, cap' * z, ((ys ++ zs).map g).flatten⟩)) : J false C n l (o :: os) Q e h :=
  j_mut hw (append_list ho hT hz hzl hz0 hx hi hroom hcs hm hy hg hok hsize.1 hsize.2) (by rw [hd]; exact hn) fun v h' ⟨b', cap', h1, h2⟩ => by rw [hd, h1, h2]; exact hj b' cap'
theorem j_appendO (i : Nat) {α : Type} {g : α → List A} {ys : List α} (zs : List α) {T E z sz bytes cap room dd m : Nat} {zk : List ZK} {x y : Operand} {b : Option Nat} {cs : List A} (hf : f.w = true) (hB : ∀ k ∈ B, k.2 ∈ h.eraseIdx i) (hw : wantE l e o = some true) (ho : o.op = .call ⟨.builtin .append, #[x, y], #[T, T]⟩) (hT : C.ty T = some ⟨sz, .slice E z⟩) (hz : C.zt E = some (zk, bytes)) (hzl : zk.length = z) (hz0 : Nat.blt 0 z = true)
    (hx : evO e x = some (.os b m cap)) (hi : h[i]? = some ⟨b, E, room, cs⟩) (hroom : room = cap * z) (hcs : cs = (ys.map g).flatten) (hm : m = ys.length) (hy : evO e y = some (.sl (zs.map g))) (hg : ∀ y, (g y).length = z) (hok : ∀ y ∈ zs, (g y).all okCell = true)
    (hsize : (ys.length + zs.length) * bytes ≤ 140737488355328 ∧ ys.length + zs.length ≤ 9223372036854775807) (hd : o.dst = some dd) (hn : Nat.blt dd n = true)
    (hj : ∀ b' cap', JO fs B C n l os Q ((dd, .os b' (ys ++ zs).length cap') :: e) (h.set i ⟨b', E, cap' * z, ((ys ++ zs).map g).flatten⟩)) : JO (f :: fs) B C n l (o :: os) Q e h :=
  j_mutO hf hw (append_list ho hT hz hzl hz0 hx hi hroom hcs hm hy hg hok hsize.1 hsize.2) (fun v h' ⟨b', cap', h1, h2⟩ => by
    rw [h2]; exact fun k hk => (perm_set hi).mem_iff.1 (List.mem_cons_of_mem _ (hB k hk))) (by rw [hd]; exact hn) fun v h' ⟨b', cap', h1, h2⟩ => by rw [hd, h1, h2]; exact hj b' cap'

theorem MStep.none {P : Program} {R : A → Heap → Prop} {T : Nat} (hm : MStep P o e (⟨none, T, 0, []⟩ :: h) R) : MStep P o e h R := fun a w hs => by
  have hk : keys (⟨Option.none, T, 0, []⟩ :: h) = keys h := by simp [keys]
  have im : ∀ b, Im w h b → Im w (⟨Option.none, T, 0, []⟩ :: h) b ∧ w.heap[b]? = w.heap[b]? := fun b hb => ⟨⟨hb.1, by rw [hk]; exact hb.2⟩, rfl⟩
  have := hm a w ⟨fun x hx v hv => (hs.ops x hx v hv).stab im, by rw [hk]; exact hs.heap.nodup, fun k hkm => by
    rcases List.mem_cons.1 hkm with rfl | hkm
    · exact ⟨rfl, RoomOk.zero rfl⟩
    · exact (hs.heap.blk k hkm).stab im fun _ _ => rfl, hs.heap.tab.stab im⟩
  unfold Yields at this ⊢
  generalize (execOp a.eval o).run P w = r at this ⊢
  have conv : ∀ u w', (∃ v h1, R v h1 ∧ Chg (⟨Option.none, T, 0, []⟩ :: h) h1 w w' ∧ Rel (Im w' h1) w' v u) → ∃ v h1, R v h1 ∧ Chg h h1 w w' ∧ Rel (Im w' h1) w' v u := fun u w' ⟨v, h1, q1, q2, q3⟩ =>
    ⟨v, h1, q1, ⟨q2.os, q2.tape, q2.output, q2.size, fun k hk' hn => q2.block k hk' (by rw [hk]; exact hn), fun b hb => by have := q2.new b hb; rw [hk] at this; exact this, q2.heap⟩, q3⟩
  cases r with
  | ok nx w' =>
    cases nx <;> first | exact conv _ _ this | (exact this.elim) | (exact this.mono fun e w'' ⟨u, he, hR⟩ => ⟨u, he, conv _ _ hR⟩)
  | halt x w' => exact this.elim

theorem append0_list {α : Type} {g : α → List A} {zs : List α} {T E z sz bytes : Nat} {zk : List ZK} {x y : Operand} (ho : o.op = .call ⟨.builtin .append, #[x, y], #[T, T]⟩) (hT : C.ty T = some ⟨sz, .slice E z⟩) (hz : C.zt E = some (zk, bytes)) (hzl : zk.length = z) (hz0 : Nat.blt 0 z = true)
    (hx : evO e x = some (.os none 0 0)) (hy : evO e y = some (.sl (zs.map g))) (hg : ∀ y, (g y).length = z) (hok : ∀ y ∈ zs, (g y).all okCell = true) (hsize : zs.length * bytes ≤ 140737488355328) (hlen : zs.length ≤ 9223372036854775807) :
    MStep C.P o e h fun v h' => ∃ b' cap', v = .os b' zs.length cap' ∧ h' = ⟨b', E, cap' * z, (zs.map g).flatten⟩ :: h := by
  have := append_list (i := 0) (h := ⟨none, E, 0, []⟩ :: h) (g := g) (ys := []) ho hT hz hzl hz0 hx rfl (Nat.zero_mul z).symm rfl rfl hy hg hok (by simpa using hsize) (by simpa using hlen)
  simp only [List.nil_append, List.set_cons_zero] at this
  exact this.none
/-- 'append(nil, t...)', 'append([]E{}, t...)': a new list of the call's own. -/
theorem j_append0 {α : Type} {g : α → List A} (zs : List α) {T E z sz bytes dd : Nat} {zk : List ZK} {x y : Operand} (hw : wantE l e o = some true) (ho : o.op = .call ⟨.builtin .append, #[x, y], #[T, T]⟩) (hT : C.ty T = some ⟨sz, .slice E z⟩) (hz : C.zt E = some (zk, bytes)) (hzl : zk.length = z) (hz0 : Nat.blt 0 z = true)
    (hx : evO e x = some (.os none 0 0)) (hy : evO e y = some (.sl (zs.map g))) (hg : ∀ y, (g y).length = z) (hok : ∀ y ∈ zs, (g y).all okCell = true) (hsize : zs.length * bytes ≤ 140737488355328 ∧ zs.length ≤ 9223372036854775807) (hd : o.dst = some dd) (hn : Nat.blt dd n = true)
    (hj : ∀ b' cap', J false C n l os Q ((dd, .os b' zs.length cap') :: e) (⟨b', E, cap' * z, (zs.map g).flatten⟩ :: h)) : J false C n l (o :: os) Q e h :=
  j_mut hw (append0_list ho hT hz hzl hz0 hx hy hg hok hsize.1 hsize.2) (by rw [hd]; exact hn) fun v h' ⟨b', cap', h1, h2⟩ => by rw [hd, h1, h2]; exact hj b' cap'
theorem j_append0O {α : Type} {g : α → List A} (zs : List α) {T E z sz bytes dd : Nat} {zk : List ZK} {x y : Operand} (hf : f.w = true) (hB : ∀ k ∈ B, k.2 ∈ h) (hw : wantE l e o = some true) (ho : o.op = .call ⟨.builtin .append, #[x, y], #[T, T]⟩) (hT : C.ty T = some ⟨sz, .slice E z⟩) (hz : C.zt E = some (zk, bytes)) (hzl : zk.length = z) (hz0 : Nat.blt 0 z = true)
    (hx : evO e x = some (.os none 0 0)) (hy : evO e y = some (.sl (zs.map g))) (hg : ∀ y, (g y).length = z) (hok : ∀ y ∈ zs, (g y).all okCell = true) (hsize : zs.length * bytes ≤ 140737488355328 ∧ zs.length ≤ 9223372036854775807) (hd : o.dst = some dd) (hn : Nat.blt dd n = true)
    (hj : ∀ b' cap', JO fs B C n l os Q ((dd, .os b' zs.length cap') :: e) (⟨b', E, cap' * z, (zs.map g).flatten⟩ :: h)) : JO (f :: fs) B C n l (o :: os) Q e h :=
  j_mutO hf hw (append0_list ho hT hz hzl hz0 hx hy hg hok hsize.1 hsize.2) (fun v h' ⟨b', cap', h1, h2⟩ => by rw [h2]; exact fun k hk => List.mem_cons_of_mem _ (hB k hk)) (by rw [hd]; exact hn) fun v h' ⟨b', cap', h1, h2⟩ => by rw [hd, h1, h2]; exact hj b' cap'

/-! #### Calls that write -/
theorem perm_part {α : Type} (l : List α) (i k : Nat) : l.Perm ((l.drop i).take k ++ (l.take i ++ l.drop (i + k))) := by
  have h1 : l = l.take i ++ ((l.drop i).take k ++ (l.drop i).drop k) := by rw [List.take_append_drop, List.take_append_drop]
  have h2 : (l.drop i).drop k = l.drop (i + k) := by rw [List.drop_drop]
  rw [h2] at h1
  have h3 : (l.take i ++ ((l.drop i).take k ++ l.drop (i + k))).Perm ((l.drop i).take k ++ (l.take i ++ l.drop (i + k))) := by
    rw [← List.append_assoc, ← List.append_assoc]
    exact List.Perm.append_right _ List.perm_append_comm
  exact (List.Perm.of_eq h1).trans h3
/-- A call to which blocks i .. i + k - 1 are handed over. -/
theorem call_part {g : FuncId} {x : Operand} {args : Array Operand} {ts : Array TypeId} {caps as all : List A} {R : A → Heap → Prop} {h0 : Heap} (i k : Nat)
    (ho : o.op = .call ⟨.value x, args, ts⟩) (hx : evO e x = some (.fn g caps)) (ha : mapEv e args.toList = some as) (hf : Does C.P g all h0 R) (hh : (h.drop i).take k = h0) (hle : LeL (as ++ caps) all) :
    MStep C.P o e h fun v h' => ∃ h1, R v h1 ∧ h' = h.take i ++ (h1 ++ h.drop (i + k)) := by
  subst hh
  refine MStep.imp (MStep.perm (perm_part h i k) (call_step (F := h.take i ++ h.drop (i + k)) ho hx ha hf hle)) fun v h' ⟨h1, hR, he⟩ => ?_
  refine ⟨_, ?_, h1, hR, rfl⟩
  rw [he, ← List.append_assoc, ← List.append_assoc]
  exact List.Perm.append_right _ List.perm_append_comm
theorem j_doO (i k : Nat) {g : FuncId} {x : Operand} {args : Array Operand} {ts : Array TypeId} {caps as all : List A} {R : A → Heap → Prop} {h0 : Heap} {dd : Nat} (hm : f.w = true) (hB : ∀ k' ∈ B, k'.2 ∈ h.take i ++ h.drop (i + k)) (hw : wantE l e o = some true)
    (ho : o.op = .call ⟨.value x, args, ts⟩) (hx : evO e x = some (.fn g caps)) (ha : mapEv e args.toList = some as) (hf : Does C.P g all h0 R) (hh : (h.drop i).take k = h0) (hle : LeL (as ++ caps) all) (hd : o.dst = some dd) (hn : Nat.blt dd n = true)
    (hj : ∀ v h1, R v h1 → JO fs B C n l os Q ((dd, v) :: e) (h.take i ++ (h1 ++ h.drop (i + k)))) : JO (f :: fs) B C n l (o :: os) Q e h :=
  j_mutO hm hw (call_part i k ho hx ha hf hh hle) (fun v h' ⟨h1, q1, q2⟩ => by
    rw [q2]; intro k' hk'
    have := hB k' hk'
    simp only [List.mem_append] at this ⊢
    rcases this with q | q
    · exact .inl q
    · exact .inr (.inr q)) (by rw [hd]; exact hn) fun v h' ⟨h1, q1, q2⟩ => by rw [hd, q2]; exact hj v h1 q1

/-! #### Several everyday steps at once -/
/-! #### The chosen order of a statement -/
def pickO (l : List Oper) : List Fl → Option (List Oper)
  | [] => some []
  | f :: fs => match l[f.i]?, pickO l fs with
    | some o, some os => some (o :: os)
    | _, _ => none
theorem al_of_pick : ∀ {fl : List Fl} {os : List Oper}, pickO l fl = some os → Al l fl os
  | [], os, h => by simp only [pickO, Option.some.injEq] at h; subst h; trivial
  | f :: fs, os, h => by
    simp only [pickO] at h
    split at h
    · rename_i o os' h1 h2
      simp only [Option.some.injEq] at h
      subst h
      exact ⟨h1, al_of_pick h2⟩
    · cases h
theorem run_opn {id : Nat} (id' : Nat) (fl : List Fl) (hid : id = id') (ha : pickO l fl = some os) (hok : openOk l fl = true) (hj : JO fl [] C n l os Q e h) : Run C n (.region id l.toArray true) Q e h := run_regionO id' fl hid (al_of_pick ha) hok hj

/-! #### What kind of step comes next -/
theorem r_go {c : Code} (hr : Run C n c Q e h) : Run C n c Q e h := hr
theorem j_go (hj : J d C n l (o :: os) Q e h) : J d C n l (o :: os) Q e h := hj
theorem j_kIdx {T : Nat} {x i : Operand} (_ho : o.op = .indexAddr T x i) (hj : J d C n l (o :: os) Q e h) : J d C n l (o :: os) Q e h := hj
theorem j_kBin {p : BinOp} {t t2 : Nat} {x y : Operand} (_ho : o.op = .binOp p t x y t2) (hj : J d C n l (o :: os) Q e h) : J d C n l (o :: os) Q e h := hj
theorem j_kLen {x : Operand} {t : Nat} (_ho : o.op = .call ⟨.builtin .len, #[x], #[t]⟩) (hj : J d C n l (o :: os) Q e h) : J d C n l (o :: os) Q e h := hj
theorem j_kLoad {T : Nat} {x : Operand} (_ho : o.op = .load T x) (hj : J d C n l (o :: os) Q e h) : J d C n l (o :: os) Q e h := hj
theorem j_kStore {T : Nat} {x y : Operand} (_ho : o.op = .store T x y) (hj : J d C n l (o :: os) Q e h) : J d C n l (o :: os) Q e h := hj
theorem j_kBsl {T k : Nat} {ps : Array (Nat × Operand)} (_ho : o.op = .buildSlice T k ps) (hj : J d C n l (o :: os) Q e h) : J d C n l (o :: os) Q e h := hj
theorem j_kSlice {T : Nat} {x : Operand} {lo hi : Option Operand} (_ho : o.op = .slice T x lo hi none) (hj : J d C n l (o :: os) Q e h) : J d C n l (o :: os) Q e h := hj
theorem j_kGuard {k : Nat} {b : Bool} (_hg : o.guard = some (k, b)) (hj : J d C n l (o :: os) Q e h) : J d C n l (o :: os) Q e h := hj
theorem j_goO (hj : JO (f :: fs) B C n l (o :: os) Q e h) : JO (f :: fs) B C n l (o :: os) Q e h := hj
theorem j_kIdxO {T : Nat} {x i : Operand} (_ho : o.op = .indexAddr T x i) (hj : JO (f :: fs) B C n l (o :: os) Q e h) : JO (f :: fs) B C n l (o :: os) Q e h := hj
theorem j_kBinO {p : BinOp} {t t2 : Nat} {x y : Operand} (_ho : o.op = .binOp p t x y t2) (hj : JO (f :: fs) B C n l (o :: os) Q e h) : JO (f :: fs) B C n l (o :: os) Q e h := hj
theorem j_kLoadO {T : Nat} {x : Operand} (_ho : o.op = .load T x) (hj : JO (f :: fs) B C n l (o :: os) Q e h) : JO (f :: fs) B C n l (o :: os) Q e h := hj
theorem j_kStoreO {T : Nat} {x y : Operand} (_ho : o.op = .store T x y) (hj : JO (f :: fs) B C n l (o :: os) Q e h) : JO (f :: fs) B C n l (o :: os) Q e h := hj
theorem j_kBslO {T k : Nat} {ps : Array (Nat × Operand)} (_ho : o.op = .buildSlice T k ps) (hj : JO (f :: fs) B C n l (o :: os) Q e h) : JO (f :: fs) B C n l (o :: os) Q e h := hj
theorem j_kSliceO {T : Nat} {x : Operand} {lo hi : Option Operand} (_ho : o.op = .slice T x lo hi none) (hj : JO (f :: fs) B C n l (o :: os) Q e h) : JO (f :: fs) B C n l (o :: os) Q e h := hj
theorem j_kGuardO {k : Nat} {b : Bool} (_hg : o.guard = some (k, b)) (hj : JO (f :: fs) B C n l (o :: os) Q e h) : JO (f :: fs) B C n l (o :: os) Q e h := hj
/-- A call of g at as is next. -/
def CallAt (e : Env) (l : List Oper) (o : Oper) (g : FuncId) (as : List A) : Prop := ∃ (x : Operand) (args : Array Operand) (ts : Array TypeId) (caps as0 : List A),
  wantE l e o = some true ∧ o.op = .call ⟨.value x, args, ts⟩ ∧ evO e x = some (.fn g caps) ∧ mapEv e args.toList = some as0 ∧ as0 ++ caps = as
def JC (g : FuncId) (as : List A) (d : Bool) (C : Cx) (n : Nat) (l : List Oper) (o : Oper) (os : List Oper) (Q : Exit → Env → Heap → Prop) (e : Env) (h : Heap) : Prop := CallAt e l o g as → J d C n l (o :: os) Q e h
def JCO (g : FuncId) (as : List A) (f : Fl) (fs : List Fl) (B : List (Nat × Blk)) (C : Cx) (n : Nat) (l : List Oper) (o : Oper) (os : List Oper) (Q : Exit → Env → Heap → Prop) (e : Env) (h : Heap) : Prop := CallAt e l o g as → JO (f :: fs) B C n l (o :: os) Q e h
theorem j_kCall {d : Bool} {g : FuncId} {x : Operand} {args : Array Operand} {ts : Array TypeId} {caps as : List A} (hw : wantE l e o = some true) (ho : o.op = .call ⟨.value x, args, ts⟩) (hx : evO e x = some (.fn g caps)) (ha : mapEv e args.toList = some as)
    (hj : JC g (as ++ caps) d C n l o os Q e h) : J d C n l (o :: os) Q e h := hj ⟨x, args, ts, caps, as, hw, ho, hx, ha, rfl⟩
theorem j_kCallO {g : FuncId} {x : Operand} {args : Array Operand} {ts : Array TypeId} {caps as : List A} (hw : wantE l e o = some true) (ho : o.op = .call ⟨.value x, args, ts⟩) (hx : evO e x = some (.fn g caps)) (ha : mapEv e args.toList = some as)
    (hj : JCO g (as ++ caps) f fs B C n l o os Q e h) : JO (f :: fs) B C n l (o :: os) Q e h := hj ⟨x, args, ts, caps, as, hw, ho, hx, ha, rfl⟩
theorem jc {d : Bool} {g : FuncId} {as all : List A} {v : A} {dd : Nat} (hf : Gives C.P g all v) (hle : LeL as all) (hd : o.dst = some dd) (hn : Nat.blt dd n = true) (hj : J d C n l os Q ((dd, v) :: e) h) : JC g as d C n l o os Q e h := by
  rintro ⟨x, args, ts, caps, as0, hw, ho, hx, ha, rfl⟩
  exact j_call hw ho hx ha hf hle hd hn hj
theorem jcO {g : FuncId} {as all : List A} {v : A} {dd : Nat} (hf : Gives C.P g all v) (hle : LeL as all) (hd : o.dst = some dd) (hn : Nat.blt dd n = true) (hj : JO fs B C n l os Q ((dd, v) :: e) h) : JCO g as f fs B C n l o os Q e h := by
  rintro ⟨x, args, ts, caps, as0, hw, ho, hx, ha, rfl⟩
  exact j_callO hw ho hx ha hf hle hd hn hj
theorem jcdO (i k : Nat) {g : FuncId} {as all : List A} {R : A → Heap → Prop} {h0 : Heap} {dd : Nat} (hm : f.w = true) (hB : ∀ k' ∈ B, k'.2 ∈ h.take i ++ h.drop (i + k)) (hf : Does C.P g all h0 R) (hh : (h.drop i).take k = h0) (hle : LeL as all) (hd : o.dst = some dd) (hn : Nat.blt dd n = true)
    (hj : ∀ v h1, R v h1 → JO fs B C n l os Q ((dd, v) :: e) (h.take i ++ (h1 ++ h.drop (i + k)))) : JCO g as f fs B C n l o os Q e h := by
  rintro ⟨x, args, ts, caps, as0, hw, ho, hx, ha, rfl⟩
  exact j_doO i k hm hB hw ho hx ha hf hh hle hd hn hj

/-! #### The ends -/
theorem sub1 {a : Blk} {h0 : Heap} : h0.Sublist (a :: h0) := List.sublist_cons_self _ _
theorem sub2 {a b : Blk} {h0 : Heap} : h0.Sublist (a :: b :: h0) := (List.sublist_cons_self _ _).trans (List.sublist_cons_self _ _)
theorem sub3 {a b c : Blk} {h0 : Heap} : h0.Sublist (a :: b :: c :: h0) := sub2.trans (List.sublist_cons_self _ _)
end
theorem rb {b c : Bool} (h : b = c) : A.raw (.bool b) = A.raw (.bool c) := by rw [h]
theorem rbT {p : Prop} (h : p) : A.raw (.bool true) = A.raw (.bool (dec p)) := rb (dec_t h).symm
theorem rbF {p : Prop} (h : ¬p) : A.raw (.bool false) = A.raw (.bool (dec p)) := rb (dec_f h).symm
theorem all_step {m k : Nat} {p : ∀ i, i < m → Prop} (g : ∀ i (h : i < m), i < k → p i h) (hn : ∀ h : k < m, p k h) : ∀ i (h : i < m), i < k + 1 → p i h := fun i h hi => by
  rcases Nat.lt_or_eq_of_le (Nat.le_of_lt_succ hi) with h1 | rfl
  · exact g i h h1
  · exact hn h
theorem ai {b c : Int} (h : b = c) : A.int b = A.int c := by rw [h]
theorem Chg.below {w w' : World} (h : Chg [] [] w w') : Below w.heap.size w w' := ⟨h.os, h.tape, h.output, h.size, fun k hk => h.block k hk (by simp [keys])⟩
theorem raw_t {p : Prop} (h : p) : some (A.raw (.bool true)) = some (A.raw (.bool (dec p))) := by rw [rbT h]
theorem raw_f {p : Prop} (h : ¬p) : some (A.raw (.bool false)) = some (A.raw (.bool (dec p))) := by rw [rbF h]
theorem raw_n {p q : Prop} (h : ¬p ↔ q) : some (A.raw (.bool (!dec p))) = some (A.raw (.bool (dec q))) := by
  by_cases hp : p
  · rw [dec_t hp, dec_f (fun hq => h.2 hq hp)]; rfl
  · rw [dec_f hp, dec_t (h.1 hp)]; rfl
theorem rbD {p q : Prop} (h : p ↔ q) : A.raw (.bool (dec p)) = A.raw (.bool (dec q)) := by rw [propext h]
theorem rbN {p q : Prop} (h : ¬p ↔ q) : A.raw (.bool (!dec p)) = A.raw (.bool (dec q)) := Option.some.inj (raw_n h)
theorem si {b c : Int} (h : b = c) : some (A.int b) = some (A.int c) := by rw [h]
theorem end_cell2 {ty : Nat → Option TI} {e : Env} {h : Heap} {p T b T' room t : Nat} {cs : List A} {u v2 v : A} {h0 : Heap} {x : Exit} (hp : lk e p = some (.op (some b) 0)) (i : Nat) (hi : h[i]? = some ⟨some b, T', room, cs⟩) (hv : loadA ty T cs = some u) (ht : lk e t = some v2) (hs : h0.Sublist h) (huv : A.tup [u, v2] = v) (hx : x = .ret ∨ x = .normal) :
    endQ ty #[.cell p T, .tmp t] v h0 x e h := end_le hs (vs := [u, v2]) (.cons (.cellM hp (List.mem_of_getElem? hi) hv) (.cons (.tmp ht) .nil)) (by rw [← huv]; exact Le.refl _) hx
theorem wrap_u64 {m : Int} (h0 : 0 ≤ m) (h1 : m ≤ 9223372036854775807) : IntKind.u64.wrap m = m := by
  simp [IntKind.wrap, IntKind.bits, IntKind.signed]; omega
attribute [irreducible] JC JCO CallAt
end Go.AI

/-
  Plain facts on lists of numbers: sums, counts. No condition.
-/
namespace Go.AI

/-- The sum of what f makes of the elements. -/
def sumF {α : Type} (f : α → Int) : List α → Int
  | [] => 0
  | x :: l => f x + sumF f l
theorem sumF_app {α : Type} (f : α → Int) (x : α) : ∀ l : List α, sumF f (l ++ [x]) = sumF f l + f x
  | [] => by simp [sumF]
  | y :: l => by
    have := sumF_app f x l
    simp only [List.cons_append, sumF, this]; omega
theorem sumF_succ {α : Type} (f : α → Int) {l : List α} {k : Nat} (h : k < l.length) : sumF f (l.take (k + 1)) = sumF f (l.take k) + f l[k] := by
  rw [List.take_succ_eq_append_getElem h, sumF_app]
theorem sumF_bnd {α : Type} (f : α → Int) {lo hi : Int} : ∀ (l : List α), (∀ x ∈ l, lo ≤ f x ∧ f x ≤ hi) → lo * l.length ≤ sumF f l ∧ sumF f l ≤ hi * l.length
  | [], _ => by simp [sumF]
  | x :: l, h => by
    have h1 := h x (by simp)
    have h2 := sumF_bnd f l (fun y hy => h y (by simp [hy]))
    have e : ∀ a : Int, a * ((x :: l).length : Int) = a * l.length + a := fun a => by
      rw [List.length_cons, Int.natCast_succ, Int.mul_add, Int.mul_one]
    rw [e, e, sumF]; omega
theorem sumF_take {α : Type} (f : α → Int) {lo hi : Int} (l : List α) (h : ∀ x ∈ l, lo ≤ f x ∧ f x ≤ hi) (k : Nat) (hk : k ≤ l.length) : lo * k ≤ sumF f (l.take k) ∧ sumF f (l.take k) ≤ hi * k := by
  have := sumF_bnd f (l.take k) (fun x hx => h x (List.mem_of_mem_take hx))
  rw [List.length_take, Nat.min_eq_left hk] at this; exact this
/-- The sum of numbers; how often a number is there. -/
def tot (l : List Int) : Int := sumF (fun x => x) l
def one (x y : Int) : Int := if y = x then 1 else 0
def occ (x : Int) (l : List Int) : Int := sumF (one x) l
theorem one_bnd (x y : Int) : 0 ≤ one x y ∧ one x y ≤ 1 := by unfold one; split <;> omega
theorem one_t {x y : Int} (h : y = x) : one x y = 1 := by unfold one; rw [if_pos h]
theorem one_f {x y : Int} (h : ¬y = x) : one x y = 0 := by unfold one; rw [if_neg h]
theorem occ_take (x : Int) (l : List Int) (k : Nat) (hk : k ≤ l.length) : 0 ≤ sumF (one x) (l.take k) ∧ sumF (one x) (l.take k) ≤ k := by
  have := sumF_take (one x) l (fun y _ => one_bnd x y) k hk
  simpa using this

/-- The place of the first element of which r is true; -1 if there is none. -/
noncomputable def fIdx {α : Type} (r : α → Prop) (l : List α) : Int := if l.findIdx (fun x => dec (r x)) < l.length then (l.findIdx (fun x => dec (r x)) : Int) else -1
theorem fIdx_at {α : Type} {r : α → Prop} {l : List α} {k : Nat} (h : k < l.length) (hr : r l[k]) (hn : ∀ i (hi : i < l.length), i < k → ¬ r l[i]) : fIdx r l = k := by
  have e : l.findIdx (fun x => dec (r x)) = k := by
    rw [List.findIdx_eq h]
    exact ⟨dec_t hr, fun j hj => dec_f (hn j (by omega) hj)⟩
  unfold fIdx; rw [e, if_pos h]
theorem fIdx_none {α : Type} {r : α → Prop} {l : List α} (hn : ∀ i (hi : i < l.length), ¬ r l[i]) : fIdx r l = -1 := by
  have e : l.findIdx (fun x => dec (r x)) = l.length := by
    rw [List.findIdx_eq_length]
    intro x hx
    obtain ⟨i, hi, rfl⟩ := List.getElem_of_mem hx
    exact dec_f (hn i hi)
  unfold fIdx; rw [e, if_neg (Nat.lt_irrefl _)]
theorem fIdx_ex {α : Type} (r : α → Prop) (l : List α) : 0 ≤ fIdx r l ↔ ∃ x ∈ l, r x := by
  constructor
  · intro h
    unfold fIdx at h
    split at h
    · rename_i hl
      have := List.findIdx_getElem (xs := l) (p := fun x => dec (r x)) (w := hl)
      exact ⟨_, List.getElem_mem hl, by
        by_cases hr : r l[l.findIdx (fun x => dec (r x))]
        · exact hr
        · rw [dec_f hr] at this; cases this⟩
    · omega
  · rintro ⟨x, hx, hr⟩
    have : l.findIdx (fun x => dec (r x)) < l.length := List.findIdx_lt_length_of_exists ⟨x, hx, dec_t hr⟩
    unfold fIdx; rw [if_pos this]; omega

/-- Bags: from one to eight numbers from 0 to 1000. -/
def Bag (b : List Int) : Prop := (∀ x ∈ b, 0 ≤ x ∧ x ≤ 1000) ∧ 1 ≤ b.length ∧ b.length ≤ 8
theorem Bag.take {b : List Int} (h : Bag b) (k : Nat) (hk : k ≤ b.length) : 0 ≤ sumF (fun x => x) (b.take k) ∧ sumF (fun x => x) (b.take k) ≤ 1000 * k := by
  have := sumF_take (fun x => x) b h.1 k hk
  simpa using this
open Classical in
/-- The code of a condition, and a number under it. -/
noncomputable def cdP (p : Prop) : Int := if p then 0 else 1
open Classical in
noncomputable def numP (p : Prop) (n : Int) : Int := if p then n else 0
open Classical in
/-- The code of two conditions, one behind the other. -/
noncomputable def cd2 (p q : Prop) : Int := if p then (if q then 0 else 2) else 1
theorem cd2_f {p q : Prop} (h : ¬p) : cd2 p q = 1 := by unfold cd2; rw [if_neg h]
theorem cd2_t {p q : Prop} (h : p) (h2 : ¬q) : cd2 p q = 2 := by unfold cd2; rw [if_pos h, if_neg h2]
theorem cd2_z {p q : Prop} : cd2 p q = 0 ↔ p ∧ q := by
  unfold cd2
  constructor
  · intro h
    split at h
    · rename_i hp
      split at h
      · exact ⟨hp, by assumption⟩
      · cases h
    · cases h
  · intro ⟨h1, h2⟩; rw [if_pos h1, if_pos h2]
theorem cd2_o {p q : Prop} (h : p) (h2 : q) : cd2 p q = 0 := cd2_z.2 ⟨h, h2⟩

open Classical in
noncomputable def cd3 (p q r : Prop) : Int := if p then (if q then (if r then 0 else 4) else 2) else 1
theorem dec_congr {p q : Prop} (h : p ↔ q) : dec p = dec q := by rw [propext h]
/-- Lists whose sums stay within range. -/
def Small (b : List Int) : Prop := (∀ x ∈ b, -1000000000 ≤ x ∧ x ≤ 1000000000) ∧ b.length ≤ 1000000
theorem Bag.small {b : List Int} (h : Bag b) : Small b := ⟨fun x hx => by have := h.1 x hx; omega, by have := h.2; omega⟩
theorem Small.take {b : List Int} (h : Small b) (k : Nat) (hk : k ≤ b.length) : -1000000000 * k ≤ sumF (fun x => x) (b.take k) ∧ sumF (fun x => x) (b.take k) ≤ 1000000000 * k :=
  sumF_take (fun x => x) b h.1 k hk
end Go.AI

/-
  More rules of the walk: elements of lists of the call's own, the tail of a list. No condition.
-/
namespace Go.AI
open Go.RowKit

section
variable {C : Cx} {n : Nat} {Q : Exit → Env → Heap → Prop} {e : Env} {h h' : Heap} {d : Bool} {l os : List Oper} {o : Oper} {f : Fl} {fs : List Fl} {B : List (Nat × Blk)}
theorem drop_flat {α : Type} {g : α → List A} {z : Nat} (hz : ∀ y, (g y).length = z) : ∀ (L : List α) (m : Nat) (hm : m < L.length), (L.map g).flatten.drop (m * z) = g L[m] ++ ((L.drop (m + 1)).map g).flatten
  | [], m, hm => absurd hm (Nat.not_lt_zero _)
  | x :: L, 0, hm => by simp
  | x :: L, m + 1, hm => by
    have ih := drop_flat hz L m (by simpa using hm)
    simp only [List.map_cons, List.flatten_cons, List.drop_succ_cons, List.getElem_cons_succ]
    have e1 : (m + 1) * z = (g x).length + m * z := by rw [hz, Nat.succ_mul]; omega
    rw [e1, List.drop_length_add_append]; exact ih

/-- '.. = s[m]', s a list of the call's own. -/
theorem j_mloadE (i m : Nat) {α : Type} {g : α → List A} {L : List α} {z : Nat} {T b p T' room dd : Nat} {x : Operand} {v : A} (hw : wantE l e o = some true) (ho : o.op = .load T x) (hx : evO e x = some (.op (some b) p)) (hi : h[i]? = some ⟨some b, T', room, (L.map g).flatten⟩)
    (hz : ∀ y, (g y).length = z) (hp : p = m * z) (hm : m < L.length) (hv : ∀ rest, loadA C.ty T (g L[m] ++ rest) = some v) (hd : o.dst = some dd) (hn : Nat.blt dd n = true) (hj : J d C n l os Q ((dd, v) :: e) h) : J d C n l (o :: os) Q e h :=
  j_mload i hw ho hx hi (by rw [hp, drop_flat hz L m hm]; exact hv _) hd hn hj
theorem j_mloadEO (i m : Nat) {α : Type} {g : α → List A} {L : List α} {z : Nat} {T b p T' room dd : Nat} {x : Operand} {v : A} (ht : f.tight = true) (hw : wantE l e o = some true) (ho : o.op = .load T x) (hx : evO e x = some (.op (some b) p)) (hi : h[i]? = some ⟨some b, T', room, (L.map g).flatten⟩)
    (hz : ∀ y, (g y).length = z) (hp : p = m * z) (hm : m < L.length) (hv : ∀ rest, loadA C.ty T (g L[m] ++ rest) = some v) (hd : o.dst = some dd) (hn : Nat.blt dd n = true) (hj : JO fs B C n l os Q ((dd, v) :: e) h) : JO (f :: fs) B C n l (o :: os) Q e h :=
  j_mloadO i ht hw ho hx hi (by rw [hp, drop_flat hz L m hm]; exact hv _) hd hn hj
end
end Go.AI

/-
  More rules of the walk: is a list nil? No condition.
-/
namespace Go.AI
open Go.RowKit

section
variable {C : Cx} {n : Nat} {Q : Exit → Env → Heap → Prop} {e : Env} {h h' : Heap} {d : Bool} {l os : List Oper} {o : Oper} {f : Fl} {fs : List Fl} {B : List (Nat × Blk)}
theorem slnil_quiet {t t2 sz E z : Nat} {x : Operand} {xs : List (List A)} (ho : o.op = .binOp .eql t x (.const (.slice none 0 0)) t2) (hT : C.ty t = some ⟨sz, .slice E z⟩) (hx : evO e x = some (.sl xs)) (hn : xs ≠ []) : Quiet C.P o e h (.raw (.bool false)) := by
  apply Quiet.of_same
  intro a w hst
  have hops := hst.ops
  rw [ho] at hops
  have h1 := C.ok _ _ hT
  simp only [TIok, Bool.and_eq_true] at h1
  have hu := (und_slice h1.2).1
  have rx := hops x (by simp [Op.operands]) _ hx
  have e1 : Op.maxDepth = 9999 + 1 := rfl
  obtain ⟨b, off, cap, hv⟩ : ∃ b off cap, a.eval x = .slice (some ⟨b, off, none⟩) xs.length cap := by
    generalize a.eval x = v at rx
    cases rx with
    | nil => exact absurd rfl hn
    | sl _ b off cap => exact ⟨b, off, cap, rfl⟩
  have heq : (Op.equal t (a.eval x) (.slice none 0 0)).run C.P w = .ok false w := by
    unfold Op.equal
    rw [e1, hv]
    unfold Op.equalIn
    simp [underlying, hu]
  have hg : (eqGuard .eql t x (.const (.slice none 0 0)) (a.eval x) (.slice none 0 0)).run C.P w = .ok () w := by
    rw [hv]; simp [eqGuard]
  have hy : a.eval (.const (.slice none 0 0)) = .slice none 0 0 := rfl
  refine ⟨.bool false, ?_, .raw _⟩
  rw [hv] at heq hg
  simp [execOp, ho, hy, hv, hg, binOp, heq]
theorem j_slnil {t t2 sz E z dd : Nat} {x : Operand} {xs : List (List A)} (hw : wantE l e o = some true) (ho : o.op = .binOp .eql t x (.const (.slice none 0 0)) t2) (hT : C.ty t = some ⟨sz, .slice E z⟩) (hx : evO e x = some (.sl xs)) (hne : xs ≠ []) (hd : o.dst = some dd) (hn : Nat.blt dd n = true)
    (hj : J d C n l os Q ((dd, .raw (.bool false)) :: e) h) : J d C n l (o :: os) Q e h := j_quiet hw (fun _ => slnil_quiet ho hT hx hne) hd hn hj
end
end Go.AI

/-
  More rules of the walk: unsigned numbers as they stand. No condition.
-/
namespace Go.AI
open Go.RowKit

section
variable {C : Cx} {n : Nat} {Q : Exit → Env → Heap → Prop} {e : Env} {h h' : Heap} {d : Bool} {l os : List Oper} {o : Oper} {f : Fl} {fs : List Fl} {B : List (Nat × Blk)}
end
end Go.AI

/-
  More rules of the walk: unsigned numbers of 64 bits, as they stand; bytes as numbers. No condition.
-/
namespace Go.AI
open Go.RowKit

section
variable {C : Cx} {n : Nat} {Q : Exit → Env → Heap → Prop} {e : Env} {h h' : Heap} {d : Bool} {l os : List Oper} {o : Oper} {f : Fl} {fs : List Fl} {B : List (Nat × Blk)}
theorem u64mul_quiet {t t2 : Nat} {x y : Operand} {m k : Int} (ho : o.op = .binOp .mul t x y t2) (hx : evO e x = some (.raw (.int .u64 m))) (hy : evO e y = some (.raw (.int .u64 k))) : Quiet C.P o e h (.raw (.int .u64 (IntKind.u64.wrap (m * k)))) := by
  apply Quiet.of_same
  intro a w hs
  have hops := hs.ops
  rw [ho] at hops
  have e1 := (hops x (by simp [Op.operands]) _ hx).raw_inv
  have e2 := (hops y (by simp [Op.operands]) _ hy).raw_inv
  exact ⟨.int .u64 (IntKind.u64.wrap (m * k)), by simp [execOp, ho, e1, e2, eqGuard, binOp, Op.intArith], .raw _⟩
theorem u64add_quiet {t t2 : Nat} {x y : Operand} {m k : Int} (ho : o.op = .binOp .add t x y t2) (hx : evO e x = some (.raw (.int .u64 m))) (hy : evO e y = some (.raw (.int .u64 k))) : Quiet C.P o e h (.raw (.int .u64 (IntKind.u64.wrap (m + k)))) := by
  apply Quiet.of_same
  intro a w hs
  have hops := hs.ops
  rw [ho] at hops
  have e1 := (hops x (by simp [Op.operands]) _ hx).raw_inv
  have e2 := (hops y (by simp [Op.operands]) _ hy).raw_inv
  exact ⟨.int .u64 (IntKind.u64.wrap (m + k)), by simp [execOp, ho, e1, e2, eqGuard, binOp, Op.intArith], .raw _⟩
theorem u64shr_quiet {t t2 : Nat} {x y : Operand} {m k : Int} {kk : IntKind} (ho : o.op = .binOp .shr t x y t2) (hx : evO e x = some (.raw (.int .u64 m))) (hy : evO e y = some (.raw (.int kk k)) ∨ evO e y = some (.int k)) (hk : 0 ≤ k) : Quiet C.P o e h (.raw (.int .u64 (m.fdiv (2 ^ (min k.toNat 64))))) := by
  apply Quiet.of_same
  intro a w hs
  have hops := hs.ops
  rw [ho] at hops
  have e1 := (hops x (by simp [Op.operands]) _ hx).raw_inv
  have hk2 : ¬ k < 0 := by omega
  rcases hy with hy | hy
  · have e2 := (hops y (by simp [Op.operands]) _ hy).raw_inv
    exact ⟨_, by simp [execOp, ho, e1, e2, eqGuard, binOp, Op.shift, hk2, IntKind.bits], .raw _⟩
  · have e2 := (hops y (by simp [Op.operands]) _ hy).int_inv.1
    exact ⟨_, by simp [execOp, ho, e1, e2, eqGuard, binOp, Op.shift, hk2, IntKind.bits], .raw _⟩
theorem u64and_quiet {t t2 : Nat} {x y : Operand} {m : Int} (ho : o.op = .binOp .and t x y t2) (hx : evO e x = some (.raw (.int .u64 m))) (hy : evO e y = some (.raw (.int .u64 255))) : ∃ c : Int, (0 ≤ c ∧ c ≤ 255) ∧ ∀ h, Quiet C.P o e h (.raw (.int .u64 c)) := by
  refine ⟨(((BitVec.ofInt 64 m) &&& (BitVec.ofInt 64 255)).toNat : Int), ?_, fun h => ?_⟩
  · have : ((BitVec.ofInt 64 m) &&& (BitVec.ofInt 64 255)).toNat ≤ 255 := by
      rw [BitVec.toNat_and]
      exact Nat.and_le_right
    omega
  · apply Quiet.of_same
    intro a w hs
    have hops := hs.ops
    rw [ho] at hops
    have e1 := (hops x (by simp [Op.operands]) _ hx).raw_inv
    have e2 := (hops y (by simp [Op.operands]) _ hy).raw_inv
    have hle : ((BitVec.ofInt 64 m) &&& (BitVec.ofInt 64 255)).toNat ≤ 255 := by
      rw [BitVec.toNat_and]
      exact Nat.and_le_right
    have hw : IntKind.u64.wrap (((BitVec.ofInt 64 m) &&& (BitVec.ofInt 64 255)).toNat : Int) = (((BitVec.ofInt 64 m) &&& (BitVec.ofInt 64 255)).toNat : Int) := by
      generalize ((BitVec.ofInt 64 m) &&& (BitVec.ofInt 64 255)).toNat = q at hle
      simp [IntKind.wrap, IntKind.bits, IntKind.signed]; omega
    refine ⟨_, ?_, .raw _⟩
    have hr : (execOp a.eval o).run C.P w = .ok (.value (.int .u64 (IntKind.u64.wrap (((BitVec.ofInt 64 m) &&& (BitVec.ofInt 64 255)).toNat : Int)))) w := by
      simp only [execOp, ho, e1, e2]
      simp [eqGuard, binOp, Op.intBits]
      rfl
    rw [hw] at hr
    exact hr
theorem u2i_quiet {s t sz sz2 : Nat} {x : Operand} {m : Int} (ho : o.op = .convert s t x) (hs : C.ty s = some ⟨sz, .ik .u64⟩) (ht : C.ty t = some ⟨sz2, .ik .i64⟩) (hx : evO e x = some (.raw (.int .u64 m))) (hm : 0 ≤ m ∧ m ≤ 255) : Quiet C.P o e h (.int m) := by
  apply Quiet.of_same
  intro a w hst
  have hops := hst.ops
  rw [ho] at hops
  have h1 := C.ok _ _ hs; have h2 := C.ok _ _ ht
  simp only [TIok, Bool.and_eq_true] at h1 h2
  have e1 := (hops x (by simp [Op.operands]) _ hx).raw_inv
  have hw : IntKind.i64.wrap m = m := by simp [IntKind.wrap, IntKind.bits, IntKind.signed]; omega
  exact ⟨.int .i64 m, by simp [execOp, ho, e1, convert, underlying, und_ik h1.2, und_ik h2.2, Conv.intToInt, hw], .int _ (by unfold InR; omega)⟩
theorem j_u64mul {t t2 dd : Nat} {x y : Operand} {m k : Int} (hw : wantE l e o = some true) (ho : o.op = .binOp .mul t x y t2) (hx : evO e x = some (.raw (.int .u64 m))) (hy : evO e y = some (.raw (.int .u64 k))) (hd : o.dst = some dd) (hn : Nat.blt dd n = true)
    (hj : J d C n l os Q ((dd, .raw (.int .u64 (IntKind.u64.wrap (m * k)))) :: e) h) : J d C n l (o :: os) Q e h := j_quiet hw (fun _ => u64mul_quiet ho hx hy) hd hn hj
theorem j_u64add {t t2 dd : Nat} {x y : Operand} {m k : Int} (hw : wantE l e o = some true) (ho : o.op = .binOp .add t x y t2) (hx : evO e x = some (.raw (.int .u64 m))) (hy : evO e y = some (.raw (.int .u64 k))) (hd : o.dst = some dd) (hn : Nat.blt dd n = true)
    (hj : J d C n l os Q ((dd, .raw (.int .u64 (IntKind.u64.wrap (m + k)))) :: e) h) : J d C n l (o :: os) Q e h := j_quiet hw (fun _ => u64add_quiet ho hx hy) hd hn hj
theorem j_u64shr {t t2 dd : Nat} {x y : Operand} {m k : Int} {kk : IntKind} (hw : wantE l e o = some true) (ho : o.op = .binOp .shr t x y t2) (hx : evO e x = some (.raw (.int .u64 m))) (hy : evO e y = some (.raw (.int kk k)) ∨ evO e y = some (.int k)) (hk : 0 ≤ k) (hd : o.dst = some dd) (hn : Nat.blt dd n = true)
    (hj : J d C n l os Q ((dd, .raw (.int .u64 (m.fdiv (2 ^ (min k.toNat 64))))) :: e) h) : J d C n l (o :: os) Q e h := j_quiet hw (fun _ => u64shr_quiet ho hx hy hk) hd hn hj
theorem j_u64and {t t2 dd : Nat} {x y : Operand} {m : Int} (hw : wantE l e o = some true) (ho : o.op = .binOp .and t x y t2) (hx : evO e x = some (.raw (.int .u64 m))) (hy : evO e y = some (.raw (.int .u64 255))) (hd : o.dst = some dd) (hn : Nat.blt dd n = true)
    (hj : ∀ c : Int, 0 ≤ c ∧ c ≤ 255 → J d C n l os Q ((dd, .raw (.int .u64 c)) :: e) h) : J d C n l (o :: os) Q e h := by
  obtain ⟨c, hc, hq⟩ := u64and_quiet (C := C) ho hx hy
  exact j_quiet hw (fun _ => hq _) hd hn (hj c hc)
theorem j_u2i {s t sz sz2 dd : Nat} {x : Operand} {m : Int} (hw : wantE l e o = some true) (ho : o.op = .convert s t x) (hs : C.ty s = some ⟨sz, .ik .u64⟩) (ht : C.ty t = some ⟨sz2, .ik .i64⟩) (hx : evO e x = some (.raw (.int .u64 m))) (hm : 0 ≤ m ∧ m ≤ 255) (hd : o.dst = some dd) (hn : Nat.blt dd n = true)
    (hj : J d C n l os Q ((dd, .int m) :: e) h) : J d C n l (o :: os) Q e h := j_quiet hw (fun _ => u2i_quiet ho hs ht hx hm) hd hn hj
end
end Go.AI

/-
  A statement of open order whose writing operations come in any order: the walk over all that is done. No condition.
-/
namespace Go.AI
open Go.RowKit

section
variable {C : Cx} {n : Nat} {l : List Oper} {Q : Exit → Env → Heap → Prop} {e e' : Env} {h h' : Heap} {o : Oper}
/-- 'box': a new variable with a content, of the call's own. -/
theorem boxM_step {T : Nat} {x : Operand} {v : A} {cs : List A} (ho : o.op = .box T x) (hx : evO e x = some v) (hc : cellsA v = some cs) : MStep C.P o e h fun u h' => ∃ b, u = .op (some b) 0 ∧ h' = ⟨some b, T, cs.length, cs⟩ :: h := by
  intro a w hs
  have hops := hs.ops
  rw [ho] at hops
  have r := hops x (by simp [Op.operands]) _ hx
  obtain ⟨vs, e1, rl⟩ := cellsA_rel hc r
  have hrun : (execOp a.eval o).run C.P w = .ok (.value (.pointer (some ⟨w.heap.size, 0, none⟩))) (w.alloc (.cells vs.toArray T)) := by
    simp [execOp, ho, Instr.box, newVar, newRow, e1]
  unfold Yields
  rw [hrun]
  exact ⟨_, _, ⟨w.heap.size, rfl, rfl⟩, chg_new hs.heap (vs := vs) (rest := []) (Ext.alloc w _) (by rw [heap_new]; simp) rl (by rw [List.append_nil]; exact rl.1.symm), .op (some w.heap.size) 0⟩
theorem j_boxM {os : List Oper} {T dd : Nat} {x : Operand} {v : A} {cs : List A} (hw : wantE l e o = some true) (ho : o.op = .box T x) (hx : evO e x = some v) (hc : cellsA v = some cs) (hd : o.dst = some dd) (hn : Nat.blt dd n = true)
    (hj : ∀ b, J false C n l os Q ((dd, .op (some b) 0) :: e) (⟨some b, T, cs.length, cs⟩ :: h)) : J false C n l (o :: os) Q e h :=
  j_mut hw (boxM_step ho hx hc) (by rw [hd]; exact hn) fun v h' ⟨b, h1, h2⟩ => by rw [hd, h1, h2]; exact hj b
end
end Go.AI
