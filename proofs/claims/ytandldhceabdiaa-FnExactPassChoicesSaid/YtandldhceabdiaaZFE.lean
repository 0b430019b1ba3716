/-
  The walk of a function that defers a call. No condition.
-/
import Derived.Test.YtandldhceabdiaaZEnd
import Derived.Defers
import Derived.Test.YtandldhceabdiaaZE5
namespace Go.AI
open Go.RowKit

def Cx.withD (C : Cx) (D : List Deferred) : Cx := { C with D := D }
def upD (C : Cx) (n : Nat) (Q : List Deferred → Exit → Env → Heap → Prop) : Exit → Act → World → Prop := fun x a w => ∃ D e h, Conc (C.withD D) n e h a w ∧ Q D x e h
/-- .. calls are deferred while it runs. -/
def RunD (C : Cx) (n : Nat) (c : Code) (Q : List Deferred → Exit → Env → Heap → Prop) (D : List Deferred) (e : Env) (h : Heap) : Prop := ∀ a w, Conc (C.withD D) n e h a w → c.wp C.P (upD C n Q) a w
def seqD (C : Cx) (n : Nat) (y : Code) (Q : List Deferred → Exit → Env → Heap → Prop) (D : List Deferred) : Exit → Env → Heap → Prop
  | .normal, e, h => RunD C n y Q D e h
  | x, e, h => Q D x e h
section
variable {C : Cx} {n : Nat} {Q : List Deferred → Exit → Env → Heap → Prop} {D : List Deferred} {e : Env} {h : Heap}
theorem runD_seq {x y : Code} (hr : RunD C n x (seqD C n y Q) D e h) : RunD C n (.seq x y) Q D e h := fun a w hc => by
  refine wp_seq (wp_mono (hr a w hc) fun ex a w hq => ?_)
  obtain ⟨D', e', h', hc', hq'⟩ := hq
  cases ex <;> first | exact ⟨D', e', h', hc', hq'⟩ | exact hq' a w hc'
theorem runD_run {c : Code} (hr : Run (C.withD D) n c (Q D) e h) : RunD C n c Q D e h := fun a w hc => by
  unfold Run at hr
  exact wp_mono (hr a w hc) fun ex a w ⟨e', h', q1, q2⟩ => ⟨D, e', h', q1, q2⟩
theorem seqD_normal {y : Code} (hr : RunD C n y Q D e h) : seqD C n y Q D .normal e h := hr
theorem seqD_ret {y : Code} (hr : Q D .ret e h) : seqD C n y Q D .ret e h := hr
/-- A pointer into memory of the call's own as a value. -/
def opV : A → Value
  | .op b off => .pointer (b.map fun b => ⟨b, off, none⟩)
  | _ => undef
def isOp : A → Bool
  | .op _ _ => true
  | _ => false
theorem relL_op {S : Nat → Prop} {w : World} : ∀ {cs : List A} {vs : List Value}, cs.all isOp = true → RelL S w cs vs → vs = cs.map opV
  | [], vs, _, r => List.eq_nil_of_length_eq_zero r.1
  | c :: cs, vs, h, r => by
    obtain ⟨v, us, rfl, r1, r2⟩ := r.uncons
    simp only [List.all_cons, Bool.and_eq_true] at h
    rw [relL_op h.2 r2, List.map_cons]
    cases c <;> first | (exact absurd h.1 Bool.false_ne_true) | (rw [r1.op_inv]; rfl)
theorem opL_rel (S : Nat → Prop) (w : World) : ∀ {cs : List A}, cs.all isOp = true → RelL S w cs (cs.map opV)
  | [], _ => RelL.nil
  | c :: cs, h => by
    simp only [List.all_cons, Bool.and_eq_true] at h
    refine RelL.cons ?_ (opL_rel S w h.2)
    cases c <;> first | (exact absurd h.1 Bool.false_ne_true) | exact .op _ _
/-- The deferred call of a closure without arguments. -/
def dfr (g : FuncId) (caps : List A) : Deferred := { target := .fn (.func g) (caps.map opV).toArray, args := #[] }

theorem runD_defer {id : Nat} {o1 o2 : Oper} {v : A} {dd : Nat} {x : Operand} {g : FuncId} {caps : List A} (hw1 : wantE [o1, o2] e o1 = some true) (hv : opVal C.ty e o1.op = some v) (hd : o1.dst = some dd) (hn : Nat.blt dd n = true)
    (hw2 : wantE [o1, o2] ((dd, v) :: e) o2 = some true) (ho : o2.op = .defer ⟨.value x, #[], #[]⟩) (hx : evO ((dd, v) :: e) x = some (.fn g caps)) (hd2 : o2.dst = none) (hcap : caps.all isOp = true)
    (hq : Q (dfr g caps :: D) .normal ((dd, v) :: e) h) : RunD C n (.region id [o1, o2].toArray false) Q D e h := fun a w hc => by
  refine wp_region_lit ?_
  have h1 := hc.want hw1
  unfold wpList
  rw [if_pos h1]
  refine .inl ((opVal_quiet (h := h) (C.withD D).ok hv a w (hc.sit o1)).wp fun u w' hR => ?_)
  have hc2 : Conc (C.withD D) n ((dd, v) :: e) h (a.put o1.dst u) w' := by
    have := hc.put hR.1 (d := some dd) hn hR.2
    rw [hd]; exact this
  have h2 := hc2.want hw2
  unfold wpList
  rw [if_pos h2]
  refine .inl ?_
  obtain ⟨us, e1, ru⟩ := (hc2.env.ev hx).fn_inv
  have eu := relL_op hcap ru
  subst eu
  have ex : (execOp (a.put o1.dst u).eval o2).run C.P w' = .ok (.defer (dfr g caps)) w' := by
    simp only [execOp, ho, resolve, e1, Deferred.ofValue]
    simp [dfr]
  unfold Oper.wp
  rw [ex, Oper.upon_defer, hd2]
  change upD C n Q .normal { (a.put o1.dst u) with defers := dfr g caps :: (a.put o1.dst u).defers } w'
  refine ⟨dfr g caps :: D, _, _, ⟨?_, hc2.size, hc2.env, hc2.heap, hc2.ext, hc2.own⟩, hq⟩
  change dfr g caps :: (a.put o1.dst u).defers = dfr g caps :: D
  have := hc2.defers
  rw [this]; rfl
end

/-- What a deferred call does. -/
def DoesD (P : Program) (f : FuncId) (as : List A) (h : Heap) (R : Heap → Prop) : Prop :=
  Callable P f ∧ ∀ (F : Heap) (w : World) (vs : List Value), RelL (Im w (h ++ F)) w as vs → HeapOk (h ++ F) w →
    CallsD P f vs.toArray .returning w fun e u' w' => u' = .returning ∧ ∃ u h', e = .returned u ∧ R h' ∧ Chg (h ++ F) (h' ++ F) w w'
theorem fn_of_runDD {P : Program} {ty : Nat → Option TI} (hty : TyOk P ty) {zt : Nat → Option (List ZK × Nat)} (hzt : ZtOk P zt) (hm : P.follows .mixedOrders = true) {f : FuncId} {fn : Func} {c : Code} {n : Nat} {as : List A} {h : Heap} {R : Heap → Prop}
    (hf : P.funcs[f]? = some fn) (hb : fn.body = some c) (hnm : (fn.name == "runtime.NumGoroutine") = false) (hn : fn.ntmps = n)
    (hr : ∀ (w0 : World) (F : Heap), Run ⟨P, ty, hty, zt, hzt, hm, w0, keys (h ++ F), []⟩ n c (endD ty fn.results (fun _ h' => R h') F) (enumE 0 as) (h ++ F)) : DoesD P f as h R := by
  refine ⟨⟨fn, hf, hnm, by simp [hb]⟩, fun F w vs hrel hh => ?_⟩
  refine callsD_of_wp (R := fun e w' => ∃ u h', e = .returned u ∧ R h' ∧ Chg (h ++ F) (h' ++ F) w w') hf hb ?_
  rw [hn]
  have hr2 := hr w F
  unfold Run at hr2
  refine wp_mono (hr2 _ w (conc_start (C := ⟨P, ty, hty, zt, hzt, hm, w, keys (h ++ F), []⟩) hrel hh rfl rfl)) fun x a' w' hq => ?_
  obtain ⟨e'', h'', hc'', hq⟩ := hq
  unfold endD at hq
  obtain ⟨hx, e', h1, hview, vs', hres, v, hout, hR⟩ := hq
  have hc := hview _ _ _ _ hc''
  obtain ⟨u, hrun, hrel'⟩ := run_results (P := P) hty hc hres
  have hext : Ext (keys (h ++ F)) w w' := hc.ext
  have hchg : Chg (h ++ F) (h1 ++ F) w w' := ⟨hext.os, hext.tape, hext.output, hext.size, hext.block, hc.own, hc.heap⟩
  rcases hx with rfl | rfl
  · exact ⟨hc.defers, _, hrun, _, h1, rfl, hR, hchg⟩
  · exact ⟨hc.defers, _, hrun, _, h1, rfl, hR, hchg⟩

/-- The end of a call by which one call may have been deferred. -/
def endX (P : Program) (ty : Nat → Option TI) (rs : Array ResultVar) (R : A → Heap → Prop) (F : Heap) : List Deferred → Exit → Env → Heap → Prop := fun D x e h =>
  (x = .ret ∨ x = .normal) ∧ ((D = [] ∧ endD ty rs R F x e h) ∨ ∃ g caps, D = [dfr g caps] ∧ caps.all isOp = true ∧ ∃ hd Rd e1 h1, DoesD P g caps hd Rd ∧ View e h e1 (hd ++ h1) ∧ ∀ hd', Rd hd' → endD ty rs R F x e1 (hd' ++ h1))
theorem invoke_fn {P : Program} {f : FuncId} (hf : Callable P f) (us : List Value) (w : World) : (invoke (.fn (.func f) us.toArray) #[]).run P w = .ok (.enter f us.toArray) w := by
  obtain ⟨fn, h1, h2, h3⟩ := hf
  simp only [invoke, callFunc, Sem.run_bind, Sem.run_pure, Result.andThen_ok, run_program, h1, h2, h3, Bool.false_eq_true, if_false]
  simp
theorem fn_of_runX {P : Program} {ty : Nat → Option TI} (hty : TyOk P ty) {zt : Nat → Option (List ZK × Nat)} (hzt : ZtOk P zt) (hm : P.follows .mixedOrders = true) {f : FuncId} {fn : Func} {c : Code} {n : Nat} {as : List A} {h : Heap} {R : A → Heap → Prop}
    (hf : P.funcs[f]? = some fn) (hb : fn.body = some c) (hnm : (fn.name == "runtime.NumGoroutine") = false) (hn : fn.ntmps = n)
    (hr : ∀ (w0 : World) (F : Heap), RunD ⟨P, ty, hty, zt, hzt, hm, w0, keys (h ++ F), []⟩ n c (endX P ty fn.results R F) [] (enumE 0 as) (h ++ F)) : Does P f as h R := by
  refine ⟨⟨fn, hf, hnm, by simp [hb]⟩, fun F w vs hrel hh => ?_⟩
  refine calls_of_wp_defers hf hb ?_
  rw [hn]
  refine wp_mono (hr w F _ w (conc_start (C := ⟨P, ty, hty, zt, hzt, hm, w, keys (h ++ F), []⟩) hrel hh rfl rfl)) fun x a' w' hq => ?_
  obtain ⟨D, e, h2, hc, hx, hq⟩ := hq
  have fin : ∀ {w2 : World} {e2 : Env} {h2 : Heap} {x : Exit}, Conc (Cx.withD ⟨P, ty, hty, zt, hzt, hm, w, keys (h ++ F), []⟩ D) n e2 h2 a' w2 → endD ty fn.results R F x e2 h2 →
      ∃ v, (results fn a'.tmps).run P w2 = .ok v w2 ∧ ∃ u v' h', Ending.returned v = .returned u ∧ R v' h' ∧ Chg (h ++ F) (h' ++ F) w w2 ∧ Rel (Im w2 (h' ++ F)) w2 v' u := by
    intro w2 e2 h2 x hc2 hq2
    unfold endD at hq2
    obtain ⟨hx, e', h1, hview, vs', hres, v, hout, hR⟩ := hq2
    have hc3 := hview _ _ _ _ hc2
    obtain ⟨u, hrun, hrel'⟩ := run_results (P := P) hty hc3 hres
    have hext : Ext (keys (h ++ F)) w w2 := hc3.ext
    exact ⟨u, hrun, u, v, h1, rfl, hR, ⟨hext.os, hext.tape, hext.output, hext.size, hext.block, hc3.own, hc3.heap⟩, hout _ _ _ hrel'⟩
  have key : Leaves P fn a'.tmps (fun e w' => ∃ u v h', e = .returned u ∧ R v h' ∧ Chg (h ++ F) (h' ++ F) w w' ∧ Rel (Im w' (h' ++ F)) w' v u) a'.defers .returning w' := by
    have hD : a'.defers = D := hc.defers
    rw [hD]
    rcases hq with ⟨rfl, hq⟩ | ⟨g, caps, rfl, hcap, hd, Rd, e1, h1, hDD, hview, hq⟩
    · exact fin hc hq
    · have hc1 := hview _ _ _ _ hc
      unfold dfr
      refine leaves_cons (by simp) (invoke_fn hDD.1 _ _) ((hDD.2 h1 w' _ (opL_rel _ _ hcap) hc1.heap).mono ?_)
      rintro en u' w2 ⟨rfl, u, hd', rfl, hR, hchg⟩
      have hc2 := hc1.putM (d := none) hchg rfl (.raw undef)
      exact fin hc2 (hq hd' hR)
  rcases hx with rfl | rfl
  · exact key
  · exact key
end Go.AI

/-
  Results in memory of the call's own, of which something is known, read as data that nobody writes any more. No condition.
-/
namespace Go.AI
open Go.RowKit
theorem FrzF.tup {h : Heap} {cs cs' : List A} (H : FrzLF h cs cs') : FrzF h (.tup cs) (.tup cs') := fun F w v ho r => by
  obtain ⟨vs, rfl, rl⟩ := r.tup_inv
  have q := H F w vs ho rl
  exact .tup _ _ q.1 q.2

section
variable {C : Cx} {n : Nat} {Q : Exit → Env → Heap → Prop} {e : Env} {h : Heap} {l os : List Oper} {o : Oper} {f : Fl} {fs : List Fl} {B : List (Nat × Blk)}
theorem MStep.frz {P : Program} {R : A → Heap → Prop} {v' : A} (hm : MStep P o e h fun v h' => ∃ h1, R v h1 ∧ h' = h1 ++ h) (hF : ∀ v h1, R v h1 → FrzF h1 v v') : MStep P o e h fun v h' => v = v' ∧ h' = h := fun a w hs => by
  have := hm a w hs
  unfold Yields at this ⊢
  generalize (execOp a.eval o).run P w = r at this ⊢
  have conv : ∀ u w', (∃ v h2, (∃ h1, R v h1 ∧ h2 = h1 ++ h) ∧ Chg h h2 w w' ∧ Rel (Im w' h2) w' v u) → ∃ v h1, (v = v' ∧ h1 = h) ∧ Chg h h1 w w' ∧ Rel (Im w' h1) w' v u := fun u w' ⟨v, h2, ⟨h1, q1, q2⟩, q3, q4⟩ => by
    subst q2
    exact ⟨v', h, ⟨rfl, rfl⟩, q3.drop (List.Perm.refl _) (List.sublist_append_right h1 h), hF v h1 q1 h w' u q3.heap q4⟩
  cases r with
  | ok nx w' =>
    cases nx <;> first | exact conv _ _ this | (exact this.elim) | (exact this.mono fun e w'' ⟨u, he, hR⟩ => ⟨u, he, conv _ _ hR⟩)
  | halt x w' => exact this.elim
end
end Go.AI
