/-
  Calls that read a table of the library's. No condition.
-/
import Derived.Test.YtdlhajkidekjaaaDoorZEnd
import Derived.Lib.LaidTab
import Derived.Lib.ItoaNum
namespace Go.AI
open Go.RowKit
/-- A call of f at the data as gives the datum v, where the table K stands. -/
def GivesT (P : Program) (K : Blk) (f : FuncId) (as : List A) (v : A) : Prop :=
  Callable P f ∧ ∀ (h : Heap), K ∈ h → ∀ (w : World) (vs : List Value), RelL (Im w h) w as vs → HeapOk h w →
    Calls P f vs.toArray w fun e w' => ∃ u, e = .returned u ∧ Chg h h w w' ∧ Rel (Im w' h) w' v u
theorem Gives.t {P : Program} {K : Blk} {f : FuncId} {as : List A} {v : A} (g : Gives P f as v) : GivesT P K f as v := ⟨g.1, fun h _ => g.2 h⟩
theorem fn_of_runT {P : Program} {K : Blk} {ty : Nat → Option TI} (hty : TyOk P ty) {zt : Nat → Option (List ZK × Nat)} (hzt : ZtOk P zt) (hm : P.follows .mixedOrders = true) {f : FuncId} {fn : Func} {c : Code} {n : Nat} {as : List A} {v : A}
    (hf : P.funcs[f]? = some fn) (hb : fn.body = some c) (hnm : (fn.name == "runtime.NumGoroutine") = false) (hn : fn.ntmps = n)
    (hr : ∀ (w0 : World) (h : Heap), K ∈ h → Run ⟨P, ty, hty, zt, hzt, hm, w0, keys h⟩ n c (endQ ty fn.results v h) (enumE 0 as) h) : GivesT P K f as v := by
  refine ⟨⟨fn, hf, hnm, by simp [hb]⟩, fun h hK w vs hrel hh => ?_⟩
  refine calls_of_wp hf hb ?_
  rw [hn]
  have hr2 := hr w h hK
  unfold Run at hr2
  refine wp_mono (hr2 _ w (conc_start (C := ⟨P, ty, hty, zt, hzt, hm, w, keys h⟩) hrel hh rfl)) fun x a' w' hq => ?_
  obtain ⟨e'', h'', hc'', hq⟩ := hq
  unfold endQ at hq
  obtain ⟨hx, e', h', hview, hsub, vs', hres, hout⟩ := hq
  have hc := hview _ _ _ _ hc''
  obtain ⟨u, hrun, hrel'⟩ := run_results (P := P) hty hc hres
  have hrel' := hout _ _ _ (hrel'.heap hsub)
  have hext : Ext (keys h) w w' := hc.ext
  have hchg : Chg h h w w' := ⟨hext.os, hext.tape, hext.output, hext.size, hext.block, fun _ hb => .inl hb, hc.heap.sub hsub⟩
  rcases hx with rfl | rfl
  · exact ⟨hc.defers, _, hrun, _, rfl, hchg, hrel'⟩
  · exact ⟨hc.defers, _, hrun, _, rfl, hchg, hrel'⟩
theorem call_quietT {P : Program} {K : Blk} {f : FuncId} {o : Oper} {x : Operand} {args : Array Operand} {ts : Array TypeId} {e : Env} {h : Heap} {caps as : List A} {v : A} (hK : K ∈ h)
    (ho : o.op = .call ⟨.value x, args, ts⟩) (hx : evO e x = some (.fn f caps)) (ha : mapEv e args.toList = some as) {all : List A} (hf : GivesT P K f all v) (hle : LeL (as ++ caps) all) : Quiet P o e h v := by
  intro a w hs
  have hops := hs.ops
  rw [ho] at hops
  obtain ⟨us, e1, ru⟩ := (hops x (by simp [Op.operands, Call.operands]) _ hx).fn_inv
  have ra := RelL.mapEv (a := a) (w := w) (h := h) (fun y hy => hops y (by simp [Op.operands, Call.operands, Array.mem_toList_iff.1 hy])) ha
  unfold Yields
  rw [exec_call hf.1 ho e1]
  exact (hf.2 h hK w _ (hle.rel (ra.append ru)) hs.heap).mono fun e w' ⟨u, e1, e2, e3⟩ => ⟨u, e1, e2, e3⟩
section
variable {C : Cx} {n : Nat} {Q : Exit → Env → Heap → Prop} {e : Env} {h : Heap} {d : Bool} {l os : List Oper} {o : Oper} {f : Fl} {fs : List Fl} {B : List (Nat × Blk)}
theorem j_b2s1 {s t E sz sz2 sz3 z dd : Nat} {x : Operand} {c : UInt8} (hw : wantE l e o = some true) (ho : o.op = .convert s t x) (hs : C.ty s = some ⟨sz, .slice E z⟩) (he : C.ty E = some ⟨sz3, .ik .u8⟩) (ht : C.ty t = some ⟨sz2, .str⟩) (hx : evO e x = some (.sl [[.u8 c]])) (hd : o.dst = some dd) (hn : Nat.blt dd n = true)
    (hj : J d C n l os Q ((dd, .str [c]) :: e) h) : J d C n l (o :: os) Q e h := j_b2s (cs := [c]) hw ho hs he ht hx hd hn hj
theorem jcT {K : Blk} (hK : K ∈ h) {g : FuncId} {as all : List A} {v : A} {dd : Nat} (hf : GivesT C.P K g all v) (hle : LeL as all) (hd : o.dst = some dd) (hn : Nat.blt dd n = true) (hj : J d C n l os Q ((dd, v) :: e) h) : JC g as d C n l o os Q e h := by
  unfold JC
  intro hca
  unfold CallAt at hca
  obtain ⟨x, args, ts, caps, as0, hw, ho, hx, ha, rfl⟩ := hca
  exact j_at hw (call_quietT hK ho hx ha hf hle) hd hn hj
end
/-- The table of powers of ten, at g. -/
def tabK (g : Nat) : Blk := ⟨none, 0, g + 1, []⟩
theorem tab_is {P : Program} {h : Heap} {w : World} {g : Nat} {name : String} (hg : P.globalNamed name = some g) (hK : tabK g ∈ h) (hh : HeapOk h w) : Lib.TabIs P w name .u64 Lib.pow10Tab := by
  have := hh.blk _ hK
  unfold BlkOk tabK at this
  obtain ⟨_, hr⟩ := this
  rcases hr with hr | ⟨g', e, _, ty, z, q⟩
  · simp at hr
  · have e2 : g + 1 = g' + 1 := e
    obtain rfl : g' = g := by omega
    unfold Lib.TabIs World.var?
    rw [hg]
    simp only [Option.bind_some, q]
theorem tab_heap {P : Program} {w : World} {g : Nat} {name : String} (hg : P.globalNamed name = some g) (ht : Lib.TabIs P w name .u64 Lib.pow10Tab) : HeapOk [tabK g] w := by
  refine ⟨by simp [keys, tabK], fun k hk => ?_⟩
  rw [List.mem_singleton] at hk
  subst hk
  unfold Lib.TabIs World.var? at ht
  rw [hg] at ht
  simp only [Option.bind_some] at ht
  refine ⟨rfl, .inr ⟨g, rfl, ?_, ?_⟩⟩
  · refine ⟨?_, by simp [keys, tabK]⟩
    cases hb : w.heap[g]? with
    | none => rw [hb] at ht; cases ht
    | some o => exact (Array.getElem?_eq_some_iff.1 hb).1
  · cases hb : w.heap[g]? with
    | none => rw [hb] at ht; cases ht
    | some o =>
      rw [hb] at ht
      cases o <;> simp at ht
      subst ht
      exact ⟨_, _, rfl⟩
theorem im_tab {w : World} {g : Nat} {b : Nat} : Im w [] b → Im w [tabK g] b := fun q => ⟨q.1, by simp [keys, tabK]⟩
theorem Chg.ofBelow {h : Heap} {w w' : World} (H : HeapOk h w) (b : Below w.heap.size w w') : Chg h h w w' := Chg.ofExt H ⟨b.os, b.tape, b.output, b.size, fun k hk _ => b.block k hk⟩
theorem RelL.tab {w : World} {g : Nat} {as : List A} {vs : List Value} (r : RelL (Im w []) w as vs) : RelL (Im w [tabK g]) w as vs := r.stab fun b q => ⟨im_tab q, rfl⟩
theorem chg_below {w w' : World} {g : Nat} (x : Chg [tabK g] [tabK g] w w') : Below w.heap.size w w' := ⟨x.os, x.tape, x.output, x.size, fun k hk => x.block k hk (by simp [keys, tabK])⟩
end Go.AI
