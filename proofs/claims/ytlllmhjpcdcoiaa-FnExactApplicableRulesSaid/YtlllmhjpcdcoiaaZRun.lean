/-
  The rules of the walk over plain data: a body, its statements, calls, loops, the way in and the way out.
-/
import Derived.Test.YtlllmhjpcdcoiaaZOpn
namespace Go.AI
open Go.RowKit

/-! ### Contracts -/
def Callable (P : Program) (f : FuncId) : Prop := ∃ fn, P.funcs[f]? = some fn ∧ (fn.name == "runtime.NumGoroutine") = false ∧ fn.body.isNone = false

/-- A call of f at the data as hands back the datum v and leaves the memory of the caller's own as it is told. -/
def Gives (P : Program) (f : FuncId) (as : List A) (v : A) : Prop :=
  Callable P f ∧ ∀ (h : Heap) (w : World) (vs : List Value), RelL (Im w h) w as vs → HeapOk h w →
    Calls P f vs.toArray w fun e w' => ∃ u, e = .returned u ∧ Chg h h w w' ∧ Rel (Im w' h) w' v u
/-- A call of f at the data as and the memory h hands back a datum and leaves memory that are one of R; whatever other memory there is stays as it is told. -/
def Does (P : Program) (f : FuncId) (as : List A) (h : Heap) (R : A → Heap → Prop) : Prop :=
  Callable P f ∧ ∀ (F : Heap) (w : World) (vs : List Value), RelL (Im w (h ++ F)) w as vs → HeapOk (h ++ F) w →
    Calls P f vs.toArray w fun e w' => ∃ u v h', e = .returned u ∧ R v h' ∧ Chg (h ++ F) (h' ++ F) w w' ∧ Rel (Im w' (h' ++ F)) w' v u

/-- Told so, told otherwise too. -/
def Le (a b : A) : Prop := ∀ S w v, Rel S w a v → Rel S w b v
def LeL : List A → List A → Prop
  | [], [] => True
  | a :: as, b :: bs => Le a b ∧ LeL as bs
  | _, _ => False
theorem Le.refl (a : A) : Le a a := fun _ _ _ r => r
theorem Le.nilb (b : Option Nat) (cap : Nat) : Le (.os b 0 cap) (.sl []) := fun S w v r => by obtain ⟨a, rfl, _⟩ := r.os_len; exact .nil _ _
theorem Le.nil (cap : Nat) : Le (.os none 0 cap) (.sl []) := Le.nilb none cap
theorem LeL.refl : ∀ as : List A, LeL as as
  | [] => trivial
  | _ :: as => ⟨Le.refl _, LeL.refl as⟩
theorem LeL.nil : LeL [] [] := trivial
theorem LeL.cons {a b : A} {as bs : List A} (h : Le a b) (t : LeL as bs) : LeL (a :: as) (b :: bs) := ⟨h, t⟩
theorem LeL.rel {S : Nat → Prop} {w : World} : ∀ {as bs : List A} {vs : List Value}, LeL as bs → RelL S w as vs → RelL S w bs vs
  | [], [], _, _, r => r
  | a :: as, b :: bs, vs, ⟨h1, h2⟩, r => by
    obtain ⟨v, us, rfl, r1, r2⟩ := r.uncons
    exact RelL.cons (h1 _ _ _ r1) (LeL.rel h2 r2)
  | [], _ :: _, _, h, _ => h.elim
  | _ :: _, [], _, h, _ => h.elim
theorem Le.agg {as bs : List A} (h : LeL as bs) : Le (.agg as) (.agg bs) := fun S w v r => by
  obtain ⟨vs, rfl, rl⟩ := r.agg_inv
  have := h.rel rl
  exact .agg bs vs this.1 this.2
theorem Le.tup {as bs : List A} (h : LeL as bs) : Le (.tup as) (.tup bs) := fun S w v r => by
  obtain ⟨vs, rfl, rl⟩ := r.tup_inv
  have := h.rel rl
  exact .tup bs vs this.1 this.2
theorem LeL.append : ∀ {as bs cs ds : List A}, LeL as bs → LeL cs ds → LeL (as ++ cs) (bs ++ ds)
  | [], [], _, _, _, h => h
  | _ :: _, _ :: _, _, _, ⟨h1, h2⟩, h => ⟨h1, LeL.append h2 h⟩
  | [], _ :: _, _, _, h, _ => h.elim
  | _ :: _, [], _, _, h, _ => h.elim

theorem exec_call {P : Program} {f : FuncId} (hf : Callable P f) {o : Oper} {x : Operand} {args : Array Operand} {ts : Array TypeId} (ho : o.op = .call ⟨.value x, args, ts⟩) {a : Act} {us : List Value}
    (hx : a.eval x = .func (.func f) #[] us.toArray) (w : World) : (execOp a.eval o).run P w = .ok (.enter f ((args.toList.map a.eval) ++ us).toArray) w := by
  obtain ⟨fn, h1, h2, h3⟩ := hf
  have hm : args.map a.eval = (args.toList.map a.eval).toArray := by apply Array.ext'; simp
  simp only [execOp, ho, resolve, hx, Deferred.ofValue, hm]
  simp only [invoke, callFunc, Sem.run_bind, Sem.run_pure, Result.andThen_ok, run_program, h1, h2, h3, Bool.false_eq_true, if_false]
  simp

theorem call_quiet {P : Program} {f : FuncId} {o : Oper} {x : Operand} {args : Array Operand} {ts : Array TypeId} {e : Env} {h : Heap} {caps as : List A} {v : A}
    (ho : o.op = .call ⟨.value x, args, ts⟩) (hx : evO e x = some (.fn f caps)) (ha : mapEv e args.toList = some as) {all : List A} (hf : Gives P f all v) (hle : LeL (as ++ caps) all) : Quiet P o e h v := by
  intro a w hs
  have hops := hs.ops
  rw [ho] at hops
  obtain ⟨us, e1, ru⟩ := (hops x (by simp [Op.operands, Call.operands]) _ hx).fn_inv
  have ra := RelL.mapEv (a := a) (w := w) (h := h) (fun y hy => hops y (by simp [Op.operands, Call.operands, Array.mem_toList_iff.1 hy])) ha
  unfold Yields
  rw [exec_call hf.1 ho e1]
  exact (hf.2 h w _ (hle.rel (ra.append ru)) hs.heap).mono fun e w' ⟨u, e1, e2, e3⟩ => ⟨u, e1, e2, e3⟩

/-- .. a call that makes or writes memory: h of it is handed over (places i..), F is the rest. -/
theorem call_step {P : Program} {f : FuncId} {o : Oper} {x : Operand} {args : Array Operand} {ts : Array TypeId} {e : Env} {h F : Heap} {caps as all : List A} {R : A → Heap → Prop}
    (ho : o.op = .call ⟨.value x, args, ts⟩) (hx : evO e x = some (.fn f caps)) (ha : mapEv e args.toList = some as) (hf : Does P f all h R) (hle : LeL (as ++ caps) all) : MStep P o e (h ++ F) (fun v h' => ∃ h1, R v h1 ∧ h' = h1 ++ F) := by
  intro a w hs
  have hops := hs.ops
  rw [ho] at hops
  obtain ⟨us, e1, ru⟩ := (hops x (by simp [Op.operands, Call.operands]) _ hx).fn_inv
  have ra := RelL.mapEv (a := a) (w := w) (h := h ++ F) (fun y hy => hops y (by simp [Op.operands, Call.operands, Array.mem_toList_iff.1 hy])) ha
  unfold Yields
  rw [exec_call hf.1 ho e1]
  exact (hf.2 F w _ (hle.rel (ra.append ru)) hs.heap).mono fun e w' ⟨u, v, h', e1, e2, e3, e4⟩ => ⟨u, e1, v, _, ⟨h', e2, rfl⟩, e3, e4⟩

/-! ### The judgements -/
def up (C : Cx) (n : Nat) (Q : Exit → Env → Heap → Prop) : Exit → Act → World → Prop := fun x a w => ∃ e h, Conc C n e h a w ∧ Q x e h

def Run (C : Cx) (n : Nat) (c : Code) (Q : Exit → Env → Heap → Prop) (e : Env) (h : Heap) : Prop := ∀ a w, Conc C n e h a w → c.wp C.P (up C n Q) a w

/-- e tells no more than e'. -/
def Sub (e e' : Env) : Prop := ∀ t v, lk e t = some v → lk e' t = some v
theorem Sub.refl (e : Env) : Sub e e := fun _ _ h => h
theorem Sub.ev {e e' : Env} (H : Sub e e') {x : Operand} {v : A} (h : evO e x = some v) : evO e' x = some v := by cases x <;> first | exact H _ _ h | exact h
theorem Sub.put {e e' : Env} (H : Sub e e') (d : Option Nat) (v : A) : Sub (putE d v e) (putE d v e') := by
  intro t u ht
  by_cases hd : d = some t
  · subst hd; rw [lk_putE_same] at ht ⊢; exact ht
  · rw [lk_putE_ne _ _ hd] at ht ⊢; exact H t u ht
theorem Sub.want {e e' : Env} (H : Sub e e') {l : List Oper} {o : Oper} {b : Bool} (h : wantE l e o = some b) : wantE l e' o = some b := by
  unfold wantE at *
  split at h
  · exact h
  · split at h
    · cases h
    · rename_i d hd
      split at h
      · rename_i c hc; rw [H _ _ hc]; exact h
      · rename_i c hc; rw [H _ _ hc]; exact h
      · cases h
theorem Sub.quiet {P : Program} {e e' : Env} (H : Sub e e') {o : Oper} {h : Heap} {v : A} (q : Quiet P o e h v) : Quiet P o e' h v := fun a w hs => q a w ⟨fun x hx u hu => hs.ops x hx u (H.ev hu), hs.heap⟩
theorem Lex.mono {P : Program} {n : Nat} {l : List Oper} {h : Heap} {os : List Oper} {e e1 : Env} (L : Lex P n l h os e e1) : ∀ {e' : Env}, Sub e e' → ∃ e2, Lex P n l h os e' e2 ∧ Sub e1 e2 := by
  induction L with
  | nil e => exact fun hs => ⟨_, .nil _, hs⟩
  | run hw hq hd t ih => intro e' hs; obtain ⟨e2, h1, h2⟩ := ih (hs.put _ _); exact ⟨e2, .run (hs.want hw) (hs.quiet hq) hd h1, h2⟩
  | skip hw hd t ih => intro e' hs; obtain ⟨e2, h1, h2⟩ := ih (hs.put _ _); exact ⟨e2, .skip (hs.want hw) hd h1, h2⟩

/-- What is left of a statement. d: its order is open. -/
def J (d : Bool) (C : Cx) (n : Nat) (l os : List Oper) (Q : Exit → Env → Heap → Prop) (e : Env) (h : Heap) : Prop :=
  match d with
  | false => ∀ a w, Conc C n e h a w → wpList C.P l.toArray (up C n Q) os a w
  | true => ∃ e' e'', Lex C.P n l h os e e' ∧ Sub e'' e' ∧ Q .normal e'' h
def Al (l : List Oper) : List Fl → List Oper → Prop
  | [], [] => True
  | f :: fs, o :: os => l[f.i]? = some o ∧ Al l fs os
  | _, _ => False
/-- .. its order is open, and some of its operations write. -/
def JO (fs : List Fl) (B : List (Nat × Blk)) (C : Cx) (n : Nat) (l os : List Oper) (Q : Exit → Env → Heap → Prop) (e : Env) (h : Heap) : Prop := Al l fs os → Lx C n l Q fs B e h

section
variable {C : Cx} {n : Nat} {Q : Exit → Env → Heap → Prop} {e : Env} {h : Heap} {d : Bool} {l os : List Oper} {o : Oper} {f : Fl} {fs : List Fl} {B : List (Nat × Blk)}

theorem Conc.sit {a : Act} {w : World} (H : Conc C n e h a w) (o : Oper) : Sit e h o a w := ⟨fun _ _ _ hv => H.env.ev hv, H.heap⟩
theorem Conc.want {a : Act} {w : World} (H : Conc C n e h a w) {b : Bool} (hw : wantE l e o = some b) : Region.wanted o (yielded l.toArray a.tmps) = b :=
  want_of (fun _ _ dd _ _ v hv => H.env dd v hv) hw

theorem j_nil (hq : Q .normal e h) : J d C n l [] Q e h := by
  cases d with
  | false => exact fun a w hc => wpList_nil ⟨e, h, hc, hq⟩
  | true => exact ⟨e, e, .nil e, Sub.refl e, hq⟩
theorem j_nilO (hq : Q .normal e h) : JO [] B C n l [] Q e h := fun _ => .nil (fun _ _ hv => hv) hq

theorem j_skip (hw : wantE l e o = some false) (hd : dOk n o.dst = true) (hj : J d C n l os Q (putE o.dst (.raw undef) e) h) : J d C n l (o :: os) Q e h := by
  cases d with
  | false =>
    intro a w hc
    have := hc.want hw
    unfold wpList
    rw [if_neg (by rw [this]; simp)]
    exact hj _ _ (hc.put (Chg.refl hc.heap) hd (.raw _))
  | true =>
    obtain ⟨e', e'', h1, h2, h3⟩ := hj
    exact ⟨e', e'', .skip hw hd h1, h2, h3⟩
theorem j_skipO (hw : wantE l e o = some false) (hd : dOk n o.dst = true) (hj : JO fs B C n l os Q (putE o.dst (.raw undef) e) h) : JO (f :: fs) B C n l (o :: os) Q e h := fun ha => .skip ha.1 hw hd (hj ha.2)

/-- An operation that leaves this memory as it is told. -/
theorem j_at {v : A} {dd : Nat} (hw : wantE l e o = some true) (hq : Quiet C.P o e h v) (hd : o.dst = some dd) (hn : Nat.blt dd n = true) (hj : J d C n l os Q ((dd, v) :: e) h) : J d C n l (o :: os) Q e h := by
  have hdo : dOk n o.dst = true := by rw [hd]; exact hn
  have hj' : J d C n l os Q (putE o.dst v e) h := by rw [hd]; exact hj
  cases d with
  | false =>
    intro a w hc
    have := hc.want hw
    unfold wpList
    rw [if_pos this]
    exact .inl ((hq a w (hc.sit o)).wp fun u w' hR => hj' _ _ (hc.put hR.1 hdo hR.2))
  | true =>
    obtain ⟨e', e'', h1, h2, h3⟩ := hj'
    exact ⟨e', e'', .run hw hq hdo h1, h2, h3⟩
theorem j_atO {v : A} {dd : Nat} (ht : f.tight = true) (hw : wantE l e o = some true) (hq : Quiet C.P o e h v) (hd : o.dst = some dd) (hn : Nat.blt dd n = true) (hj : JO fs B C n l os Q ((dd, v) :: e) h) : JO (f :: fs) B C n l (o :: os) Q e h := fun ha =>
  .tight ht ha.1 hw (by rw [hd]; exact hn) hq (by rw [hd]; exact hj ha.2)
/-- An operation that leaves whatever memory as it is told. -/
theorem j_quiet {v : A} {dd : Nat} (hw : wantE l e o = some true) (hq : ∀ h', Quiet C.P o e h' v) (hd : o.dst = some dd) (hn : Nat.blt dd n = true) (hj : J d C n l os Q ((dd, v) :: e) h) : J d C n l (o :: os) Q e h := j_at hw (hq h) hd hn hj
theorem j_quietO {v : A} {dd : Nat} (hw : wantE l e o = some true) (hq : ∀ h', Quiet C.P o e h' v) (hd : o.dst = some dd) (hn : Nat.blt dd n = true) (hj : JO fs B C n l os Q ((dd, v) :: e) h) : JO (f :: fs) B C n l (o :: os) Q e h := fun ha =>
  .quiet ha.1 hw (by rw [hd]; exact hn) hq (by rw [hd]; exact hj ha.2)

/-- An operation that makes or writes memory. -/
theorem j_mut {R : A → Heap → Prop} (hw : wantE l e o = some true) (hm : MStep C.P o e h R) (hd : dOk n o.dst = true) (hj : ∀ v h', R v h' → J false C n l os Q (putE o.dst v e) h') : J false C n l (o :: os) Q e h := by
  intro a w hc
  have := hc.want hw
  unfold wpList
  rw [if_pos this]
  refine .inl ((hm a w (hc.sit o)).wp fun u w' ⟨v, h', h1, h2, h3⟩ => ?_)
  exact hj v h' h1 _ _ (hc.putM h2 hd h3)
theorem j_mutO {R : A → Heap → Prop} (hf : f.w = true) (hw : wantE l e o = some true) (hm : MStep C.P o e h R) (hB : ∀ v h', R v h' → ∀ k ∈ B, k.2 ∈ h') (hd : dOk n o.dst = true) (hj : ∀ v h', R v h' → JO fs B C n l os Q (putE o.dst v e) h') : JO (f :: fs) B C n l (o :: os) Q e h := fun ha =>
  .wr hf ha.1 hw hd hm (fun v h' hR k hk => .inl (hB v h' hR k hk)) fun v h' hR => hj v h' hR ha.2
/-- .. neither a sum nor a length (these have rules of their own). -/
noncomputable def opVal0 (ty : Nat → Option TI) (e : Env) : Op → Option A
  | .binOp .add t x y t' => match evO e x with
    | some (.int _) => none
    | some _ => opVal ty e (.binOp .add t x y t')
    | none => none
  | .binOp .sub t x y t' => match evO e x with
    | some (.int _) => none
    | some _ => opVal ty e (.binOp .sub t x y t')
    | none => none
  | .binOp .mul _ _ _ _ => none
  | .unOp .neg _ _ => none
  | .call ⟨.builtin .min, a, b⟩ => opVal ty e (.call ⟨.builtin .min, a, b⟩)
  | .call ⟨.builtin .max, a, b⟩ => opVal ty e (.call ⟨.builtin .max, a, b⟩)
  | .call _ => none
  | op => opVal ty e op
theorem opVal0_eq {ty : Nat → Option TI} {e : Env} {op : Op} {v : A} (h : opVal0 ty e op = some v) : opVal ty e op = some v := by
  unfold opVal0 at h
  split at h <;> first | (cases h; done) | exact h | (split at h <;> first | (cases h; done) | exact h)
/-- The everyday step: an operation without a side condition. -/
theorem j_op {v : A} {dd : Nat} (hw : wantE l e o = some true) (hv : opVal C.ty e o.op = some v) (hd : o.dst = some dd) (hn : Nat.blt dd n = true) (hj : J d C n l os Q ((dd, v) :: e) h) : J d C n l (o :: os) Q e h :=
  j_quiet hw (fun _ => opVal_quiet C.ok hv) hd hn hj
theorem j_op0 {v : A} {dd : Nat} (hw : wantE l e o = some true) (hv : opVal0 C.ty e o.op = some v) (hd : o.dst = some dd) (hn : Nat.blt dd n = true) (hj : J d C n l os Q ((dd, v) :: e) h) : J d C n l (o :: os) Q e h :=
  j_op hw (opVal0_eq hv) hd hn hj
/-- .. a sum that is in range. -/
theorem j_in {m : Int} {dd : Nat} (hw : wantE l e o = some true) (hv : opVal C.ty e o.op = some (.int (wrapI m))) (hm : -9223372036854775808 ≤ m ∧ m ≤ 9223372036854775807) (hd : o.dst = some dd) (hn : Nat.blt dd n = true)
    (hj : J d C n l os Q ((dd, .int m) :: e) h) : J d C n l (o :: os) Q e h := j_op hw hv hd hn (by rw [wrapI_of hm]; exact hj)
theorem j_off {dd : Nat} (hw : wantE l e o = some false) (hd : o.dst = some dd) (hn : Nat.blt dd n = true) (hj : J d C n l os Q ((dd, .raw undef) :: e) h) : J d C n l (o :: os) Q e h :=
  j_skip hw (by rw [hd]; exact hn) (by rw [hd]; exact hj)
theorem j_call {g : FuncId} {x : Operand} {args : Array Operand} {ts : Array TypeId} {caps as all : List A} {v : A} {dd : Nat}
    (hw : wantE l e o = some true) (ho : o.op = .call ⟨.value x, args, ts⟩) (hx : evO e x = some (.fn g caps)) (ha : mapEv e args.toList = some as) (hf : Gives C.P g all v) (hle : LeL (as ++ caps) all) (hd : o.dst = some dd) (hn : Nat.blt dd n = true)
    (hj : J d C n l os Q ((dd, v) :: e) h) : J d C n l (o :: os) Q e h := j_quiet hw (fun _ => call_quiet ho hx ha hf hle) hd hn hj
/-- The everyday step: an operation without a side condition. -/
theorem j_opO {v : A} {dd : Nat} (hw : wantE l e o = some true) (hv : opVal C.ty e o.op = some v) (hd : o.dst = some dd) (hn : Nat.blt dd n = true) (hj : JO fs B C n l os Q ((dd, v) :: e) h) : JO (f :: fs) B C n l (o :: os) Q e h :=
  j_quietO hw (fun _ => opVal_quiet C.ok hv) hd hn hj
theorem j_op0O {v : A} {dd : Nat} (hw : wantE l e o = some true) (hv : opVal0 C.ty e o.op = some v) (hd : o.dst = some dd) (hn : Nat.blt dd n = true) (hj : JO fs B C n l os Q ((dd, v) :: e) h) : JO (f :: fs) B C n l (o :: os) Q e h :=
  j_opO hw (opVal0_eq hv) hd hn hj
theorem j_offO {dd : Nat} (hw : wantE l e o = some false) (hd : o.dst = some dd) (hn : Nat.blt dd n = true) (hj : JO fs B C n l os Q ((dd, .raw undef) :: e) h) : JO (f :: fs) B C n l (o :: os) Q e h :=
  j_skipO hw (by rw [hd]; exact hn) (by rw [hd]; exact hj)
theorem j_callO {g : FuncId} {x : Operand} {args : Array Operand} {ts : Array TypeId} {caps as all : List A} {v : A} {dd : Nat}
    (hw : wantE l e o = some true) (ho : o.op = .call ⟨.value x, args, ts⟩) (hx : evO e x = some (.fn g caps)) (ha : mapEv e args.toList = some as) (hf : Gives C.P g all v) (hle : LeL (as ++ caps) all) (hd : o.dst = some dd) (hn : Nat.blt dd n = true)
    (hj : JO fs B C n l os Q ((dd, v) :: e) h) : JO (f :: fs) B C n l (o :: os) Q e h := j_quietO hw (fun _ => call_quiet ho hx ha hf hle) hd hn hj
theorem J.sub {e' : Env} (hs : Sub e' e) (hj : J d C n l os Q e' h) : J d C n l os Q e h := by
  cases d with
  | false => exact fun a w hc => hj a w (hc.sub hs)
  | true =>
    obtain ⟨e1, e2, h1, h2, h3⟩ := hj
    obtain ⟨e3, h4, h5⟩ := h1.mono hs
    exact ⟨e3, e2, h4, fun t v hv => h5 t v (h2 t v hv), h3⟩
theorem MStep.sub {P : Program} {e e' : Env} (H : Sub e e') {o : Oper} {h : Heap} {R : A → Heap → Prop} (q : MStep P o e h R) : MStep P o e' h R := fun a w hs => q a w ⟨fun x hx u hu => hs.ops x hx u (H.ev hu), hs.heap⟩
theorem Lx.mono {fs : List Fl} {B : List (Nat × Blk)} {e : Env} {h : Heap} (L : Lx C n l Q fs B e h) : ∀ {e' : Env}, Sub e e' → Lx C n l Q fs B e' h := by
  induction L with
  | nil hs hq => exact fun s => .nil (fun t v hv => s t v (hs t v hv)) hq
  | quiet ho hw hd hq _ ih => exact fun s => .quiet ho (s.want hw) hd (fun h' => s.quiet (hq h')) (ih (s.put _ _))
  | tight hf ho hw hd hq _ ih => exact fun s => .tight hf ho (s.want hw) hd (s.quiet hq) (ih (s.put _ _))
  | stab k hk ho hw hd hq _ ih => exact fun s => .stab k hk ho (s.want hw) hd (fun h' hk' => s.quiet (hq h' hk')) (ih (s.put _ _))
  | skip ho hw hd _ ih => exact fun s => .skip ho (s.want hw) hd (ih (s.put _ _))
  | wr hf ho hw hd hm hB _ ih => exact fun s => .wr hf ho (s.want hw) hd (hm.sub s) hB fun v h' hR => ih v h' hR (s.put _ _)
  | wr2 hf hp hg ho hw hd hm hB _ ho2 hw2 hd2 hm2 hB2 _ ih ih2 => exact fun s => .wr2 hf hp hg ho (s.want hw) hd (hm.sub s) hB (fun v h' hR => ih v h' hR (s.put _ _)) ho2 (s.want hw2) hd2 (hm2.sub s) hB2 fun v h' hR => ih2 v h' hR (s.put _ _)
  | wrq hf hp hgm hgt hna ho hw hd hm hB _ ho2 hw2 hd2 hq2 _ ih ih2 => exact fun s => .wrq hf hp hgm hgt hna ho (s.want hw) hd (hm.sub s) hB (fun v h' hR => ih v h' hR (s.put _ _)) ho2 (s.want hw2) hd2 (fun h' => s.quiet (hq2 h')) (ih2 (s.put _ _))
theorem JO.sub {e' : Env} (hs : Sub e' e) (hj : JO fs B C n l os Q e' h) : JO fs B C n l os Q e h := fun ha => (hj ha).mono hs
theorem sub_known {g : Nat} {b c : Bool} (hb : lk e g = some (.raw (.bool b))) (hbc : b = c) : Sub ((g, .raw (.bool c)) :: e) e := by
  intro t v hv
  by_cases hgt : g = t
  · subst hgt; rw [lk_cons_eq] at hv; rw [← hv, ← hbc]; exact hb
  · rw [lk_cons_ne _ _ hgt] at hv; exact hv
/-- A guard that is not decided yet. -/
theorem j_branch {j g : Nat} {want b : Bool} (hg : o.guard = some (j, want)) (hgd : (l[j]?).bind (·.dst) = some g) (hb : lk e g = some (.raw (.bool b)))
    (hy : b = want → J d C n l (o :: os) Q ((g, .raw (.bool want)) :: e) h) (hno : b = !want → J d C n l (o :: os) Q ((g, .raw (.bool (!want))) :: e) h) : J d C n l (o :: os) Q e h := by
  by_cases hc : b = want
  · exact J.sub (sub_known hb hc) (hy hc)
  · have hc' : b = !want := by cases b <;> cases want <;> simp_all
    exact J.sub (sub_known hb hc') (hno hc')
theorem j_if {j g : Nat} {want : Bool} {p : Prop} (hg : o.guard = some (j, want)) (hgd : (l[j]?).bind (·.dst) = some g) (hb : lk e g = some (.raw (.bool (dec p))))
    (hy : p → J d C n l (o :: os) Q ((g, .raw (.bool true)) :: e) h) (hno : ¬p → J d C n l (o :: os) Q ((g, .raw (.bool false)) :: e) h) : J d C n l (o :: os) Q e h := by
  by_cases hp : p
  · exact J.sub (sub_known hb (dec_t hp)) (hy hp)
  · exact J.sub (sub_known hb (dec_f hp)) (hno hp)
theorem j_ifn {j g : Nat} {want : Bool} {p : Prop} (hg : o.guard = some (j, want)) (hgd : (l[j]?).bind (·.dst) = some g) (hb : lk e g = some (.raw (.bool (!dec p))))
    (hy : ¬p → J d C n l (o :: os) Q ((g, .raw (.bool true)) :: e) h) (hno : p → J d C n l (o :: os) Q ((g, .raw (.bool false)) :: e) h) : J d C n l (o :: os) Q e h := by
  by_cases hp : p
  · exact J.sub (sub_known hb (by rw [dec_t hp]; rfl)) (hno hp)
  · exact J.sub (sub_known hb (by rw [dec_f hp]; rfl)) (hy hp)
theorem j_ifO {j g : Nat} {want : Bool} {p : Prop} (hg : o.guard = some (j, want)) (hgd : (l[j]?).bind (·.dst) = some g) (hb : lk e g = some (.raw (.bool (dec p))))
    (hy : p → JO (f :: fs) B C n l (o :: os) Q ((g, .raw (.bool true)) :: e) h) (hno : ¬p → JO (f :: fs) B C n l (o :: os) Q ((g, .raw (.bool false)) :: e) h) : JO (f :: fs) B C n l (o :: os) Q e h := by
  by_cases hp : p
  · exact JO.sub (sub_known hb (dec_t hp)) (hy hp)
  · exact JO.sub (sub_known hb (dec_f hp)) (hno hp)
/-! ### Statements -/
theorem run_region {id : Nat} (hj : J false C n l l Q e h) : Run C n (.region id l.toArray false) Q e h := fun a w hc => wp_region_lit (hj a w hc)
theorem run_regionD {id : Nat} (hdet : detOk l = true) (hj : J true C n l l Q e h) : Run C n (.region id l.toArray true) Q e h := fun a w hc => by
  obtain ⟨e', e'', h1, h2, h3⟩ := hj
  exact draw_sound hdet h1 (fun a w hc' => ⟨e'', h, hc'.sub h2, h3⟩) hc

theorem run_regionO {id : Nat} (id' : Nat) (fl : List Fl) (hid : id = id') (ha : Al l fl os) (hok : openOk l fl = true) (hj : JO fl [] C n l os Q e h) : Run C n (.region id l.toArray true) Q e h := fun a w hc =>
  opn_sound hok (hj ha) (fun e' h' a w hc' hq => ⟨e', h', hc', hq⟩) hc

def seqQ (C : Cx) (n : Nat) (y : Code) (Q : Exit → Env → Heap → Prop) : Exit → Env → Heap → Prop
  | .normal, e, h => Run C n y Q e h
  | x, e, h => Q x e h
theorem run_seq {x y : Code} (hr : Run C n x (seqQ C n y Q) e h) : Run C n (.seq x y) Q e h := fun a w hc => by
  refine wp_seq (wp_mono (hr a w hc) fun ex a w hq => ?_)
  obtain ⟨e', h', hc', hq'⟩ := hq
  cases ex <;> first | exact ⟨e', h', hc', hq'⟩ | exact hq' a w hc'
theorem seqQ_normal {y : Code} (hr : Run C n y Q e h) : seqQ C n y Q .normal e h := hr
theorem seqQ_ret {y : Code} (hr : Q .ret e h) : seqQ C n y Q .ret e h := hr
theorem seqQ_exit {y : Code} {i : Nat} (hr : Q (.exit i) e h) : seqQ C n y Q (.exit i) e h := hr

def blockQ (i : Nat) (Q : Exit → Env → Heap → Prop) : Exit → Env → Heap → Prop
  | .exit j, e, h => if j = i then Q .normal e h else Q (.exit j) e h
  | x, e, h => Q x e h
theorem run_block {i : Nat} {x : Code} (hr : Run C n x (blockQ i Q) e h) : Run C n (.block i x) Q e h := fun a w hc => by
  refine wp_block (wp_mono (hr a w hc) fun ex a w hq => ?_)
  obtain ⟨e', h', hc', hq'⟩ := hq
  cases ex with
  | exit j =>
    simp only [Exit.inBlock]
    simp only [blockQ] at hq'
    split <;> rename_i hj
    · rw [if_pos hj] at hq'; exact ⟨e', h', hc', hq'⟩
    · rw [if_neg hj] at hq'; exact ⟨e', h', hc', hq'⟩
  | _ => exact ⟨e', h', hc', hq'⟩
theorem blockQ_normal {i : Nat} (hr : Q .normal e h) : blockQ i Q .normal e h := hr
theorem blockQ_ret {i : Nat} (hr : Q .ret e h) : blockQ i Q .ret e h := hr
theorem blockQ_eq {i : Nat} (hr : Q .normal e h) : blockQ i Q (.exit i) e h := by simp only [blockQ, if_true]; exact hr
theorem run_skip (hr : Q .normal e h) : Run C n .skip Q e h := fun _ _ hc => wp_skip ⟨e, h, hc, hr⟩
theorem run_exit {i : Nat} (hr : Q (.exit i) e h) : Run C n (.exit i) Q e h := fun _ _ hc => wp_exit ⟨e, h, hc, hr⟩
theorem run_ret (hr : Q .ret e h) : Run C n .ret Q e h := fun _ _ hc => wp_ret ⟨e, h, hc, hr⟩
theorem run_cond {c : Operand} {b : Bool} {x y : Code} (hc : evO e c = some (.raw (.bool b))) (ht : b = true → Run C n x Q e h) (hf : b = false → Run C n y Q e h) : Run C n (.cond c x y) Q e h := fun a w hcc => by
  have e1 := (hcc.env.ev hc).raw_inv
  cases b with
  | true => exact wp_cond_true e1 (ht rfl a w hcc)
  | false => exact wp_cond_false e1 (hf rfl a w hcc)
theorem run_cond_t {c : Operand} {x y : Code} (hc : evO e c = some (.raw (.bool true))) (ht : Run C n x Q e h) : Run C n (.cond c x y) Q e h := run_cond hc (fun _ => ht) (fun q => by cases q)
theorem run_cond_f {c : Operand} {x y : Code} (hc : evO e c = some (.raw (.bool false))) (ht : Run C n y Q e h) : Run C n (.cond c x y) Q e h := run_cond hc (fun q => by cases q) (fun _ => ht)

theorem run_condn {c : Operand} {b : Bool} {x y : Code} (hc : evO e c = some (.raw (.bool (!b)))) (ht : b = false → Run C n x Q e h) (hf : b = true → Run C n y Q e h) : Run C n (.cond c x y) Q e h :=
  run_cond hc (fun q => ht (by cases b <;> simp_all)) (fun q => hf (by cases b <;> simp_all))
theorem run_if {c : Operand} {p : Prop} {x y : Code} (hc : evO e c = some (.raw (.bool (dec p)))) (ht : p → Run C n x Q e h) (hf : ¬p → Run C n y Q e h) : Run C n (.cond c x y) Q e h :=
  run_cond hc (fun q => ht (dec_iff.1 q)) (fun q => hf (fun hp => by rw [dec_t hp] at q; cases q))
theorem run_ifn {c : Operand} {p : Prop} {x y : Code} (hc : evO e c = some (.raw (.bool (!dec p)))) (ht : ¬p → Run C n x Q e h) (hf : p → Run C n y Q e h) : Run C n (.cond c x y) Q e h :=
  run_cond hc (fun q => ht (fun hp => by rw [dec_t hp] at q; cases q)) (fun q => hf (dec_iff.1 (by simpa using q)))

theorem Run.post {c : Code} {Q' : Exit → Env → Heap → Prop} (hr : Run C n c Q' e h) (hq : ∀ x e h, Q' x e h → Q x e h) : Run C n c Q e h := fun a w hc =>
  wp_mono (hr a w hc) fun x a w ⟨e', h', hc', hq'⟩ => ⟨e', h', hc', hq _ _ _ hq'⟩

/-- What is asked of a frame: these slots hold these data. -/
def EnvLe (e : Env) : Env → Prop
  | [] => True
  | (t, v) :: r => lk e t = some v ∧ EnvLe e r
theorem EnvLe.sub {e : Env} : ∀ {r : Env}, EnvLe e r → ∀ t v, lk r t = some v → lk e t = some v
  | [], _, t, v, hv => by simp [lk] at hv
  | (k, u) :: r, ⟨h1, h2⟩, t, v, hv => by
    by_cases hk : k = t
    · subst hk; rw [lk_cons_eq] at hv; rw [← hv]; exact h1
    · rw [lk_cons_ne _ _ hk] at hv; exact EnvLe.sub h2 t v hv
/-- The same frame and world, told otherwise. -/
def View (e : Env) (h : Heap) (e' : Env) (h' : Heap) : Prop := ∀ C n a w, Conc C n e h a w → Conc C n e' h' a w
theorem View.refl (e : Env) (h : Heap) : View e h e h := fun _ _ _ _ hc => hc
theorem View.trans {e e' e'' : Env} {h h' h'' : Heap} (v : View e h e' h') (u : View e' h' e'' h'') : View e h e'' h'' := fun C n a w hc => u C n a w (v C n a w hc)

def loopQ {σ : Type} (I : σ → Env) (H : σ → Heap) (G : σ → Prop) (μ : σ → Nat) (s : σ) (Q : Exit → Env → Heap → Prop) : Exit → Env → Heap → Prop
  | .normal, e, h => ∃ s' e', G s' ∧ μ s' < μ s ∧ View e h e' (H s') ∧ EnvLe e' (I s')
  | x, e, h => Q x e h

/-- A loop: I what the slots hold in state s, H the memory of the call's own, G what is known of s, μ what each round lowers. -/
theorem run_loop {σ : Type} (I : σ → Env) (H : σ → Heap) (G : σ → Prop) (μ : σ → Nat) (s0 : σ) {c : Code} (h0 : EnvLe e (I s0)) (hh : h = H s0) (hG : G s0)
    (round : ∀ s, G s → Run C n c (loopQ I H G μ s Q) (I s) (H s)) : Run C n (.loop c) Q e h := fun a w hc => by
  have hc0 : Conc C n (I s0) (H s0) a w := hh ▸ hc.sub h0.sub
  clear hc h0 hh
  intro b k cs
  have key : ∀ m s a w, μ s = m → G s → Conc C n (I s) (H s) a w →
      ∃ x a' w', up C n Q x a' w' ∧ Arrives C.P (lone (b.at a (.code c :: .inLoop c :: k)) cs w) b k cs x a' w' := by
    intro m
    induction m using Nat.strongRecOn with
    | _ m ih =>
      intro s a w hm hGs hcs
      obtain ⟨x, a₁, w₁, hq, harr⟩ := round s hGs a w hcs b (.inLoop c :: k) cs
      obtain ⟨e', h', hc', hq'⟩ := hq
      cases x with
      | normal =>
        obtain ⟨s', e'', g1, g2, g3, g4⟩ := hq'
        obtain ⟨e₂, a₂, w₂, hq₂, harr₂⟩ := ih (μ s') (hm ▸ g2) s' a₁ w₁ rfl g1 ((g3 _ _ _ _ hc').sub g4.sub)
        exact ⟨e₂, a₂, w₂, hq₂, .of_steps (Steps.trans harr (.one step_inLoop)) harr₂⟩
      | exit id => exact ⟨_, a₁, w₁, ⟨e', h', hc', hq'⟩, .pass (x := .inLoop c) rfl (fun _ _ => .inl (by simp)) harr⟩
      | goto l => exact ⟨_, a₁, w₁, ⟨e', h', hc', hq'⟩, .pass (x := .inLoop c) rfl (fun _ _ => .inl (by simp)) harr⟩
      | ret => exact ⟨_, a₁, w₁, ⟨e', h', hc', hq'⟩, .pass (x := .inLoop c) rfl (fun _ _ => .inl (by simp)) harr⟩
      | panic ch => exact ⟨_, a₁, w₁, ⟨e', h', hc', hq'⟩, .pass (x := .inLoop c) rfl (fun _ _ => .inl (by simp)) harr⟩
      | outgrown => exact ⟨_, a₁, w₁, ⟨e', h', hc', hq'⟩, .pass (x := .inLoop c) rfl (fun _ _ => .inl (by simp)) harr⟩
  obtain ⟨x, a', w', hq, harr⟩ := key _ s0 a w rfl hG hc0
  exact ⟨x, a', w', hq, .of_steps (.one step_loop) harr⟩

section
variable {σ : Type} {I : σ → Env} {H : σ → Heap} {G : σ → Prop} {μ : σ → Nat} {s : σ}
theorem loopQ_next (s' : σ) (h1 : G s') (h2 : μ s' < μ s) (h3 : h = H s') (h4 : EnvLe e (I s')) : loopQ I H G μ s Q .normal e h := ⟨s', e, h1, h2, h3 ▸ View.refl e h, h4⟩
theorem loopQ_view {e' : Env} {h' : Heap} (v : View e h e' h') (hq : loopQ I H G μ s Q .normal e' h') : loopQ I H G μ s Q .normal e h := by
  obtain ⟨s', e'', h1, h2, h3, h4⟩ := hq
  exact ⟨s', e'', h1, h2, v.trans h3, h4⟩
theorem loopQ_ret (hr : Q .ret e h) : loopQ I H G μ s Q .ret e h := hr
theorem loopQ_exit {i : Nat} (hr : Q (.exit i) e h) : loopQ I H G μ s Q (.exit i) e h := hr
end

theorem run_len {c : Code} {t : Nat} {xs : List (List A)} (ht : lk e t = some (.sl xs)) (hr : xs.length ≤ 9223372036854775807 → Run C n c Q e h) : Run C n c Q e h := fun a w hc => by
  obtain ⟨_, _, _, hl, _⟩ := (hc.env t _ ht).sl_inv
  exact hr hl a w hc

/-! ### The way in and the way out -/
def enumE : Nat → List A → Env
  | _, [] => []
  | i, a :: r => (i, a) :: enumE (i + 1) r

/-- What a result's variable hands back. -/
inductive ResOne (ty : Nat → Option TI) (e : Env) (h : Heap) : ResultVar → A → Prop
  | tmp {t : Nat} {v : A} (ht : lk e t = some v) : ResOne ty e h (.tmp t) v
  | cellI {p T : Nat} {cs : List A} {v : A} (hp : lk e p = some (.ip cs)) (hv : loadA ty T cs = some v) : ResOne ty e h (.cell p T) v
  | cellM {p T b T' room : Nat} {cs : List A} {v : A} (hp : lk e p = some (.op (some b) 0)) (hb : (⟨some b, T', room, cs⟩ : Blk) ∈ h) (hv : loadA ty T cs = some v) : ResOne ty e h (.cell p T) v

inductive ResAll (ty : Nat → Option TI) (e : Env) (h : Heap) : List ResultVar → List A → Prop
  | nil : ResAll ty e h [] []
  | cons {r : ResultVar} {rs : List ResultVar} {v : A} {vs : List A} (h1 : ResOne ty e h r v) (h2 : ResAll ty e h rs vs) : ResAll ty e h (r :: rs) (v :: vs)

def outA : List A → A
  | [v] => v
  | vs => .tup vs

/-- The call is at its end, hands back v, and of its own memory h0 is left (the rest is given up). -/
def endQ (ty : Nat → Option TI) (rs : Array ResultVar) (v : A) (h0 : Heap) : Exit → Env → Heap → Prop := fun x e h =>
  (x = .ret ∨ x = .normal) ∧ ∃ e' h', View e h e' h' ∧ h0.Sublist h' ∧ ∃ vs, ResAll ty e' h' rs.toList vs ∧ Le (outA vs) v
/-- .. hands back what R tells, with the memory that it tells; F is the rest. -/
def endD (ty : Nat → Option TI) (rs : Array ResultVar) (R : A → Heap → Prop) (F : Heap) : Exit → Env → Heap → Prop := fun x e h =>
  (x = .ret ∨ x = .normal) ∧ ∃ e' h1, View e h e' (h1 ++ F) ∧ ∃ vs, ResAll ty e' (h1 ++ F) rs.toList vs ∧ ∃ v, Le (outA vs) v ∧ R v h1

end

theorem im_sub {w : World} {h0 h : Heap} (hs : h0.Sublist h) (b : Nat) (hb : Im w h b) : Im w h0 b := ⟨hb.1, fun hk => hb.2 ((hs.filterMap _).subset hk)⟩
theorem HeapOk.sub {w : World} {h0 h : Heap} (hs : h0.Sublist h) (H : HeapOk h w) : HeapOk h0 w :=
  ⟨H.nodup.sublist (hs.filterMap _), fun k hk => (H.blk k (hs.subset hk)).stab (fun _ hb => ⟨im_sub hs _ hb, rfl⟩) fun _ _ => rfl, H.tab.stab fun _ hb => ⟨im_sub hs _ hb, rfl⟩⟩

theorem Rel.heap {w : World} {h0 h : Heap} (hs : h0.Sublist h) {a : A} {v : Value} (r : Rel (Im w h) w a v) : Rel (Im w h0) w a v := r.stab fun b hb => ⟨im_sub hs b hb, rfl⟩

theorem cell_of_vs {w : World} {b : Nat} {vs rest : List Value} {T : TypeId} {fr : Nat × Nat} (hb : w.heap[b]? = some (.cells (vs ++ rest).toArray T fr)) (j : Nat) (hj : j < vs.length) : w.cell? ⟨b, j, none⟩ = some vs[j] := by
  rw [cell_of_row _ _ _ _ _ _ hb]
  simp [hj, List.getElem?_append_left]

def resSem (tmps : Array Value) (r : ResultVar) : Sem Value := match r with | .tmp t => Pure.pure (tmps.getD t undef) | .cell p t => do loadVar t (← asAddr (tmps.getD p undef))

theorem resOne_run {P : Program} {ty : Nat → Option TI} (hty : TyOk P ty) {C : Cx} {n : Nat} {e : Env} {h : Heap} {a : Act} {w : World} (hc : Conc C n e h a w) {r : ResultVar} {v : A} (H : ResOne ty e h r v) :
    ∃ u, (resSem a.tmps r).run P w = .ok u w ∧ Rel (Im w h) w v u := by
  cases H with
  | tmp ht => exact ⟨_, rfl, hc.env _ _ ht⟩
  | @cellI p T cs v hp hv =>
    obtain ⟨b, o, V, e1, hS, h1, h2⟩ := (hc.env _ _ hp).ip_inv
    obtain ⟨u, hu, ru⟩ := loadA_cells (P := P) hty hv h1 h2
    refine ⟨u, ?_, ru⟩
    have e1' : a.tmps.getD p undef = .pointer (some ⟨b, o, none⟩) := e1
    simp only [resSem, e1', asAddr]
    simpa using hu
  | @cellM p T b T' room cs v hp hb hv =>
    have e1 := (hc.env _ _ hp).op_inv
    obtain ⟨vs, rest, hbk, hrl, _⟩ := hc.heap.at hb
    obtain ⟨u, hu, ru⟩ := loadA_cells (P := P) hty hv (b := b) (o := 0) (V := fun j => vs.getD j undef) (fun j hj => by
      have hj' : j < vs.length := by rw [hrl.1]; exact hj
      rw [Nat.zero_add, cell_of_vs hbk j hj']; simp [hj']) (fun j hj => by
      have hj' : j < vs.length := by rw [hrl.1]; exact hj
      have := hrl.2 j hj hj'
      simpa [hj'] using this)
    refine ⟨u, ?_, ru⟩
    have e1' : a.tmps.getD p undef = .pointer (some ⟨b, 0, none⟩) := e1
    simp only [resSem, e1', asAddr]
    simpa using hu

theorem resAll_run {P : Program} {ty : Nat → Option TI} (hty : TyOk P ty) {C : Cx} {n : Nat} {e : Env} {h : Heap} {a : Act} {w : World} (hc : Conc C n e h a w) {rs : List ResultVar} {vs : List A} (H : ResAll ty e h rs vs) :
    ∃ us : List Value, (rs.mapM (resSem a.tmps)).run P w = .ok us w ∧ RelL (Im w h) w vs us := by
  induction H with
  | nil => exact ⟨[], rfl, RelL.nil⟩
  | cons h1 h2 ih =>
    obtain ⟨u, hu, ru⟩ := resOne_run (P := P) hty hc h1
    obtain ⟨us, hus, rus⟩ := ih
    exact ⟨u :: us, by rw [List.mapM_cons, Sem.run_bind, hu]; simp only [Result.andThen_ok]; rw [Sem.run_bind, hus]; rfl, RelL.cons ru rus⟩

theorem out_rel {S : Nat → Prop} {w : World} {vs : List A} {us : List Value} (r : RelL S w vs us) : Rel S w (outA vs) (if h : us.toArray.size = 1 then us.toArray[0] else .tuple us.toArray) := by
  unfold outA
  split
  · rename_i v
    obtain ⟨u, us', e1, h1, h2⟩ := r.uncons
    have : us' = [] := List.eq_nil_of_length_eq_zero h2.1
    subst this; subst e1
    simpa using h1
  · rename_i hne
    have hn : us.toArray.size ≠ 1 := by
      intro hx
      have h1 : vs.length = 1 := by rw [← r.1]; simpa using hx
      obtain ⟨v, hv⟩ := List.length_eq_one_iff.1 h1
      exact hne v hv
    rw [dif_neg hn]
    exact .tup _ _ r.1 r.2

theorem enum_env {S : Nat → Prop} {w : World} : ∀ (as : List A) (vs : List Value) (i : Nat), RelL S w as vs → ∀ t v, lk (enumE i as) t = some v → ∃ k u, t = i + k ∧ vs[k]? = some u ∧ Rel S w v u
  | [], vs, i, _, t, v, hv => by simp [enumE, lk] at hv
  | a :: as, vs, i, r, t, v, hv => by
    obtain ⟨u, us, rfl, h1, h2⟩ := r.uncons
    by_cases ht : i = t
    · subst ht
      rw [enumE, lk_cons_eq] at hv
      simp only [Option.some.injEq] at hv
      subst hv
      exact ⟨0, u, by omega, rfl, h1⟩
    · rw [enumE, lk_cons_ne _ _ ht] at hv
      obtain ⟨k, u', e1, e2, e3⟩ := enum_env as us (i + 1) h2 t v hv
      exact ⟨k + 1, u', by omega, by simpa using e2, e3⟩

theorem conc_start {C : Cx} {n : Nat} {as : List A} {vs : List Value} {h : Heap} (hw : RelL (Im C.w0 h) C.w0 as vs) (hh : HeapOk h C.w0) (hK : C.K0 = keys h) (hD : C.D = []) :
    Conc C n (enumE 0 as) h { tmps := vs.toArray ++ Array.replicate (n - vs.toArray.size) undef, defers := [] } C.w0 where
  defers := hD.symm
  size := by simp; omega
  env := fun t v hv => by
    obtain ⟨k, u, e1, e2, e3⟩ := enum_env as vs 0 hw t v hv
    have : t = k := by omega
    subst this
    have hk := (List.getElem?_eq_some_iff.1 e2).1
    have : (Act.mk (vs.toArray ++ Array.replicate (n - vs.toArray.size) undef) []).eval (.tmp t) = u := by
      simp only [Act.eval, Array.getD_eq_getD_getElem?]
      rw [Array.getElem?_append_left (by simpa using hk)]
      simp [e2]
    rw [this]; exact e3
  heap := hh
  ext := Ext.refl _ _
  own := fun b hb => .inl (by rw [hK]; exact hb)

theorem run_results {P : Program} {ty : Nat → Option TI} (hty : TyOk P ty) {C : Cx} {n : Nat} {e : Env} {h : Heap} {a : Act} {w : World} (hc : Conc C n e h a w) {fn : Func} {vs : List A} (hres : ResAll ty e h fn.results.toList vs) :
    ∃ u, (results fn a.tmps).run P w = .ok u w ∧ Rel (Im w h) w (outA vs) u := by
  obtain ⟨us, hus, rus⟩ := resAll_run (P := P) hty hc hres
  refine ⟨(if h : us.toArray.size = 1 then us.toArray[0] else .tuple us.toArray), ?_, out_rel rus⟩
  unfold results
  rw [Sem.run_bind]
  have : (fn.results.mapM (resSem a.tmps)).run P w = .ok us.toArray w := by
    rw [Array.mapM_eq_mapM_toList, Sem.run_map, hus]; rfl
  change Result.andThen ((fn.results.mapM (resSem a.tmps)).run P w) _ = _
  rw [this]
  rfl

/-- **A function's contract from its body.** -/
theorem fn_of_run {P : Program} {ty : Nat → Option TI} (hty : TyOk P ty) {zt : Nat → Option (List ZK × Nat)} (hzt : ZtOk P zt) (hm : P.follows .mixedOrders = true) {f : FuncId} {fn : Func} {c : Code} {n : Nat} {as : List A} {v : A}
    (hf : P.funcs[f]? = some fn) (hb : fn.body = some c) (hnm : (fn.name == "runtime.NumGoroutine") = false) (hn : fn.ntmps = n)
    (hr : ∀ (w0 : World) (h : Heap), Run ⟨P, ty, hty, zt, hzt, hm, w0, keys h, []⟩ n c (endQ ty fn.results v h) (enumE 0 as) h) : Gives P f as v := by
  refine ⟨⟨fn, hf, hnm, by simp [hb]⟩, fun h w vs hrel hh => ?_⟩
  refine calls_of_wp hf hb ?_
  rw [hn]
  refine wp_mono (hr w h _ w (conc_start (C := ⟨P, ty, hty, zt, hzt, hm, w, keys h, []⟩) hrel hh rfl rfl)) fun x a' w' hq => ?_
  obtain ⟨e'', h'', hc'', hx, e', h', hview, hsub, vs', hres, hout⟩ := hq
  have hc := hview _ _ _ _ hc''
  obtain ⟨u, hrun, hrel'⟩ := run_results (P := P) hty hc hres
  have hrel' := hout _ _ _ (hrel'.heap hsub)
  have hext : Ext (keys h) w w' := hc.ext
  have hchg : Chg h h w w' := ⟨hext.os, hext.tape, hext.output, hext.size, hext.block, fun _ hb => .inl hb, hc.heap.sub hsub⟩
  rcases hx with rfl | rfl
  · exact ⟨hc.defers, _, hrun, _, rfl, hchg, hrel'⟩
  · exact ⟨hc.defers, _, hrun, _, rfl, hchg, hrel'⟩

/-- .. of a function that makes or writes memory. -/
theorem fn_of_runD {P : Program} {ty : Nat → Option TI} (hty : TyOk P ty) {zt : Nat → Option (List ZK × Nat)} (hzt : ZtOk P zt) (hm : P.follows .mixedOrders = true) {f : FuncId} {fn : Func} {c : Code} {n : Nat} {as : List A} {h : Heap} {R : A → Heap → Prop}
    (hf : P.funcs[f]? = some fn) (hb : fn.body = some c) (hnm : (fn.name == "runtime.NumGoroutine") = false) (hn : fn.ntmps = n)
    (hr : ∀ (w0 : World) (F : Heap), Run ⟨P, ty, hty, zt, hzt, hm, w0, keys (h ++ F), []⟩ n c (endD ty fn.results R F) (enumE 0 as) (h ++ F)) : Does P f as h R := by
  refine ⟨⟨fn, hf, hnm, by simp [hb]⟩, fun F w vs hrel hh => ?_⟩
  refine calls_of_wp hf hb ?_
  rw [hn]
  refine wp_mono (hr w F _ w (conc_start (C := ⟨P, ty, hty, zt, hzt, hm, w, keys (h ++ F), []⟩) hrel hh rfl rfl)) fun x a' w' hq => ?_
  obtain ⟨e'', h'', hc'', hx, e', h1, hview, vs', hres, v, hout, hR⟩ := hq
  have hc := hview _ _ _ _ hc''
  obtain ⟨u, hrun, hrel'⟩ := run_results (P := P) hty hc hres
  have hext : Ext (keys (h ++ F)) w w' := hc.ext
  have hchg : Chg (h ++ F) (h1 ++ F) w w' := ⟨hext.os, hext.tape, hext.output, hext.size, hext.block, hc.own, hc.heap⟩
  rcases hx with rfl | rfl
  · exact ⟨hc.defers, _, hrun, _, v, h1, rfl, hR, hchg, hout _ _ _ hrel'⟩
  · exact ⟨hc.defers, _, hrun, _, v, h1, rfl, hR, hchg, hout _ _ _ hrel'⟩

/-- What only computes, with memory of which the call has no part. -/
theorem Gives.does {P : Program} {f : FuncId} {as : List A} {v : A} (h : Gives P f as v) : Does P f as [] (fun u h' => u = v ∧ h' = []) :=
  ⟨h.1, fun F w vs hr hh => (h.2 F w vs hr hh).mono fun e w' ⟨u, e1, e2, e3⟩ => ⟨u, v, [], e1, ⟨rfl, rfl⟩, e2, e3⟩⟩
theorem Does.mono {P : Program} {f : FuncId} {as : List A} {h : Heap} {R R' : A → Heap → Prop} (hd : Does P f as h R) (hR : ∀ v h', R v h' → R' v h') : Does P f as h R' :=
  ⟨hd.1, fun F w vs hr hh => (hd.2 F w vs hr hh).mono fun e w' ⟨u, v, h', e1, e2, e3, e4⟩ => ⟨u, v, h', e1, hR v h' e2, e3, e4⟩⟩

/-! ### The end of a call -/
section
variable {ty : Nat → Option TI} {e : Env} {h h0 F : Heap} {v : A} {x : Exit} {R : A → Heap → Prop}
theorem end1 {t : Nat} {u : A} (ht : lk e t = some u) (hs : h0.Sublist h) (hv : u = v) (hx : x = .ret ∨ x = .normal) : endQ ty #[.tmp t] v h0 x e h :=
  ⟨hx, e, h, View.refl e h, hs, [u], .cons (.tmp ht) .nil, by rw [← hv]; exact Le.refl _⟩
theorem end2 {t t' : Nat} {u u' : A} (ht : lk e t = some u) (ht' : lk e t' = some u') (hs : h0.Sublist h) (hv : A.tup [u, u'] = v) (hx : x = .ret ∨ x = .normal) : endQ ty #[.tmp t, .tmp t'] v h0 x e h :=
  ⟨hx, e, h, View.refl e h, hs, [u, u'], .cons (.tmp ht) (.cons (.tmp ht') .nil), by rw [← hv]; exact Le.refl _⟩
theorem end_le {rs : Array ResultVar} (hs : h0.Sublist h) {vs : List A} (hr : ResAll ty e h rs.toList vs) (hv : Le (outA vs) v) (hx : x = .ret ∨ x = .normal) : endQ ty rs v h0 x e h := ⟨hx, e, h, View.refl e h, hs, vs, hr, hv⟩
theorem end_view {rs : Array ResultVar} {e' : Env} {h' : Heap} (w : View e h e' h') (hq : endQ ty rs v h0 x e' h') : endQ ty rs v h0 x e h := by
  obtain ⟨hx, e1, h1, v1, r⟩ := hq
  exact ⟨hx, e1, h1, w.trans v1, r⟩
theorem endD_ret {rs : Array ResultVar} {h1 : Heap} (hh : h = h1 ++ F) {vs : List A} (hr : ResAll ty e h rs.toList vs) (hv : Le (outA vs) v) (hR : R v h1) (hx : x = .ret ∨ x = .normal) : endD ty rs R F x e h := by
  subst hh; exact ⟨hx, e, h1, View.refl _ _, vs, hr, v, hv, hR⟩
theorem endD_view {rs : Array ResultVar} {e' : Env} {h' : Heap} (w : View e h e' h') (hq : endD ty rs R F x e' h') : endD ty rs R F x e h := by
  obtain ⟨hx, e1, h1, v1, r⟩ := hq
  exact ⟨hx, e1, h1, w.trans v1, r⟩
end
theorem run_view {C : Cx} {n : Nat} {c : Code} {Q : Exit → Env → Heap → Prop} {e e' : Env} {h h' : Heap} (v : View e h e' h') (hr : Run C n c Q e' h') : Run C n c Q e h := fun a w hc => hr a w (v _ _ _ _ hc)

theorem nx (k : Nat) : some (A.int ((k : Int) + 1)) = some (A.int ((k + 1 : Nat) : Int)) := rfl
attribute [irreducible] Run J JO seqQ blockQ loopQ endQ endD
end Go.AI
