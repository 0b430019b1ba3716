/-
  A statement whose order Go leaves open, with operations that write: the writing ones follow one another by the text's edges, all others may be shifted. No condition.
-/
import Derived.Test.YtdlhajkidekjaaaDoorZDraw
namespace Go.AI
open Go.RowKit

/-- An operation that makes or writes memory of the call's own: what it yields and leaves is one of R. -/
def MStep (P : Program) (o : Oper) (e : Env) (h : Heap) (R : A → Heap → Prop) : Prop :=
  ∀ a w, Sit e h o a w → Yields P o a w fun u w' => ∃ v h', R v h' ∧ Chg h h' w w' ∧ Rel (Im w' h') w' v u

/-- An operation's place in the order of the walk. tight: each writing operation behind it waits for it. m: it may write. p: it may also come behind the next one. -/
structure Fl where
  i : Nat
  tight : Bool
  m : Bool
  p : Bool
def Fl.w (f : Fl) : Bool := f.m && !f.p
theorem Fl.w_m {f : Fl} (h : f.w = true) : f.m = true ∧ f.p = false := by
  unfold Fl.w at h
  simpa using h

/-! ### Which operations an operation waits for -/
def insN (a : Nat) (l : List Nat) : List Nat := if l.contains a then l else a :: l
def ancOf (acc : List (List Nat)) (o : Oper) : List Nat :=
  o.after.toList.foldl (fun r e => if Region.binds .any e then insN e.on ((acc.getD e.on []).foldl (fun r a => insN a r) r) else r) []
def ancGo : List Oper → List (List Nat) → List (List Nat)
  | [], acc => acc
  | o :: os, acc => ancGo os (acc ++ [ancOf acc o])
def ancAll (l : List Oper) : List (List Nat) := ancGo l []

/-! ### The check of the order -/
def hasAnc (an : List (List Nat)) (i j : Nat) : Bool := (an.getD j []).contains i
def flGo (l : List Oper) (an : List (List Nat)) : List Nat → List Fl → Bool
  | _, [] => true
  | done, f :: fs => (match l[f.i]? with | some o => o.after.toList.all fun e => !Region.binds .any e || done.contains e.on | none => false) &&
      !done.contains f.i && (!f.m || (bif f.p then fs.drop 1 else fs).all fun g => hasAnc an f.i g.i) && (!f.tight || fs.all fun g => !g.m || hasAnc an f.i g.i) && flGo l an (f.i :: done) fs
/-- The walk in the chosen order. B: blocks that stay as they are till an operation that waits for the one named, or till the statement's end. -/
inductive Lx (C : Cx) (n : Nat) (l : List Oper) (Q : Exit → Env → Heap → Prop) : List Fl → List (Nat × Blk) → Env → Heap → Prop
  | nil {B : List (Nat × Blk)} {e e' : Env} {h : Heap} (hs : ∀ t v, lk e' t = some v → lk e t = some v) (hq : Q .normal e' h) : Lx C n l Q [] B e h
  | quiet {f : Fl} {fs : List Fl} {B : List (Nat × Blk)} {e : Env} {h : Heap} {o : Oper} {v : A} (ho : l[f.i]? = some o) (hw : wantE l e o = some true) (hd : dOk n o.dst = true) (hq : ∀ h', Quiet C.P o e h' v)
      (t : Lx C n l Q fs B (putE o.dst v e) h) : Lx C n l Q (f :: fs) B e h
  | tight {f : Fl} {fs : List Fl} {B : List (Nat × Blk)} {e : Env} {h : Heap} {o : Oper} {v : A} (hf : f.tight = true) (ho : l[f.i]? = some o) (hw : wantE l e o = some true) (hd : dOk n o.dst = true) (hq : Quiet C.P o e h v)
      (t : Lx C n l Q fs B (putE o.dst v e) h) : Lx C n l Q (f :: fs) B e h
  | stab {f : Fl} {fs : List Fl} {B : List (Nat × Blk)} {e : Env} {h : Heap} {o : Oper} {v : A} (k : Blk) (hk : k ∈ h) (ho : l[f.i]? = some o) (hw : wantE l e o = some true) (hd : dOk n o.dst = true) (hq : ∀ h', k ∈ h' → Quiet C.P o e h' v)
      (t : Lx C n l Q fs ((f.i, k) :: B) (putE o.dst v e) h) : Lx C n l Q (f :: fs) B e h
  | skip {f : Fl} {fs : List Fl} {B : List (Nat × Blk)} {e : Env} {h : Heap} {o : Oper} (ho : l[f.i]? = some o) (hw : wantE l e o = some false) (hd : dOk n o.dst = true)
      (t : Lx C n l Q fs B (putE o.dst (.raw undef) e) h) : Lx C n l Q (f :: fs) B e h
  | wr {f : Fl} {fs : List Fl} {B : List (Nat × Blk)} {e : Env} {h : Heap} {o : Oper} {R : A → Heap → Prop} (hf : f.w = true) (ho : l[f.i]? = some o) (hw : wantE l e o = some true) (hd : dOk n o.dst = true) (hm : MStep C.P o e h R)
      (hB : ∀ v h', R v h' → ∀ k ∈ B, k.2 ∈ h' ∨ hasAnc (ancAll l) k.1 f.i = true) (t : ∀ v h', R v h' → Lx C n l Q fs B (putE o.dst v e) h') : Lx C n l Q (f :: fs) B e h
  | wr2 {f g : Fl} {fs : List Fl} {B : List (Nat × Blk)} {e : Env} {h : Heap} {o o2 : Oper} {R R2 : A → Heap → Prop} (hf : f.m = true) (hp : f.p = true) (hg : g.w = true)
      (ho : l[f.i]? = some o) (hw : wantE l e o = some true) (hd : dOk n o.dst = true) (hm : MStep C.P o e h R) (hB : ∀ v h', R v h' → ∀ k ∈ B, k.2 ∈ h' ∨ hasAnc (ancAll l) k.1 f.i = true) (t : ∀ v h', R v h' → Lx C n l Q (g :: fs) B (putE o.dst v e) h')
      (ho2 : l[g.i]? = some o2) (hw2 : wantE l e o2 = some true) (hd2 : dOk n o2.dst = true) (hm2 : MStep C.P o2 e h R2) (hB2 : ∀ v h', R2 v h' → ∀ k ∈ B, k.2 ∈ h' ∨ hasAnc (ancAll l) k.1 g.i = true) (t2 : ∀ v h', R2 v h' → Lx C n l Q ({ f with p := false } :: fs) B (putE o2.dst v e) h') :
      Lx C n l Q (f :: g :: fs) B e h

/-- What every writing operation still to come waits for need not stay. -/
theorem Lx.drop {C : Cx} {n : Nat} {l : List Oper} {Q : Exit → Env → Heap → Prop} {fs : List Fl} {B' : List (Nat × Blk)} {e : Env} {h : Heap} (L : Lx C n l Q fs B' e h) :
    ∀ B : List (Nat × Blk), (∀ k ∈ B, k ∈ B' ∨ ∀ g ∈ fs, g.m = true → hasAnc (ancAll l) k.1 g.i = true) → Lx C n l Q fs B e h := by
  induction L with
  | nil hs hq => exact fun _ _ => .nil hs hq
  | quiet ho hw hd hq _ ih => exact fun B H => .quiet ho hw hd hq (ih B fun k hk => (H k hk).imp_right fun q g hg hm => q g (by simp [hg]) hm)
  | tight hf ho hw hd hq _ ih => exact fun B H => .tight hf ho hw hd hq (ih B fun k hk => (H k hk).imp_right fun q g hg hm => q g (by simp [hg]) hm)
  | stab k hk ho hw hd hq _ ih =>
    refine fun B H => .stab k hk ho hw hd hq (ih _ fun k' hk' => ?_)
    rcases List.mem_cons.1 hk' with rfl | hk'
    · exact .inl (by simp)
    · rcases H k' hk' with q | q
      · exact .inl (List.mem_cons_of_mem _ q)
      · exact .inr fun g hg hm => q g (by simp [hg]) hm
  | skip ho hw hd _ ih => exact fun B H => .skip ho hw hd (ih B fun k hk => (H k hk).imp_right fun q g hg hm => q g (by simp [hg]) hm)
  | wr hf ho hw hd hm hB _ ih =>
    exact fun B H => .wr hf ho hw hd hm (fun v h' hR k hk => (H k hk).elim (fun q => hB v h' hR k q) fun q => .inr (q _ (by simp) (Fl.w_m hf).1)) fun v h' hR => ih v h' hR B fun k hk => (H k hk).imp_right fun q g hg hm => q g (by simp [hg]) hm
  | wr2 hf hp hg ho hw hd hm hB _ ho2 hw2 hd2 hm2 hB2 _ ih ih2 =>
    refine fun B H => .wr2 hf hp hg ho hw hd hm (fun v h' hR k hk => (H k hk).elim (fun q => hB v h' hR k q) fun q => .inr (q _ (by simp) hf)) (fun v h' hR => ih v h' hR B fun k hk => (H k hk).imp_right fun q g hg hm => q g (by simp at hg ⊢; exact .inr hg) hm)
      ho2 hw2 hd2 hm2 (fun v h' hR k hk => (H k hk).elim (fun q => hB2 v h' hR k q) fun q => .inr (q _ (by simp) (Fl.w_m hg).1)) (fun v h' hR => ih2 v h' hR B fun k hk => (H k hk).imp_right fun q g hg' hm => ?_)
    rcases List.mem_cons.1 hg' with rfl | hg'
    · have q2 := q _ List.mem_cons_self hf
      exact q2
    · exact q g (by simp [hg']) hm

def EL (l : List Oper) (e0 : Env) : List (Fl × A) → Env
  | [] => e0
  | x :: ps => putE ((l[x.1.i]?).bind (·.dst)) x.2 (EL l e0 ps)

/-- What is known of an operation that the walk has passed and that may still be to come. -/
def Good (C : Cx) (n : Nat) (l : List Oper) (fs : List Fl) (B : List (Nat × Blk)) (h : Heap) (f : Fl) (o : Oper) (e : Env) (v : A) : Prop :=
  dOk n o.dst = true ∧ ((wantE l e o = some false ∧ v = .raw undef) ∨ (wantE l e o = some true ∧
    ((∀ h', Quiet C.P o e h' v) ∨ (∃ k, (f.i, k) ∈ B ∧ ∀ h', k ∈ h' → Quiet C.P o e h' v) ∨ (Quiet C.P o e h v ∧ ∀ g ∈ fs, g.m = true → f.i ∈ (ancAll l).getD g.i []))))

section
variable {C : Cx} {n : Nat} {l : List Oper} {e0 : Env} {Q : Exit → Env → Heap → Prop}

structure Inv (C : Cx) (n : Nat) (l : List Oper) (e0 : Env) (Q : Exit → Env → Heap → Prop) (L : Nat → Bool) (ps : List (Fl × A)) (fs : List Fl) (B : List (Nat × Blk)) (h : Heap) (a : Act) (w : World) : Prop where
  sub : ∀ i, i < l.length → L i = true → ∃ x ∈ ps, x.1.i = i
  all : ∀ i, i < l.length → (∃ x ∈ ps, x.1.i = i) ∨ ∃ g ∈ fs, g.i = i
  walk : Lx C n l Q fs B (EL l e0 ps) h
  chk : flGo l (ancAll l) (ps.map (·.1.i)) fs = true
  nodup : (ps.map (·.1.i)).Nodup
  pre : ∀ p2 x p1, ps = p2 ++ x :: p1 → ∃ o, l[x.1.i]? = some o ∧ ∀ e ∈ o.after, Region.binds .any e = true → e.on ∈ p1.map (·.1.i)
  good : ∀ p2 x p1, ps = p2 ++ x :: p1 → L x.1.i = false → ∃ o, l[x.1.i]? = some o ∧ Good C n l fs B h x.1 o (EL l e0 p1) x.2
  bs : ∀ k ∈ B, k.2 ∈ h ∨ L k.1 = true
  conc : Conc C n (EL l e0 (ps.filter fun x => L x.1.i)) h a w

end
end Go.AI
