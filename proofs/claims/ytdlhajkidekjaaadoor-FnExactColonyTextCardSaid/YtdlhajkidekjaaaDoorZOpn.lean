/-
  A statement whose order Go leaves open, with operations that write: the writing ones follow one another by the text's edges, all others may be shifted. No condition.
-/
import Derived.Test.YtdlhajkidekjaaaDoorZDraw
namespace Go.AI
open Go.RowKit

/-- An operation that makes or writes memory of the call's own: what it yields and leaves is one of R. -/
def MStep (P : Program) (o : Oper) (e : Env) (h : Heap) (R : A → Heap → Prop) : Prop :=
  ∀ a w, Sit e h o a w → Yields P o a w fun u w' => ∃ v h', R v h' ∧ Chg h h' w w' ∧ Rel (Im w' h') w' v u

/-- An operation's place in the order of the walk. tight: each writing operation behind it waits for it. m: it may write. -/
structure Fl where
  i : Nat
  tight : Bool
  m : Bool

/-! ### Which operations an operation waits for -/
def insN (a : Nat) (l : List Nat) : List Nat := if l.contains a then l else a :: l
def ancOf (acc : List (List Nat)) (o : Oper) : List Nat :=
  o.after.toList.foldl (fun r e => if Region.binds .any e then insN e.on ((acc.getD e.on []).foldl (fun r a => insN a r) r) else r) []
def ancGo : List Oper → List (List Nat) → List (List Nat)
  | [], acc => acc
  | o :: os, acc => ancGo os (acc ++ [ancOf acc o])
def ancAll (l : List Oper) : List (List Nat) := ancGo l []

/-! ### The check of the order -/
def hasAnc (an : List (List Nat)) (i j : Nat) : Bool := (an.getD j []).contains i
def flGo (l : List Oper) (an : List (List Nat)) : List Nat → List Fl → Bool
  | _, [] => true
  | done, f :: fs => (match l[f.i]? with | some o => o.after.toList.all fun e => !Region.binds .any e || done.contains e.on | none => false) &&
      !done.contains f.i && (!f.m || fs.all fun g => hasAnc an f.i g.i) && (!f.tight || fs.all fun g => !g.m || hasAnc an f.i g.i) && flGo l an (f.i :: done) fs
/-- The walk in the chosen order. B: blocks that stay as they are till the statement's end. -/
inductive Lx (C : Cx) (n : Nat) (l : List Oper) (Q : Exit → Env → Heap → Prop) : List Fl → List Blk → Env → Heap → Prop
  | nil {B : List Blk} {e e' : Env} {h : Heap} (hs : ∀ t v, lk e' t = some v → lk e t = some v) (hq : Q .normal e' h) : Lx C n l Q [] B e h
  | quiet {f : Fl} {fs : List Fl} {B : List Blk} {e : Env} {h : Heap} {o : Oper} {v : A} (ho : l[f.i]? = some o) (hw : wantE l e o = some true) (hd : dOk n o.dst = true) (hq : ∀ h', Quiet C.P o e h' v)
      (t : Lx C n l Q fs B (putE o.dst v e) h) : Lx C n l Q (f :: fs) B e h
  | tight {f : Fl} {fs : List Fl} {B : List Blk} {e : Env} {h : Heap} {o : Oper} {v : A} (hf : f.tight = true) (ho : l[f.i]? = some o) (hw : wantE l e o = some true) (hd : dOk n o.dst = true) (hq : Quiet C.P o e h v)
      (t : Lx C n l Q fs B (putE o.dst v e) h) : Lx C n l Q (f :: fs) B e h
  | stab {f : Fl} {fs : List Fl} {B : List Blk} {e : Env} {h : Heap} {o : Oper} {v : A} (k : Blk) (hk : k ∈ h) (ho : l[f.i]? = some o) (hw : wantE l e o = some true) (hd : dOk n o.dst = true) (hq : ∀ h', k ∈ h' → Quiet C.P o e h' v)
      (t : Lx C n l Q fs (k :: B) (putE o.dst v e) h) : Lx C n l Q (f :: fs) B e h
  | skip {f : Fl} {fs : List Fl} {B : List Blk} {e : Env} {h : Heap} {o : Oper} (ho : l[f.i]? = some o) (hw : wantE l e o = some false) (hd : dOk n o.dst = true)
      (t : Lx C n l Q fs B (putE o.dst (.raw undef) e) h) : Lx C n l Q (f :: fs) B e h
  | wr {f : Fl} {fs : List Fl} {B : List Blk} {e : Env} {h : Heap} {o : Oper} {R : A → Heap → Prop} (hf : f.m = true) (ho : l[f.i]? = some o) (hw : wantE l e o = some true) (hd : dOk n o.dst = true) (hm : MStep C.P o e h R)
      (hB : ∀ v h', R v h' → ∀ k ∈ B, k ∈ h') (t : ∀ v h', R v h' → Lx C n l Q fs B (putE o.dst v e) h') : Lx C n l Q (f :: fs) B e h

def EL (l : List Oper) (e0 : Env) : List (Fl × A) → Env
  | [] => e0
  | x :: ps => putE ((l[x.1.i]?).bind (·.dst)) x.2 (EL l e0 ps)

/-- What is known of an operation that the walk has passed and that may still be to come. -/
def Good (C : Cx) (n : Nat) (l : List Oper) (fs : List Fl) (B : List Blk) (h : Heap) (f : Fl) (o : Oper) (e : Env) (v : A) : Prop :=
  dOk n o.dst = true ∧ ((wantE l e o = some false ∧ v = .raw undef) ∨ (wantE l e o = some true ∧
    ((∀ h', Quiet C.P o e h' v) ∨ (∃ k ∈ B, ∀ h', k ∈ h' → Quiet C.P o e h' v) ∨ (Quiet C.P o e h v ∧ ∀ g ∈ fs, g.m = true → f.i ∈ (ancAll l).getD g.i []))))

section
variable {C : Cx} {n : Nat} {l : List Oper} {e0 : Env} {Q : Exit → Env → Heap → Prop}

structure Inv (C : Cx) (n : Nat) (l : List Oper) (e0 : Env) (Q : Exit → Env → Heap → Prop) (L : Nat → Bool) (ps : List (Fl × A)) (fs : List Fl) (B : List Blk) (h : Heap) (a : Act) (w : World) : Prop where
  sub : ∀ i, i < l.length → L i = true → ∃ x ∈ ps, x.1.i = i
  all : ∀ i, i < l.length → (∃ x ∈ ps, x.1.i = i) ∨ ∃ g ∈ fs, g.i = i
  walk : Lx C n l Q fs B (EL l e0 ps) h
  chk : flGo l (ancAll l) (ps.map (·.1.i)) fs = true
  nodup : (ps.map (·.1.i)).Nodup
  pre : ∀ p2 x p1, ps = p2 ++ x :: p1 → ∃ o, l[x.1.i]? = some o ∧ ∀ e ∈ o.after, Region.binds .any e = true → e.on ∈ p1.map (·.1.i)
  good : ∀ p2 x p1, ps = p2 ++ x :: p1 → L x.1.i = false → ∃ o, l[x.1.i]? = some o ∧ Good C n l fs B h x.1 o (EL l e0 p1) x.2
  bs : ∀ k ∈ B, k ∈ h
  conc : Conc C n (EL l e0 (ps.filter fun x => L x.1.i)) h a w

end
end Go.AI
