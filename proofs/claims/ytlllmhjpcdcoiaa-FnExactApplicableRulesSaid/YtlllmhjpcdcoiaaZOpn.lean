/-
  A statement whose order Go leaves open, with operations that write: the writing ones follow one another by the text's edges, all others may be shifted. No condition.
-/
import Derived.Test.YtlllmhjpcdcoiaaZDraw
namespace Go.AI
open Go.RowKit

/-- An operation that makes or writes memory of the call's own: what it yields and leaves is one of R. -/
def MStep (P : Program) (o : Oper) (e : Env) (h : Heap) (R : A → Heap → Prop) : Prop :=
  ∀ a w, Sit e h o a w → Yields P o a w fun u w' => ∃ v h', R v h' ∧ Chg h h' w w' ∧ Rel (Im w' h') w' v u

/-- An operation's place in the order of the walk. tight: each writing operation behind it waits for it. m: it may write. p: it may also come behind so many of the next ones. -/
structure Fl where
  i : Nat
  tight : Bool
  m : Bool
  p : Nat
def Fl.w (f : Fl) : Bool := f.m && Nat.beq f.p 0
theorem Fl.w_m {f : Fl} (h : f.w = true) : f.m = true ∧ f.p = 0 := by
  unfold Fl.w at h
  rw [Bool.and_eq_true] at h
  exact ⟨h.1, Nat.eq_of_beq_eq_true h.2⟩

/-! ### Which operations an operation waits for -/
def insN (a : Nat) (l : List Nat) : List Nat := if l.contains a then l else a :: l
def ancOf (acc : List (List Nat)) (o : Oper) : List Nat :=
  o.after.toList.foldl (fun r e => if Region.binds .any e then insN e.on ((acc.getD e.on []).foldl (fun r a => insN a r) r) else r) []
def ancGo : List Oper → List (List Nat) → List (List Nat)
  | [], acc => acc
  | o :: os, acc => ancGo os (acc ++ [ancOf acc o])
def ancAll (l : List Oper) : List (List Nat) := ancGo l []

theorem mem_insN {a b : Nat} {l : List Nat} (h : b ∈ insN a l) : b = a ∨ b ∈ l := by
  unfold insN at h
  split at h
  · exact .inr h
  · exact List.mem_cons.1 h
theorem mem_foldIns {b : Nat} : ∀ {xs r : List Nat}, b ∈ xs.foldl (fun r a => insN a r) r → b ∈ xs ∨ b ∈ r
  | [], r, h => .inr h
  | x :: xs, r, h => by
    rcases mem_foldIns (xs := xs) h with q | q
    · exact .inl (List.mem_cons_of_mem _ q)
    · rcases mem_insN q with rfl | q
      · exact .inl (by simp)
      · exact .inr q
theorem mem_ancOf {acc : List (List Nat)} {b : Nat} : ∀ (es : List Edge) (r : List Nat), b ∈ es.foldl (fun r e => if Region.binds .any e then insN e.on ((acc.getD e.on []).foldl (fun r a => insN a r) r) else r) r →
    b ∈ r ∨ ∃ e ∈ es, Region.binds .any e = true ∧ (b = e.on ∨ b ∈ acc.getD e.on [])
  | [], r, h => .inl h
  | e :: es, r, h => by
    rcases mem_ancOf es _ h with q | ⟨e', h1, h2, h3⟩
    · dsimp only at q
      split at q
      · rename_i hb
        rcases mem_insN q with rfl | q
        · exact .inr ⟨e, by simp, hb, .inl rfl⟩
        · rcases mem_foldIns q with q | q
          · exact .inr ⟨e, by simp, hb, .inr q⟩
          · exact .inl q
      · exact .inl q
    · exact .inr ⟨e', by simp [h1], h2, h3⟩
theorem ancGo_old : ∀ (os : List Oper) (acc : List (List Nat)) (i : Nat), i < acc.length → (ancGo os acc).getD i [] = acc.getD i []
  | [], acc, i, h => rfl
  | o :: os, acc, i, h => by
    rw [ancGo, ancGo_old os _ i (by simp; omega)]
    simp [List.getElem?_append_left h]
theorem ancGo_at : ∀ (os : List Oper) (acc : List (List Nat)) (i : Nat) (o : Oper), os[i]? = some o → (∀ e ∈ o.after, Region.binds .any e = true → e.on < acc.length + i) →
    ∀ b ∈ (ancGo os acc).getD (acc.length + i) [], ∃ e ∈ o.after, Region.binds .any e = true ∧ (b = e.on ∨ b ∈ (ancGo os acc).getD e.on [])
  | [], acc, i, o, h, _ => by simp at h
  | o' :: os, acc, 0, o, h, hlt => by
    simp only [List.getElem?_cons_zero, Option.some.injEq] at h
    subst h
    intro b hb
    rw [Nat.add_zero] at hb
    have e1 : (ancGo (o' :: os) acc).getD acc.length [] = ancOf acc o' := by
      rw [ancGo, ancGo_old os _ _ (by simp)]
      simp
    rw [e1] at hb
    unfold ancOf at hb
    rcases mem_ancOf _ _ hb with q | ⟨e, h1, h2, h3⟩
    · cases q
    · refine ⟨e, by simpa using h1, h2, ?_⟩
      rcases h3 with h3 | h3
      · exact .inl h3
      · refine .inr ?_
        have := hlt e (by simpa using h1) h2
        rw [ancGo_old (o' :: os) acc e.on (by omega)]
        exact h3
  | o' :: os, acc, i + 1, o, h, hlt => by
    intro b hb
    have h' : os[i]? = some o := by simpa using h
    have := ancGo_at os (acc ++ [ancOf acc o']) i o h' (fun e he hbd => by have := hlt e he hbd; simp; omega) b
    simp only [List.length_append, List.length_singleton] at this
    have e1 : acc.length + 1 + i = acc.length + (i + 1) := by omega
    rw [e1] at this
    exact this hb
theorem anc_at {l : List Oper} (hdet : detOk l = true) {i : Nat} {o : Oper} (ho : l[i]? = some o) {b : Nat} (hb : b ∈ (ancAll l).getD i []) :
    ∃ e ∈ o.after, Region.binds .any e = true ∧ (b = e.on ∨ b ∈ (ancAll l).getD e.on []) := by
  have := ancGo_at l [] i o ho (fun e he hbd => by have := det_edge (detOk_one hdet ho) he hbd; simpa using this) b
  simp only [List.length_nil, Nat.zero_add] at this
  exact this hb
/-- What is listed is closed under waiting. -/
theorem anc_listed {l : List Oper} (hdet : detOk l = true) {L : Nat → Bool} (hpc : ∀ i o, l[i]? = some o → L i = true → ∀ e ∈ o.after, Region.binds .any e = true → L e.on = true) (hlt : ∀ i, L i = true → i < l.length) :
    ∀ (i : Nat) (b : Nat), L i = true → b ∈ (ancAll l).getD i [] → L b = true := by
  intro i
  induction i using Nat.strongRecOn with
  | _ i ih =>
    intro b hL hb
    have hi := hlt i hL
    obtain ⟨e, h1, h2, h3⟩ := anc_at hdet (List.getElem?_eq_getElem hi) hb
    have hl := det_edge (detOk_one hdet (List.getElem?_eq_getElem hi)) h1 h2
    have hLe := hpc i _ (List.getElem?_eq_getElem hi) hL e h1 h2
    rcases h3 with rfl | h3
    · exact hLe
    · exact ih e.on hl b hLe h3

/-! ### The check of the order -/
def hasAnc (an : List (List Nat)) (i j : Nat) : Bool := (an.getD j []).contains i
def flGo (l : List Oper) (an : List (List Nat)) : List Nat → List Fl → Bool
  | _, [] => true
  | done, f :: fs => (match l[f.i]? with | some o => o.after.toList.all fun e => !Region.binds .any e || done.contains e.on | none => false) &&
      !done.contains f.i && (!f.m || (fs.drop f.p).all fun g => hasAnc an f.i g.i) && (!f.tight || fs.all fun g => !g.m || hasAnc an f.i g.i) && flGo l an (f.i :: done) fs
theorem len_ind {α : Type} {p : List α → Prop} (h : ∀ fs, (∀ gs : List α, gs.length < fs.length → p gs) → p fs) : ∀ fs, p fs := by
  have H : ∀ (N : Nat) (fs : List α), fs.length < N → p fs := fun N => by
    induction N with
    | zero => exact fun fs q => absurd q (Nat.not_lt_zero _)
    | succ N ih => exact fun fs q => h fs fun gs hg => ih gs (by omega)
  exact fun fs => H (fs.length + 1) fs (Nat.lt_succ_self _)
theorem flGo_congr {l : List Oper} {an : List (List Nat)} : ∀ {fs : List Fl} {d d' : List Nat}, (∀ x, d.contains x = d'.contains x) → flGo l an d fs = flGo l an d' fs
  | [], _, _, _ => rfl
  | f :: fs, d, d', H => by
    have ih : flGo l an (f.i :: d) fs = flGo l an (f.i :: d') fs := flGo_congr fun x => by simp only [List.contains_cons, H x]
    simp only [flGo, H, ih]
theorem flGo_swap {l : List Oper} {an : List (List Nat)} {f g : Fl} {fs : List Fl} {d : List Nat} (hp : f.p ≠ 0) (h : flGo l an d (f :: g :: fs) = true) : flGo l an (g.i :: d) ({ f with p := f.p - 1 } :: fs) = true := by
  simp only [flGo, Bool.and_eq_true] at h ⊢
  obtain ⟨⟨⟨⟨a1, a2⟩, a3⟩, a4⟩, ⟨⟨⟨_, b2⟩, _⟩, _⟩, b5⟩ := h
  simp only [Bool.not_eq_true', List.contains_cons, Bool.or_eq_false_iff] at a2 b2
  refine ⟨⟨⟨⟨?_, ?_⟩, ?_⟩, ?_⟩, ?_⟩
  · split at a1
    · rename_i o ho
      rw [List.all_eq_true] at a1 ⊢
      intro e he
      have := a1 e he
      simp only [List.contains_cons]
      cases h1 : Region.binds .any e with
      | false => rfl
      | true =>
        rw [h1] at this
        simp only [Bool.not_true, Bool.false_or] at this ⊢
        rw [this, Bool.or_true]
    · cases a1
  · simp only [Bool.not_eq_true', List.contains_cons, Bool.or_eq_false_iff]
    refine ⟨?_, a2⟩
    have := b2.1
    rw [beq_eq_false_iff_ne] at this ⊢
    exact fun q => this q.symm
  · obtain ⟨q, hq⟩ := Nat.exists_eq_succ_of_ne_zero hp
    rw [hq, List.drop_succ_cons] at a3
    rw [hq]
    exact a3
  · simp only [List.all_cons, Bool.or_eq_true, Bool.and_eq_true] at a4 ⊢
    rcases a4 with a4 | a4
    · exact .inl a4
    · exact .inr a4.2
  · rw [← b5]
    exact flGo_congr fun x => by simp only [List.contains_cons]; cases (x == f.i) <;> cases (x == g.i) <;> rfl
def openOk (l : List Oper) (fl : List Fl) : Bool := detOk l && (List.range l.length).all (fun i => fl.any fun f => f.i == i) && flGo l (ancAll l) [] fl
/-- The walk in the chosen order. B: blocks that stay as they are till an operation that waits for the one named, or till the statement's end. -/
inductive Lx (C : Cx) (n : Nat) (l : List Oper) (Q : Exit → Env → Heap → Prop) : List Fl → List (Nat × Blk) → Env → Heap → Prop
  | nil {B : List (Nat × Blk)} {e e' : Env} {h : Heap} (hs : ∀ t v, lk e' t = some v → lk e t = some v) (hq : Q .normal e' h) : Lx C n l Q [] B e h
  | quiet {f : Fl} {fs : List Fl} {B : List (Nat × Blk)} {e : Env} {h : Heap} {o : Oper} {v : A} (ho : l[f.i]? = some o) (hw : wantE l e o = some true) (hd : dOk n o.dst = true) (hq : ∀ h', Quiet C.P o e h' v)
      (t : Lx C n l Q fs B (putE o.dst v e) h) : Lx C n l Q (f :: fs) B e h
  | tight {f : Fl} {fs : List Fl} {B : List (Nat × Blk)} {e : Env} {h : Heap} {o : Oper} {v : A} (hf : f.tight = true) (ho : l[f.i]? = some o) (hw : wantE l e o = some true) (hd : dOk n o.dst = true) (hq : Quiet C.P o e h v)
      (t : Lx C n l Q fs B (putE o.dst v e) h) : Lx C n l Q (f :: fs) B e h
  | stab {f : Fl} {fs : List Fl} {B : List (Nat × Blk)} {e : Env} {h : Heap} {o : Oper} {v : A} (k : Blk) (hk : k ∈ h) (ho : l[f.i]? = some o) (hw : wantE l e o = some true) (hd : dOk n o.dst = true) (hq : ∀ h', k ∈ h' → Quiet C.P o e h' v)
      (t : Lx C n l Q fs ((f.i, k) :: B) (putE o.dst v e) h) : Lx C n l Q (f :: fs) B e h
  | skip {f : Fl} {fs : List Fl} {B : List (Nat × Blk)} {e : Env} {h : Heap} {o : Oper} (ho : l[f.i]? = some o) (hw : wantE l e o = some false) (hd : dOk n o.dst = true)
      (t : Lx C n l Q fs B (putE o.dst (.raw undef) e) h) : Lx C n l Q (f :: fs) B e h
  | wr {f : Fl} {fs : List Fl} {B : List (Nat × Blk)} {e : Env} {h : Heap} {o : Oper} {R : A → Heap → Prop} (hf : f.w = true) (ho : l[f.i]? = some o) (hw : wantE l e o = some true) (hd : dOk n o.dst = true) (hm : MStep C.P o e h R)
      (hB : ∀ v h', R v h' → ∀ k ∈ B, k.2 ∈ h' ∨ hasAnc (ancAll l) k.1 f.i = true) (t : ∀ v h', R v h' → Lx C n l Q fs B (putE o.dst v e) h') : Lx C n l Q (f :: fs) B e h
  | wr2 {f g : Fl} {fs : List Fl} {B : List (Nat × Blk)} {e : Env} {h : Heap} {o o2 : Oper} {R R2 : A → Heap → Prop} (hf : f.m = true) (hp : f.p ≠ 0) (hg : g.w = true)
      (ho : l[f.i]? = some o) (hw : wantE l e o = some true) (hd : dOk n o.dst = true) (hm : MStep C.P o e h R) (hB : ∀ v h', R v h' → ∀ k ∈ B, k.2 ∈ h' ∨ hasAnc (ancAll l) k.1 f.i = true) (t : ∀ v h', R v h' → Lx C n l Q (g :: fs) B (putE o.dst v e) h')
      (ho2 : l[g.i]? = some o2) (hw2 : wantE l e o2 = some true) (hd2 : dOk n o2.dst = true) (hm2 : MStep C.P o2 e h R2) (hB2 : ∀ v h', R2 v h' → ∀ k ∈ B, k.2 ∈ h' ∨ hasAnc (ancAll l) k.1 g.i = true) (t2 : ∀ v h', R2 v h' → Lx C n l Q ({ f with p := f.p - 1 } :: fs) B (putE o2.dst v e) h') :
      Lx C n l Q (f :: g :: fs) B e h
  | wrq {f g : Fl} {fs : List Fl} {B : List (Nat × Blk)} {e : Env} {h : Heap} {o o2 : Oper} {R : A → Heap → Prop} {v2 : A} (hf : f.m = true) (hp : f.p ≠ 0) (hgm : g.m = false) (hgt : g.tight = false) (hna : (o2.after.toList.all fun e => !Region.binds .any e || !(e.on == f.i)) = true)
      (ho : l[f.i]? = some o) (hw : wantE l e o = some true) (hd : dOk n o.dst = true) (hm : MStep C.P o e h R) (hB : ∀ v h', R v h' → ∀ k ∈ B, k.2 ∈ h' ∨ hasAnc (ancAll l) k.1 f.i = true) (t : ∀ v h', R v h' → Lx C n l Q (g :: fs) B (putE o.dst v e) h')
      (ho2 : l[g.i]? = some o2) (hw2 : wantE l e o2 = some true) (hd2 : dOk n o2.dst = true) (hq2 : ∀ h', Quiet C.P o2 e h' v2) (t2 : Lx C n l Q ({ f with p := f.p - 1 } :: fs) B (putE o2.dst v2 e) h) :
      Lx C n l Q (f :: g :: fs) B e h

/-- What every writing operation still to come waits for need not stay. -/
theorem Lx.drop {C : Cx} {n : Nat} {l : List Oper} {Q : Exit → Env → Heap → Prop} {fs : List Fl} {B' : List (Nat × Blk)} {e : Env} {h : Heap} (L : Lx C n l Q fs B' e h) :
    ∀ B : List (Nat × Blk), (∀ k ∈ B, k ∈ B' ∨ ∀ g ∈ fs, g.m = true → hasAnc (ancAll l) k.1 g.i = true) → Lx C n l Q fs B e h := by
  induction L with
  | nil hs hq => exact fun _ _ => .nil hs hq
  | quiet ho hw hd hq _ ih => exact fun B H => .quiet ho hw hd hq (ih B fun k hk => (H k hk).imp_right fun q g hg hm => q g (by simp [hg]) hm)
  | tight hf ho hw hd hq _ ih => exact fun B H => .tight hf ho hw hd hq (ih B fun k hk => (H k hk).imp_right fun q g hg hm => q g (by simp [hg]) hm)
  | stab k hk ho hw hd hq _ ih =>
    refine fun B H => .stab k hk ho hw hd hq (ih _ fun k' hk' => ?_)
    rcases List.mem_cons.1 hk' with rfl | hk'
    · exact .inl (by simp)
    · rcases H k' hk' with q | q
      · exact .inl (List.mem_cons_of_mem _ q)
      · exact .inr fun g hg hm => q g (by simp [hg]) hm
  | skip ho hw hd _ ih => exact fun B H => .skip ho hw hd (ih B fun k hk => (H k hk).imp_right fun q g hg hm => q g (by simp [hg]) hm)
  | wr hf ho hw hd hm hB _ ih =>
    exact fun B H => .wr hf ho hw hd hm (fun v h' hR k hk => (H k hk).elim (fun q => hB v h' hR k q) fun q => .inr (q _ (by simp) (Fl.w_m hf).1)) fun v h' hR => ih v h' hR B fun k hk => (H k hk).imp_right fun q g hg hm => q g (by simp [hg]) hm
  | wr2 hf hp hg ho hw hd hm hB _ ho2 hw2 hd2 hm2 hB2 _ ih ih2 =>
    refine fun B H => .wr2 hf hp hg ho hw hd hm (fun v h' hR k hk => (H k hk).elim (fun q => hB v h' hR k q) fun q => .inr (q _ (by simp) hf)) (fun v h' hR => ih v h' hR B fun k hk => (H k hk).imp_right fun q g hg hm => q g (by simp at hg ⊢; exact .inr hg) hm)
      ho2 hw2 hd2 hm2 (fun v h' hR k hk => (H k hk).elim (fun q => hB2 v h' hR k q) fun q => .inr (q _ (by simp) (Fl.w_m hg).1)) (fun v h' hR => ih2 v h' hR B fun k hk => (H k hk).imp_right fun q g hg' hm => ?_)
    rcases List.mem_cons.1 hg' with rfl | hg'
    · have q2 := q _ List.mem_cons_self hf
      exact q2
    · exact q g (by simp [hg']) hm
  | wrq hf hp hgm hgt hna ho hw hd hm hB _ ho2 hw2 hd2 hq2 _ ih ih2 =>
    refine fun B H => .wrq hf hp hgm hgt hna ho hw hd hm (fun v h' hR k hk => (H k hk).elim (fun q => hB v h' hR k q) fun q => .inr (q _ (by simp) hf)) (fun v h' hR => ih v h' hR B fun k hk => (H k hk).imp_right fun q g hg hm => q g (by simp at hg ⊢; exact .inr hg) hm)
      ho2 hw2 hd2 hq2 (ih2 B fun k hk => (H k hk).imp_right fun q g hg' hm => ?_)
    rcases List.mem_cons.1 hg' with rfl | hg'
    · have q2 := q _ List.mem_cons_self hf
      exact q2
    · exact q g (by simp [hg']) hm

def EL (l : List Oper) (e0 : Env) : List (Fl × A) → Env
  | [] => e0
  | x :: ps => putE ((l[x.1.i]?).bind (·.dst)) x.2 (EL l e0 ps)

theorem lk_EL_filter {l : List Oper} {e0 : Env} {p : Fl × A → Bool} {t : Nat} : ∀ {ps : List (Fl × A)}, (∀ x ∈ ps, (l[x.1.i]?).bind (·.dst) = some t → p x = true) → lk (EL l e0 (ps.filter p)) t = lk (EL l e0 ps) t
  | [], _ => rfl
  | x :: ps, H => by
    have ih := lk_EL_filter (e0 := e0) (p := p) (t := t) (ps := ps) fun y hy => H y (by simp [hy])
    cases hp : p x with
    | true =>
      rw [List.filter_cons_of_pos hp]
      simp only [EL]
      by_cases hd : (l[x.1.i]?).bind (·.dst) = some t
      · rw [hd, lk_putE_same, lk_putE_same]
      · rw [lk_putE_ne _ _ hd, lk_putE_ne _ _ hd]; exact ih
    | false =>
      rw [List.filter_cons_of_neg (by simp [hp])]
      have hd : (l[x.1.i]?).bind (·.dst) ≠ some t := fun hd => by rw [H x (by simp) hd] at hp; cases hp
      simp only [EL]
      rw [lk_putE_ne _ _ hd]; exact ih
theorem lk_EL_skip {l : List Oper} {e0 : Env} {t : Nat} {p1 : List (Fl × A)} : ∀ {p2 : List (Fl × A)}, (∀ x ∈ p2, (l[x.1.i]?).bind (·.dst) ≠ some t) → lk (EL l e0 (p2 ++ p1)) t = lk (EL l e0 p1) t
  | [], _ => rfl
  | x :: p2, H => by
    simp only [List.cons_append, EL]
    rw [lk_putE_ne _ _ (H x (by simp))]
    exact lk_EL_skip fun y hy => H y (by simp [hy])

/-- What is known of an operation that the walk has passed and that may still be to come. -/
def Good (C : Cx) (n : Nat) (l : List Oper) (fs : List Fl) (B : List (Nat × Blk)) (h : Heap) (f : Fl) (o : Oper) (e : Env) (v : A) : Prop :=
  dOk n o.dst = true ∧ ((wantE l e o = some false ∧ v = .raw undef) ∨ (wantE l e o = some true ∧
    ((∀ h', Quiet C.P o e h' v) ∨ (∃ k, (f.i, k) ∈ B ∧ ∀ h', k ∈ h' → Quiet C.P o e h' v) ∨ (Quiet C.P o e h v ∧ ∀ g ∈ fs, g.m = true → f.i ∈ (ancAll l).getD g.i []))))

section
variable {C : Cx} {n : Nat} {l : List Oper} {e0 : Env} {Q : Exit → Env → Heap → Prop}

structure Inv (C : Cx) (n : Nat) (l : List Oper) (e0 : Env) (Q : Exit → Env → Heap → Prop) (L : Nat → Bool) (ps : List (Fl × A)) (fs : List Fl) (B : List (Nat × Blk)) (h : Heap) (a : Act) (w : World) : Prop where
  sub : ∀ i, i < l.length → L i = true → ∃ x ∈ ps, x.1.i = i
  all : ∀ i, i < l.length → (∃ x ∈ ps, x.1.i = i) ∨ ∃ g ∈ fs, g.i = i
  walk : Lx C n l Q fs B (EL l e0 ps) h
  chk : flGo l (ancAll l) (ps.map (·.1.i)) fs = true
  nodup : (ps.map (·.1.i)).Nodup
  pre : ∀ p2 x p1, ps = p2 ++ x :: p1 → ∃ o, l[x.1.i]? = some o ∧ ∀ e ∈ o.after, Region.binds .any e = true → e.on ∈ p1.map (·.1.i)
  good : ∀ p2 x p1, ps = p2 ++ x :: p1 → L x.1.i = false → ∃ o, l[x.1.i]? = some o ∧ Good C n l fs B h x.1 o (EL l e0 p1) x.2
  bs : ∀ k ∈ B, k.2 ∈ h ∨ L k.1 = true
  conc : Conc C n (EL l e0 (ps.filter fun x => L x.1.i)) h a w

/-- The slots of an operation that comes up hold what they hold in the walk. -/
theorem slot_same (hdet : detOk l = true) {L : Nat → Bool} (hpc : ∀ i o, l[i]? = some o → L i = true → ∀ e ∈ o.after, Region.binds .any e = true → L e.on = true) {ps p2 p1 : List (Fl × A)} {i : Nat} {o : Oper}
    (ho : l[i]? = some o) (hL : L i = false) (hready : ∀ e ∈ o.after, Region.binds .any e = true → L e.on = true) (hsplit : ps = p2 ++ p1) (hnd : (ps.map (·.1.i)).Nodup)
    (hpre1 : ∀ e ∈ o.after, Region.binds .any e = true → e.on ∈ p1.map (·.1.i)) (hpre : ∀ q2 x q1, ps = q2 ++ x :: q1 → ∃ o, l[x.1.i]? = some o ∧ ∀ e ∈ o.after, Region.binds .any e = true → e.on ∈ q1.map (·.1.i))
    (hnot : ∀ x ∈ p1, x.1.i ≠ i) {t : Nat} (ht : t ∈ slotsOf l o) (hself : ∀ x ∈ p2, x.1.i = i → L x.1.i = false) :
    (∀ x ∈ p2.filter (fun x => L x.1.i), (l[x.1.i]?).bind (·.dst) ≠ some t) ∧ (∀ x ∈ p1, (l[x.1.i]?).bind (·.dst) = some t → L x.1.i = true) := by
  have hone := detOk_one hdet ho
  refine ⟨fun x hx hd => ?_, fun x hx hd => ?_⟩
  · obtain ⟨hx2, hLx⟩ := List.mem_filter.1 hx
    have hne : x.1.i ≠ i := fun q => by rw [hself x hx2 q] at hLx; cases hLx
    obtain ⟨oj, hoj, hp⟩ := det_pair hone hd ht hne
    by_cases hlt : x.1.i < i
    · rw [if_pos hlt] at hp
      obtain ⟨e, he, hb, hon⟩ := pre_spec hp
      have := hpre1 e he hb
      rw [hon] at this
      rw [hsplit, List.map_append] at hnd
      exact (List.nodup_append.1 hnd).2.2 _ (List.mem_map_of_mem hx2) _ this rfl
    · rw [if_neg hlt] at hp
      obtain ⟨e, he, hb, hon⟩ := pre_spec hp
      have := hpc _ oj hoj hLx e he hb
      rw [hon, hL] at this; cases this
  · have hne : x.1.i ≠ i := hnot x hx
    obtain ⟨oj, hoj, hp⟩ := det_pair hone hd ht hne
    by_cases hlt : x.1.i < i
    · rw [if_pos hlt] at hp
      obtain ⟨e, he, hb, hon⟩ := pre_spec hp
      have := hready e he hb
      rw [hon] at this; exact this
    · exfalso
      rw [if_neg hlt] at hp
      obtain ⟨e, he, hb, hon⟩ := pre_spec hp
      obtain ⟨r2, r1, hr⟩ := List.append_of_mem hx
      obtain ⟨o', ho', hpo⟩ := hpre (p2 ++ r2) x r1 (by rw [hsplit, hr]; simp)
      rw [hoj] at ho'
      simp only [Option.some.injEq] at ho'
      subst ho'
      have := hpo e he hb
      rw [hon] at this
      obtain ⟨y, hy, hyi⟩ := List.mem_map.1 this
      exact hnot y (by rw [hr]; simp [hy]) hyi


theorem inv_pass (hdet : detOk l = true) {L : Nat → Bool} {ps : List (Fl × A)} {f : Fl} {fs : List Fl} {B B' : List (Nat × Blk)} {h : Heap} {a : Act} {w : World} {o : Oper} {v : A} (I : Inv C n l e0 Q L ps (f :: fs) B h a w) (ho : l[f.i]? = some o)
    (hL : L f.i = false) (hg : Good C n l fs B' h f o (EL l e0 ps) v) (hB : ∀ k ∈ B, k ∈ B') (hB' : ∀ k ∈ B', k.2 ∈ h ∨ L k.1 = true) (t : Lx C n l Q fs B' (putE o.dst v (EL l e0 ps)) h) : Inv C n l e0 Q L ((f, v) :: ps) fs B' h a w := by
  have hchk := I.chk
  simp only [flGo, ho, Bool.and_eq_true] at hchk
  refine ⟨fun i hi hLi => ?_, fun i hi => ?_, ?_, ?_, ?_, fun p2 x p1 hs => ?_, fun p2 x p1 hs hx => ?_, hB', ?_⟩
  · obtain ⟨x, hx, hxi⟩ := I.sub i hi hLi
    exact ⟨x, by simp [hx], hxi⟩
  · rcases I.all i hi with ⟨x, hx, hxi⟩ | ⟨g, hg', hgi⟩
    · exact .inl ⟨x, by simp [hx], hxi⟩
    · rcases List.mem_cons.1 hg' with rfl | hg'
      · exact .inl ⟨(g, v), by simp, hgi⟩
      · exact .inr ⟨g, hg', hgi⟩
  · simp only [EL, ho, Option.bind_some]; exact t
  · simpa using hchk.2
  · simp only [List.map_cons, List.nodup_cons]
    refine ⟨fun hm => ?_, I.nodup⟩
    have := hchk.1.1.1.2
    simp only [Bool.not_eq_true', List.contains_eq_mem, decide_eq_false_iff_not] at this
    exact this hm
  · rcases List.cons_eq_append_iff.1 hs with ⟨rfl, h2⟩ | ⟨p2', rfl, h2⟩
    · simp only [List.cons.injEq] at h2
      obtain ⟨rfl, rfl⟩ := h2
      refine ⟨o, ho, fun e he hb => ?_⟩
      have := List.all_eq_true.1 hchk.1.1.1.1 e (by simpa using he)
      simpa [hb] using this
    · exact I.pre p2' x p1 h2
  · rcases List.cons_eq_append_iff.1 hs with ⟨rfl, h2⟩ | ⟨p2', rfl, h2⟩
    · simp only [List.cons.injEq] at h2
      obtain ⟨rfl, rfl⟩ := h2
      exact ⟨o, ho, hg⟩
    · obtain ⟨o', ho', hd, hgd⟩ := I.good p2' x p1 h2 hx
      refine ⟨o', ho', hd, ?_⟩
      rcases hgd with hgd | ⟨hw, hgd⟩
      · exact .inl hgd
      · refine .inr ⟨hw, ?_⟩
        rcases hgd with q | ⟨k, hk, q⟩ | ⟨q1, q2⟩
        · exact .inl q
        · exact .inr (.inl ⟨k, hB _ hk, q⟩)
        · exact .inr (.inr ⟨q1, fun g hg hm => q2 g (by simp [hg]) hm⟩)
  · have : (List.filter (fun x : Fl × A => L x.1.i) ((f, v) :: ps)) = ps.filter (fun x => L x.1.i) := by simp [hL]
    rw [this]; exact I.conc

theorem evO_same {e e' : Env} {l : List Oper} {o : Oper} (hs : ∀ t ∈ slotsOf l o, lk e' t = lk e t) {x : Operand} (hx : x ∈ o.op.operands) {v : A} (hv : evO e x = some v) : evO e' x = some v := by
  cases x with
  | tmp t =>
    have ht : t ∈ slotsOf l o := by
      unfold slotsOf tmpsOf
      simp only [List.mem_append, List.mem_filterMap]
      exact .inl (.inl ⟨.tmp t, by simpa using hx, rfl⟩)
    simp only [evO] at hv ⊢
    rw [hs t ht]; exact hv
  | _ => exact hv

theorem opn_main {fl : List Fl} {Q' : Exit → Act → World → Prop} (hok : openOk l fl = true) (hQ : ∀ e h a w, Conc C n e h a w → Q .normal e h → Q' .normal a w) :
    ∀ (fuel : Nat) (listed : Array Bool) (a : Act) (w : World) (ps : List (Fl × A)) (fs : List Fl) (B : List (Nat × Blk)) (h : Heap), listed.size = l.length → listed.toList.count false ≤ fuel →
      (∀ i o, l[i]? = some o → Lf listed i = true → ∀ e ∈ o.after, Region.binds .any e = true → Lf listed e.on = true) →
      Inv C n l e0 Q (Lf listed) ps fs B h a w → wpAny C.P .any l.toArray Q' fuel listed a w := by
  have hdet : detOk l = true := by simp only [openOk, Bool.and_eq_true] at hok; exact hok.1.1
  have done : ∀ (listed : Array Bool) (a : Act) (w : World) (ps : List (Fl × A)) (fs : List Fl) (B : List (Nat × Blk)) (h : Heap), (∀ j, j < l.length → Lf listed j = true) → Inv C n l e0 Q (Lf listed) ps fs B h a w → Q' .normal a w := by
    intro listed a w ps fs B h hall I
    have hfs : fs = [] := by
      cases fs with
      | nil => rfl
      | cons f fs =>
        exfalso
        have hchk := I.chk
        simp only [flGo, Bool.and_eq_true] at hchk
        cases ho : l[f.i]? with
        | none => rw [ho] at hchk; simp at hchk
        | some o =>
          have hi := (List.getElem?_eq_some_iff.1 ho).1
          obtain ⟨x, hx, hxi⟩ := I.sub f.i hi (hall f.i hi)
          have := hchk.1.1.1.2
          simp only [Bool.not_eq_true', List.contains_eq_mem, decide_eq_false_iff_not] at this
          exact this (hxi ▸ List.mem_map_of_mem hx)
    subst hfs
    have hf : ps.filter (fun x => Lf listed x.1.i) = ps := by
      rw [List.filter_eq_self]
      intro x hx
      obtain ⟨p2, p1, hs⟩ := List.append_of_mem hx
      obtain ⟨o, ho, _⟩ := I.pre p2 x p1 hs
      exact hall _ (List.getElem?_eq_some_iff.1 ho).1
    have hc := I.conc
    rw [hf] at hc
    have hw := I.walk
    cases hw with
    | nil hs hq => exact hQ _ _ _ _ (hc.sub hs) hq
  intro fuel
  induction fuel with
  | zero =>
    intro listed a w ps fs B h hs hcnt hpc I
    have hall : ∀ j, j < l.length → Lf listed j = true := by
      intro j hj
      have h0 : listed.toList.count false = 0 := by omega
      rw [List.count_eq_zero] at h0
      have hjs : j < listed.size := by omega
      unfold Lf
      rw [Array.getD_eq_getD_getElem?, Array.getElem?_eq_getElem hjs]
      simp only [Option.getD_some]
      cases hb : listed[j] with
      | true => rfl
      | false => exact absurd (by rw [← hb]; simp) h0
    refine ⟨?_, done listed a w ps fs B h hall I⟩
    apply List.eq_nil_iff_forall_not_mem.2
    intro j hj
    obtain ⟨h1, o, ho, _⟩ := mem_ready.1 hj
    have hjl : j < l.length := by
      have := (Array.getElem?_eq_some_iff.1 ho).1; simpa using this
    have := hall j hjl
    unfold Lf at this
    rw [this] at h1; cases h1
  | succ fuel ih =>
    intro listed a w ps fs B h hs hcnt hpc I
    have getDf : ∀ j, j < l.length → listed.getD j false = Lf listed j := fun j hj => by
      have hjs : j < listed.size := by omega
      unfold Lf
      rw [Array.getD_eq_getD_getElem?, Array.getD_eq_getD_getElem?, Array.getElem?_eq_getElem hjs]; rfl
    refine ⟨fun hnil => ?_, fun i hi => ?_⟩
    · refine done listed a w ps fs B h ?_ I
      intro j
      induction j using Nat.strongRecOn with
      | _ j jh =>
        intro hj
        cases hb : Lf listed j with
        | true => rfl
        | false =>
          exfalso
          have ho : l[j]? = some l[j] := List.getElem?_eq_getElem hj
          have : j ∈ Region.ready .any l.toArray listed := by
            rw [mem_ready]
            refine ⟨hb, l[j], by simp [ho], fun e he hbd => ?_⟩
            have hlt := det_edge (detOk_one hdet ho) he hbd
            rw [getDf _ (by omega)]
            exact jh e.on hlt (by omega)
          rw [hnil] at this; cases this
    · obtain ⟨hun, o, ho', hready0⟩ := mem_ready.1 hi
      have ho : l[i]? = some o := by simpa using ho'
      have hil : i < l.length := (List.getElem?_eq_some_iff.1 ho).1
      have hone := detOk_one hdet ho
      have hLi : Lf listed i = false := hun
      have hready : ∀ e ∈ o.after, Region.binds .any e = true → Lf listed e.on = true := fun e he hb => by
        have := det_edge hone he hb
        rw [← getDf _ (by omega)]; exact hready0 e he hb
      have his : i < listed.size := by omega
      have Lset : ∀ j, j ≠ i → Lf (listed.setIfInBounds i true) j = Lf listed j := fun j hj => by
        unfold Lf; exact getD_set_ne true (Ne.symm hj)
      have Lset' : Lf (listed.setIfInBounds i true) i = true := by
        unfold Lf; rw [Array.getD_eq_getD_getElem?]; simp [his]
      have hcnt' : (listed.setIfInBounds i true).toList.count false ≤ fuel := by
        have hfalse : listed.toList[i]'(by simpa using his) = false := by
          unfold Lf at hLi
          rw [Array.getD_eq_getD_getElem?, Array.getElem?_eq_getElem his] at hLi
          simpa using hLi
        have hmem : 0 < listed.toList.count false := List.count_pos_iff.2 (by rw [← hfalse]; exact List.getElem_mem _)
        rw [Array.toList_setIfInBounds, List.count_set (h := by simpa using his)]
        have e1 : ((true : Bool) == false) = false := rfl
        simp only [hfalse, e1, BEq.rfl, if_true, Bool.false_eq_true, if_false]
        omega
      have hpc' : ∀ j oj, l[j]? = some oj → Lf (listed.setIfInBounds i true) j = true → ∀ e ∈ oj.after, Region.binds .any e = true → Lf (listed.setIfInBounds i true) e.on = true := by
        intro j oj hoj hLj e he hb
        have : Lf listed e.on = true := by
          by_cases hji : j = i
          · subst hji
            rw [ho] at hoj
            simp only [Option.some.injEq] at hoj
            subst hoj
            exact hready e he hb
          · rw [Lset j hji] at hLj
            exact hpc j oj hoj hLj e he hb
        by_cases hei : e.on = i
        · rw [hei]; exact Lset'
        · rw [Lset _ hei]; exact this
      -- an operation that comes up and that the walk has passed, at the split p2 ++ (f, v) :: p1
      have fire : ∀ (ps : List (Fl × A)) (fs : List Fl) (B : List (Nat × Blk)) (h : Heap), Inv C n l e0 Q (Lf listed) ps fs B h a w → (∃ x ∈ ps, x.1.i = i) → wpOp C.P l.toArray Q' i (wpAny C.P .any l.toArray Q' fuel (listed.setIfInBounds i true)) a w := by
        intro ps fs B h I ⟨x, hx, hxi⟩
        obtain ⟨p2, p1, hsp⟩ := List.append_of_mem hx
        obtain ⟨ox, hox, hg⟩ := I.good p2 x p1 hsp (by rw [hxi]; exact hLi)
        rw [hxi, ho] at hox
        simp only [Option.some.injEq] at hox
        subst hox
        obtain ⟨f, v⟩ := x
        simp only at hxi
        subst hxi
        obtain ⟨op, hop, hpre1⟩ := I.pre p2 (f, v) p1 hsp
        simp only at hop
        rw [ho] at hop
        simp only [Option.some.injEq] at hop
        subst hop
        have hnd := I.nodup
        rw [hsp, List.map_append, List.map_cons] at hnd
        have hnd1 : ∀ y ∈ p1, y.1.i ≠ f.i := fun y hy hyi => by
          have := (List.nodup_cons.1 (List.nodup_append.1 hnd).2.1).1
          exact this (hyi ▸ List.mem_map_of_mem hy)
        have hnd2 : ∀ y ∈ p2, y.1.i ≠ f.i := fun y hy hyi => (List.nodup_append.1 hnd).2.2 _ (List.mem_map_of_mem hy) f.i (by simp) hyi
        have split : ∀ t ∈ slotsOf l o, _ := fun t ht => slot_same hdet hpc ho hLi hready (ps := ps) (p2 := p2 ++ [(f, v)]) (p1 := p1) (by rw [hsp]; simp) I.nodup hpre1 I.pre hnd1 ht (fun y hy hyi => by
          rcases List.mem_append.1 hy with hy | hy
          · exact absurd hyi (hnd2 y hy)
          · simp only [List.mem_singleton] at hy; subst hy; exact hLi)
        have hfil : ps.filter (fun x => Lf listed x.1.i) = p2.filter (fun x => Lf listed x.1.i) ++ p1.filter (fun x => Lf listed x.1.i) := by
          rw [hsp, List.filter_append, List.filter_cons_of_neg (by simp [hLi])]
        have same : ∀ t ∈ slotsOf l o, lk (EL l e0 (ps.filter fun x => Lf listed x.1.i)) t = lk (EL l e0 p1) t := by
          intro t ht
          obtain ⟨s1, s2⟩ := split t ht
          rw [List.filter_append, List.filter_cons_of_neg (by simp [hLi]), List.filter_nil, List.append_nil] at s1
          rw [hfil, lk_EL_skip s1, lk_EL_filter s2]
        have hops : ∀ x ∈ o.op.operands, ∀ u, evO (EL l e0 p1) x = some u → Rel (Im w h) w u (a.eval x) := fun x hx u hu =>
          I.conc.env.ev (evO_same same hx hu)
        have hwant : ∀ b, wantE l (EL l e0 p1) o = some b → Region.wanted o (yielded l.toArray a.tmps) = b := fun b hb =>
          want_of (a := a) (h := h) (w := w) (fun j want d hg hd u hu => by
            have ht : d ∈ slotsOf l o := by
              unfold slotsOf guardSlot
              rw [hg]
              simp only [List.mem_append, hd, Option.toList_some, List.mem_singleton]
              exact .inl (.inr trivial)
            exact I.conc.env d u (by rw [same d ht]; exact hu)) hb
        have next : ∀ u w', Chg h h w w' → Rel (Im w' h) w' v u → wpAny C.P .any l.toArray Q' fuel (listed.setIfInBounds f.i true) (a.put o.dst u) w' := by
          intro u w' hx hr
          refine ih _ _ _ ps fs B h (by simpa using hs) hcnt' hpc' ⟨fun j hj hLj => ?_, I.all, I.walk, I.chk, I.nodup, I.pre, fun q2 x q1 hq hLx => ?_, fun k hk => ?_, ?_⟩
          · by_cases hji : j = f.i
            · subst hji; exact ⟨(f, v), by rw [hsp]; simp, rfl⟩
            · rw [Lset j hji] at hLj; exact I.sub j hj hLj
          · have hxi : x.1.i ≠ f.i := fun q => by rw [q, Lset'] at hLx; cases hLx
            rw [Lset _ hxi] at hLx
            exact I.good q2 x q1 hq hLx
          · rcases I.bs k hk with q | q
            · exact .inl q
            · refine .inr ?_
              by_cases hki : k.1 = f.i
              · rw [hki]; exact Lset'
              · rw [Lset _ hki]; exact q
          · have hc' := I.conc.put hx hg.1 hr
            refine hc'.sub fun t y hy => ?_
            rw [← hy]
            have hfil' : ps.filter (fun x => Lf (listed.setIfInBounds f.i true) x.1.i) = p2.filter (fun x => Lf listed x.1.i) ++ (f, v) :: p1.filter (fun x => Lf listed x.1.i) := by
              rw [hsp, List.filter_append, List.filter_cons_of_pos (by simpa using Lset')]
              congr 1
              · apply List.filter_congr; intro y hy; exact Lset _ (hnd2 y hy)
              · congr 1; apply List.filter_congr; intro y hy; exact Lset _ (hnd1 y hy)
            rw [hfil']
            by_cases hdt : o.dst = some t
            · have ht : t ∈ slotsOf l o := by unfold slotsOf; simp [hdt]
              obtain ⟨s1, s2⟩ := split t ht
              rw [List.filter_append, List.filter_cons_of_neg (by simp [hLi]), List.filter_nil, List.append_nil] at s1
              rw [lk_EL_skip s1, hdt, lk_putE_same]
              simp only [EL, ho, Option.bind_some, hdt, lk_putE_same]
            · rw [lk_putE_ne _ _ hdt, hfil]
              have drop1 : ∀ (p2 p1 : List (Fl × A)), lk (EL l e0 (p2 ++ (f, v) :: p1)) t = lk (EL l e0 (p2 ++ p1)) t := by
                intro p2 p1
                induction p2 with
                | nil => simp only [List.nil_append, EL, ho, Option.bind_some]; rw [lk_putE_ne _ _ hdt]
                | cons z p2 ih =>
                  simp only [List.cons_append, EL]
                  by_cases hz : (l[z.1.i]?).bind (·.dst) = some t
                  · rw [hz, lk_putE_same, lk_putE_same]
                  · rw [lk_putE_ne _ _ hz, lk_putE_ne _ _ hz]; exact ih
              exact (drop1 _ _).symm
        unfold wpOp
        simp only [ho']
        obtain ⟨hd, hgd⟩ := hg
        rcases hgd with ⟨hw1, hv⟩ | ⟨hw1, hgd⟩
        · rw [if_neg (by rw [hwant _ hw1]; simp)]
          exact next undef w (Chg.refl I.conc.heap) (by simp only at hv; rw [hv]; exact .raw _)
        · rw [if_pos (hwant _ hw1)]
          have hq : Quiet C.P o (EL l e0 p1) h v := by
            rcases hgd with q | ⟨k, hk, q⟩ | ⟨q, _⟩
            · exact q h
            · exact q h ((I.bs _ hk).resolve_right (by rw [hLi]; simp))
            · exact q
          exact .inl ((hq a w ⟨hops, I.conc.heap⟩).wp fun u w' hR => next u w' hR.1 hR.2)
      have noAnc : ∀ fi, Lf listed fi = false → ∀ gi, gi = i → hasAnc (ancAll l) fi gi = true → False := by
        intro fi hfL gi hgi this
        simp only [hasAnc, List.contains_eq_mem, decide_eq_true_eq] at this
        rw [hgi] at this
        obtain ⟨e, h1, h2, h3⟩ := anc_at hdet ho this
        have hLe := hready e h1 h2
        have hLf : Lf listed fi = true := by
          rcases h3 with h3 | h3
          · rw [h3]; exact hLe
          · have hel := det_edge hone h1 h2
            have hclo := anc_listed hdet (L := fun j => Lf listed j && decide (j < l.length)) (fun j oj hoj hLj e' he' hb' => by
              simp only [Bool.and_eq_true, decide_eq_true_eq] at hLj ⊢
              have := det_edge (detOk_one hdet hoj) he' hb'
              exact ⟨hpc j oj hoj hLj.1 e' he' hb', by omega⟩) (fun j hj => by simp only [Bool.and_eq_true, decide_eq_true_eq] at hj; exact hj.2) e.on fi (by simp [hLe]; omega) h3
            simp only [Bool.and_eq_true] at hclo
            exact hclo.1
        rw [hfL] at hLf; cases hLf
      have fireW : ∀ (f : Fl) (fs0 fs' : List Fl) (ps : List (Fl × A)) (B : List (Nat × Blk)) (h : Heap) (R : A → Heap → Prop), Inv C n l e0 Q (Lf listed) ps fs0 B h a w → f.i = i → f ∈ fs0 → f.m = true → (∀ x ∈ ps, x.1.i ≠ f.i) →
          wantE l (EL l e0 ps) o = some true → dOk n o.dst = true → MStep C.P o (EL l e0 ps) h R → (∀ v h', R v h' → ∀ k ∈ B, k.2 ∈ h' ∨ hasAnc (ancAll l) k.1 f.i = true) → (∀ v h', R v h' → Lx C n l Q fs' B (putE o.dst v (EL l e0 ps)) h') →
          (∀ e ∈ o.after, Region.binds .any e = true → e.on ∈ ps.map (·.1.i)) → (∀ j, j < l.length → (∃ x ∈ ps, x.1.i = j) ∨ j = f.i ∨ ∃ g ∈ fs', g.i = j) → flGo l (ancAll l) (f.i :: ps.map (·.1.i)) fs' = true →
          wpOp C.P l.toArray Q' i (wpAny C.P .any l.toArray Q' fuel (listed.setIfInBounds i true)) a w := by
              intro f fs0 fs' ps B h R I hfi hmem0 hfm hfnot hw2 hd2 hm2 hB2 t2 hpre1 hall2 hchk2
              subst hfi
              have split : ∀ t ∈ slotsOf l o, _ := fun t ht => slot_same hdet hpc ho hLi hready (ps := ps) (p2 := []) (p1 := ps) (by simp) I.nodup hpre1 I.pre hfnot ht (fun y hy => by cases hy)
              have same : ∀ t ∈ slotsOf l o, lk (EL l e0 (ps.filter fun x => Lf listed x.1.i)) t = lk (EL l e0 ps) t := fun t ht => lk_EL_filter (split t ht).2
              have hops : ∀ x ∈ o.op.operands, ∀ u, evO (EL l e0 ps) x = some u → Rel (Im w h) w u (a.eval x) := fun x hx u hu => I.conc.env.ev (evO_same same hx hu)
              have hwant : Region.wanted o (yielded l.toArray a.tmps) = true :=
                want_of (a := a) (h := h) (w := w) (fun j want d hg hd u hu => by
                  have ht : d ∈ slotsOf l o := by
                    unfold slotsOf guardSlot
                    rw [hg]
                    simp only [List.mem_append, hd, Option.toList_some, List.mem_singleton]
                    exact .inl (.inr trivial)
                  exact I.conc.env d u (by rw [same d ht]; exact hu)) hw2
              unfold wpOp
              simp only [ho']
              rw [if_pos hwant]
              refine .inl ((hm2 a w ⟨hops, I.conc.heap⟩).wp fun u w' ⟨v, h', hR, hx, hr⟩ => ?_)
              have hmem : ∀ y ∈ ps, y.1.i ≠ f.i := hfnot
              refine ih _ _ _ ((f, v) :: ps) fs' B h' (by simpa using hs) hcnt' hpc' ⟨fun j hj hLj => ?_, fun j hj => ?_, ?_, ?_, ?_, fun q2 x q1 hq => ?_, fun q2 x q1 hq hLx => ?_, fun k hk => ?_, ?_⟩
              · by_cases hji : j = f.i
                · subst hji; exact ⟨(f, v), by simp, rfl⟩
                · rw [Lset j hji] at hLj
                  obtain ⟨x, hx, hxi⟩ := I.sub j hj hLj
                  exact ⟨x, by simp [hx], hxi⟩
              · rcases hall2 j hj with ⟨x, hx, hxi⟩ | hgi | ⟨g, hg', hgi⟩
                · exact .inl ⟨x, by simp [hx], hxi⟩
                · exact .inl ⟨(f, v), by simp, hgi.symm⟩
                · exact .inr ⟨g, hg', hgi⟩
              · simp only [EL, ho, Option.bind_some]; exact t2 v h' hR
              · simpa using hchk2
              · simp only [List.map_cons, List.nodup_cons]
                refine ⟨fun hm => ?_, I.nodup⟩
                obtain ⟨y, hy, hyi⟩ := List.mem_map.1 hm
                exact hfnot y hy hyi
              · rcases List.cons_eq_append_iff.1 hq with ⟨rfl, h2⟩ | ⟨q2', rfl, h2⟩
                · simp only [List.cons.injEq] at h2
                  obtain ⟨rfl, rfl⟩ := h2
                  exact ⟨o, ho, hpre1⟩
                · exact I.pre q2' x q1 h2
              · rcases List.cons_eq_append_iff.1 hq with ⟨rfl, h2⟩ | ⟨q2', rfl, h2⟩
                · simp only [List.cons.injEq] at h2
                  obtain ⟨rfl, rfl⟩ := h2
                  rw [Lset'] at hLx; cases hLx
                · have hxi : x.1.i ≠ f.i := hfnot x (by rw [h2]; simp)
                  rw [Lset _ hxi] at hLx
                  obtain ⟨o', ho2, hd', hgd⟩ := I.good q2' x q1 h2 hLx
                  refine ⟨o', ho2, hd', ?_⟩
                  rcases hgd with hgd | ⟨hw', hgd⟩
                  · exact .inl hgd
                  · refine .inr ⟨hw', ?_⟩
                    rcases hgd with q | ⟨k, hk, q⟩ | ⟨q1, q3⟩
                    · exact .inl q
                    · exact .inr (.inl ⟨k, hk, q⟩)
                    · exfalso
                      have han := q3 f hmem0 hfm
                      obtain ⟨e, h1, h2', h3⟩ := anc_at hdet ho han
                      have hLe := hready e h1 h2'
                      have hel := det_edge hone h1 h2'
                      have hLx' : Lf listed x.1.i = true := by
                        rcases h3 with h3 | h3
                        · rw [h3]; exact hLe
                        · have hclo := anc_listed hdet (L := fun j => Lf listed j && decide (j < l.length)) (fun j oj hoj hLj e' he' hb' => by
                            simp only [Bool.and_eq_true, decide_eq_true_eq] at hLj ⊢
                            have := det_edge (detOk_one hdet hoj) he' hb'
                            exact ⟨hpc j oj hoj hLj.1 e' he' hb', by omega⟩) (fun j hj => by simp only [Bool.and_eq_true, decide_eq_true_eq] at hj; exact hj.2) e.on x.1.i (by simp [hLe]; omega) h3
                          simp only [Bool.and_eq_true] at hclo
                          exact hclo.1
                      rw [hLx] at hLx'; cases hLx'
              · rcases hB2 v h' hR k hk with q | q
                · exact .inl q
                · refine .inr ?_
                  cases hkl : Lf listed k.1 with
                  | false => exact (noAnc _ hkl _ rfl q).elim
                  | true =>
                    by_cases hki : k.1 = f.i
                    · rw [hki]; exact Lset'
                    · rw [Lset _ hki]; exact hkl
              · have hc' := I.conc.putM hx hd2 hr
                refine hc'.sub fun t y hy => ?_
                rw [← hy]
                have hfil' : List.filter (fun x : Fl × A => Lf (listed.setIfInBounds f.i true) x.1.i) ((f, v) :: ps) = (f, v) :: ps.filter (fun x => Lf listed x.1.i) := by
                  rw [List.filter_cons_of_pos (by simpa using Lset')]
                  congr 1; apply List.filter_congr; intro y hy; exact Lset _ (hfnot y hy)
                rw [hfil']
                simp only [EL, ho, Option.bind_some]
      -- go on with the walk till it has passed i, or fire the writing operation
      have adv : ∀ (fs : List Fl) (ps : List (Fl × A)) (B : List (Nat × Blk)) (h : Heap), Inv C n l e0 Q (Lf listed) ps fs B h a w → wpOp C.P l.toArray Q' i (wpAny C.P .any l.toArray Q' fuel (listed.setIfInBounds i true)) a w := by
        refine len_ind fun fs ihL => ?_
        cases fs with
        | nil =>
          intro ps B h I
          rcases I.all i hil with hp | ⟨g, hg, _⟩
          · exact fire ps [] B h I hp
          · cases hg
        | cons f fs =>
          have ihf := ihL fs (by simp only [List.length_cons]; omega)
          intro ps B h I
          by_cases hp : ∃ x ∈ ps, x.1.i = i
          · exact fire ps (f :: fs) B h I hp
          have hchk := I.chk
          simp only [flGo, Bool.and_eq_true] at hchk
          cases hof : l[f.i]? with
          | none => rw [hof] at hchk; simp at hchk
          | some of =>
            have hfl : f.i < l.length := (List.getElem?_eq_some_iff.1 hof).1
            have hfnot : ∀ x ∈ ps, x.1.i ≠ f.i := fun x hx hxi => by
              have := hchk.1.1.1.2
              simp only [Bool.not_eq_true', List.contains_eq_mem, decide_eq_false_iff_not] at this
              exact this (hxi ▸ List.mem_map_of_mem hx)
            have hfL : Lf listed f.i = false := by
              cases hb : Lf listed f.i with
              | false => rfl
              | true => obtain ⟨x, hx, hxi⟩ := I.sub f.i hfl hb; exact absurd hxi (hfnot x hx)
            have hw := I.walk
            cases hw with
            | quiet ho2 hw2 hd2 hq2 t2 =>
              exact ihf _ _ _ (inv_pass hdet I ho2 hfL ⟨hd2, .inr ⟨hw2, .inl hq2⟩⟩ (fun k hk => hk) I.bs t2)
            | tight hf2 ho2 hw2 hd2 hq2 t2 =>
              refine ihf _ _ _ (inv_pass hdet I ho2 hfL ⟨hd2, .inr ⟨hw2, .inr (.inr ⟨hq2, fun g hg hm => ?_⟩)⟩⟩ (fun k hk => hk) I.bs t2)
              have := hchk.1.2
              rw [hf2] at this
              simp only [Bool.not_true, Bool.false_or] at this
              have := List.all_eq_true.1 this g hg
              rw [hm] at this
              simp only [Bool.not_true, Bool.false_or, hasAnc, List.contains_eq_mem, decide_eq_true_eq] at this
              exact this
            | stab k hk ho2 hw2 hd2 hq2 t2 =>
              exact ihf _ _ _ (inv_pass hdet I ho2 hfL ⟨hd2, .inr ⟨hw2, .inr (.inl ⟨k, by simp, hq2⟩)⟩⟩ (fun k hk => List.mem_cons_of_mem _ hk) (fun k' hk' => by
                rcases List.mem_cons.1 hk' with rfl | hk'
                · exact .inl hk
                · exact I.bs k' hk') t2)
            | skip ho2 hw2 hd2 t2 =>
              exact ihf _ _ _ (inv_pass hdet I ho2 hfL ⟨hd2, .inl ⟨hw2, rfl⟩⟩ (fun k hk => hk) I.bs t2)
            | @wr _ _ _ _ _ _ R hf2 ho2 hw2 hd2 hm2 hB2 t2 =>
              obtain ⟨hfm, hfp⟩ := Fl.w_m hf2
              have hfi : f.i = i := by
                rcases I.all i hil with q | ⟨g, hg, hgi⟩
                · exact absurd q hp
                · rcases List.mem_cons.1 hg with rfl | hg
                  · exact hgi
                  · exfalso
                    have := hchk.1.1.2
                    rw [hfm, hfp] at this
                    simp only [Bool.not_true, Bool.false_or, List.drop_zero] at this
                    have := List.all_eq_true.1 this g hg
                    exact noAnc f.i hfL g.i hgi this
              rw [hfi, ho] at ho2
              simp only [Option.some.injEq] at ho2
              subst ho2
              refine fireW f (f :: fs) fs ps B h R I hfi (by simp) hfm hfnot hw2 hd2 hm2 hB2 t2 (fun e he hb => ?_) (fun j hj => ?_) hchk.2
              · have := hchk.1.1.1.1
                rw [hfi, ho] at this
                have := List.all_eq_true.1 this e (by simpa using he)
                simpa [hb] using this
              · rcases I.all j hj with q | ⟨g, hg', hgi⟩
                · exact .inl q
                · rcases List.mem_cons.1 hg' with rfl | hg'
                  · exact .inr (.inl hgi.symm)
                  · exact .inr (.inr ⟨g, hg', hgi⟩)
            | @wr2 _ g fs2 _ _ _ oa ob R R2 hf2 hp2 hg2 ho2 hw2 hd2 hm2 hB2 t2 ho3 hw3 hd3 hm3 hB3 t3 =>
              obtain ⟨hgm, hgp⟩ := Fl.w_m hg2
              have hchkg := hchk.2
              simp only [flGo, Bool.and_eq_true] at hchkg
              have hgnot : ∀ x ∈ ps, x.1.i ≠ g.i := fun x hx hxi => by
                have := hchkg.1.1.1.2
                simp only [Bool.not_eq_true', List.contains_eq_mem, decide_eq_false_iff_not] at this
                exact this (List.mem_cons_of_mem _ (hxi ▸ List.mem_map_of_mem hx))
              have hgL : Lf listed g.i = false := by
                cases hb : Lf listed g.i with
                | false => rfl
                | true =>
                  obtain ⟨x, hx, hxi⟩ := I.sub g.i (List.getElem?_eq_some_iff.1 ho3).1 hb
                  exact absurd hxi (hgnot x hx)
              by_cases hfi : f.i = i
              · rw [hfi, ho] at ho2
                simp only [Option.some.injEq] at ho2
                subst ho2
                refine fireW f (f :: g :: fs2) (g :: fs2) ps B h R I hfi (by simp) hf2 hfnot hw2 hd2 hm2 hB2 t2 (fun e he hb => ?_) (fun j hj => ?_) hchk.2
                · have := hchk.1.1.1.1
                  rw [hfi, ho] at this
                  have := List.all_eq_true.1 this e (by simpa using he)
                  simpa [hb] using this
                · rcases I.all j hj with q | ⟨g', hg', hgi⟩
                  · exact .inl q
                  · rcases List.mem_cons.1 hg' with rfl | hg'
                    · exact .inr (.inl hgi.symm)
                    · exact .inr (.inr ⟨g', hg', hgi⟩)
              · have hgi : g.i = i := by
                  rcases I.all i hil with q | ⟨g', hg', hgi'⟩
                  · exact absurd q hp
                  · rcases List.mem_cons.1 hg' with rfl | hg'
                    · exact absurd hgi' hfi
                    · rcases List.mem_cons.1 hg' with rfl | hg'
                      · exact hgi'
                      · exfalso
                        have := hchkg.1.1.2
                        rw [hgm, hgp] at this
                        simp only [Bool.not_true, Bool.false_or, List.drop_zero] at this
                        have := List.all_eq_true.1 this g' hg'
                        exact noAnc g.i hgL g'.i hgi' this
                rw [hgi, ho] at ho3
                simp only [Option.some.injEq] at ho3
                subst ho3
                have hsw : flGo l (ancAll l) (g.i :: ps.map (·.1.i)) ({ f with p := f.p - 1 } :: fs2) = true := flGo_swap hp2 I.chk
                refine fireW g (f :: g :: fs2) ({ f with p := f.p - 1 } :: fs2) ps B h R2 I hgi (by simp) hgm hgnot hw3 hd3 hm3 hB3 t3 (fun e he hb => ?_) (fun j hj => ?_) hsw
                · have := hchkg.1.1.1.1
                  rw [hgi, ho] at this
                  have := List.all_eq_true.1 this e (by simpa using he)
                  simp only [hb, Bool.not_true, Bool.false_or, List.contains_eq_mem, decide_eq_true_eq] at this
                  rcases List.mem_cons.1 this with this | this
                  · have q := hready e he hb
                    rw [this, hfL] at q; cases q
                  · exact this
                · rcases I.all j hj with q | ⟨g', hg', hgj⟩
                  · exact .inl q
                  · rcases List.mem_cons.1 hg' with rfl | hg'
                    · exact .inr (.inr ⟨{ g' with p := g'.p - 1 }, by simp, hgj⟩)
                    · rcases List.mem_cons.1 hg' with rfl | hg'
                      · exact .inr (.inl hgj.symm)
                      · exact .inr (.inr ⟨g', by simp [hg'], hgj⟩)
            | @wrq _ g fs2 _ _ _ oa ob R v2 hf2 hp2 hgm hgt hna ho2 hw2 hd2 hm2 hB2 t2 ho3 hw3 hd3 hq3 t3 =>
              have hchkg := hchk.2
              simp only [flGo, Bool.and_eq_true] at hchkg
              have hgnot : ∀ x ∈ ps, x.1.i ≠ g.i := fun x hx hxi => by
                have := hchkg.1.1.1.2
                simp only [Bool.not_eq_true', List.contains_eq_mem, decide_eq_false_iff_not] at this
                exact this (List.mem_cons_of_mem _ (hxi ▸ List.mem_map_of_mem hx))
              have hgL : Lf listed g.i = false := by
                cases hb : Lf listed g.i with
                | false => rfl
                | true =>
                  obtain ⟨x, hx, hxi⟩ := I.sub g.i (List.getElem?_eq_some_iff.1 ho3).1 hb
                  exact absurd hxi (hgnot x hx)
              by_cases hfi : f.i = i
              · rw [hfi, ho] at ho2
                simp only [Option.some.injEq] at ho2
                subst ho2
                refine fireW f (f :: g :: fs2) (g :: fs2) ps B h R I hfi (by simp) hf2 hfnot hw2 hd2 hm2 hB2 t2 (fun e he hb => ?_) (fun j hj => ?_) hchk.2
                · have := hchk.1.1.1.1
                  rw [hfi, ho] at this
                  have := List.all_eq_true.1 this e (by simpa using he)
                  simpa [hb] using this
                · rcases I.all j hj with q | ⟨g', hg', hgi⟩
                  · exact .inl q
                  · rcases List.mem_cons.1 hg' with rfl | hg'
                    · exact .inr (.inl hgi.symm)
                    · exact .inr (.inr ⟨g', hg', hgi⟩)
              · have hsw : flGo l (ancAll l) (g.i :: ps.map (·.1.i)) ({ f with p := f.p - 1 } :: fs2) = true := flGo_swap hp2 I.chk
                have hcg : flGo l (ancAll l) (ps.map (·.1.i)) (g :: { f with p := f.p - 1 } :: fs2) = true := by
                  rw [flGo, hsw, ho3, hgm, hgt]
                  simp only [Bool.not_false, Bool.true_or, Bool.and_true, Bool.and_eq_true]
                  refine ⟨?_, ?_⟩
                  · rw [List.all_eq_true]
                    intro e he
                    have := hchkg.1.1.1.1
                    rw [ho3] at this
                    have := List.all_eq_true.1 this e he
                    cases hb : Region.binds .any e with
                    | false => rfl
                    | true =>
                      rw [hb] at this
                      simp only [Bool.not_true, Bool.false_or, List.contains_eq_mem, decide_eq_true_eq] at this ⊢
                      rcases List.mem_cons.1 this with this | this
                      · exfalso
                        have q := List.all_eq_true.1 hna e he
                        rw [hb, this] at q
                        simp at q
                      · exact this
                  · have := hchkg.1.1.1.2
                    simp only [Bool.not_eq_true', List.contains_eq_mem, decide_eq_false_iff_not] at this ⊢
                    exact fun q => this (List.mem_cons_of_mem _ q)
                have I' : Inv C n l e0 Q (Lf listed) ps (g :: { f with p := f.p - 1 } :: fs2) B h a w := by
                  refine ⟨I.sub, fun j hj => ?_, .quiet ho3 hw3 hd3 hq3 t3, hcg, I.nodup, I.pre, fun q2 x q1 hq hLx => ?_, I.bs, I.conc⟩
                  · rcases I.all j hj with q | ⟨g', hg', hgj⟩
                    · exact .inl q
                    · rcases List.mem_cons.1 hg' with rfl | hg'
                      · exact .inr ⟨{ g' with p := g'.p - 1 }, by simp, hgj⟩
                      · rcases List.mem_cons.1 hg' with rfl | hg'
                        · exact .inr ⟨g', by simp, hgj⟩
                        · exact .inr ⟨g', by simp [hg'], hgj⟩
                  · obtain ⟨o', ho', hd', hgd⟩ := I.good q2 x q1 hq hLx
                    refine ⟨o', ho', hd', ?_⟩
                    rcases hgd with hgd | ⟨hw', hgd⟩
                    · exact .inl hgd
                    · refine .inr ⟨hw', ?_⟩
                      rcases hgd with q | q | ⟨q1', q2'⟩
                      · exact .inl q
                      · exact .inr (.inl q)
                      · refine .inr (.inr ⟨q1', fun g' hg' hm' => ?_⟩)
                        rcases List.mem_cons.1 hg' with rfl | hg'
                        · rw [hgm] at hm'; cases hm'
                        · rcases List.mem_cons.1 hg' with rfl | hg'
                          · exact q2' f (by simp) hm'
                          · exact q2' g' (by simp [hg']) hm'
                exact ihL ({ f with p := f.p - 1 } :: fs2) (by simp only [List.length_cons]; omega) ((g, v2) :: ps) B h (inv_pass hdet I' ho3 hgL ⟨hd3, .inr ⟨hw3, .inl hq3⟩⟩ (fun k hk => hk) I.bs t3)
      exact adv fs ps B h I

theorem opn_sound {fl : List Fl} {id : Nat} {Q' : Exit → Act → World → Prop} (hok : openOk l fl = true) {h : Heap} (H : Lx C n l Q fl [] e0 h) (hQ : ∀ e h a w, Conc C n e h a w → Q .normal e h → Q' .normal a w) {a : Act} {w : World} (hc : Conc C n e0 h a w) :
    (Code.region id l.toArray true).wp C.P Q' a w := by
  refine wp_region_any C.mix ?_
  have hrep : ∀ j, j < l.length → Lf (Array.replicate l.toArray.size false) j = false := fun j hj => by
    unfold Lf; rw [Array.getD_eq_getD_getElem?]; simp [hj]
  have hok' := hok
  simp only [openOk, Bool.and_eq_true] at hok'
  refine opn_main (C := C) (n := n) (Q := Q) (e0 := e0) (fl := fl) hok hQ _ _ _ _ [] fl [] h (by simp) (by simp) ?_ ⟨fun i hi hL => ?_, fun i hi => .inr ?_, H, by simpa using hok'.2, by simp, fun p2 x p1 hs => ?_, fun p2 x p1 hs => ?_, by simp, ?_⟩
  · intro i o ho hL
    have hil : i < l.length := (List.getElem?_eq_some_iff.1 ho).1
    rw [hrep i hil] at hL; cases hL
  · rw [hrep i hi] at hL; cases hL
  · have := List.all_eq_true.1 hok'.1.2 i (List.mem_range.2 hi)
    obtain ⟨f, hf, hfi⟩ := List.any_eq_true.1 this
    exact ⟨f, hf, by simpa using hfi⟩
  · simp at hs
  · simp at hs
  · simpa [EL] using hc.drew

end
end Go.AI
