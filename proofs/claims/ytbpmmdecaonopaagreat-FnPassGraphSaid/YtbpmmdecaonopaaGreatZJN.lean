/-
  Results in memory of the call's own, read as data that nobody writes any more. No condition.
-/
import Derived.Test.YtbpmmdecaonopaaGreatZP
import Derived.Test.YtbpmmdecaonopaaGreatZEnd
import Derived.Defers
namespace Go.AI
open Go.RowKit
def FrzLF (h1 : Heap) (cs cs' : List A) : Prop := ∀ (F : Heap) (w : World) (vs : List Value), HeapOk (h1 ++ F) w → RelL (Im w (h1 ++ F)) w cs vs → RelL (Im w F) w cs' vs
theorem RelL.heapS {w : World} {h h0 : Heap} {cs : List A} {vs : List Value} (r : RelL (Im w h) w cs vs) (hs : h0.Sublist h) : RelL (Im w h0) w cs vs := ⟨r.1, fun j hj hj' => (r.2 j hj hj').heap hs⟩
theorem RelL.permS {w : World} {h h0 : Heap} {cs : List A} {vs : List Value} (r : RelL (Im w h) w cs vs) (hp : h.Perm h0) : RelL (Im w h0) w cs vs := r.stab fun _ hb => ⟨im_perm hp hb, rfl⟩
theorem FrzLF.nil {h : Heap} : FrzLF h [] [] := fun _ _ _ _ r => ⟨r.1, fun j hj => absurd hj (Nat.not_lt_zero _)⟩
theorem FrzF.same (h : Heap) (a : A) : FrzF h a a := fun F _ _ _ r => r.heap (List.sublist_append_right h F)
theorem FrzLF.cons {h1 h2 : Heap} {a a' : A} {cs cs' : List A} (H : FrzF h1 a a') (T : FrzLF h2 cs cs') : FrzLF (h1 ++ h2) (a :: cs) (a' :: cs') := fun F w vs ho r => by
  obtain ⟨v, us, rfl, r1, r2⟩ := r.uncons
  have p1 : (h1 ++ h2 ++ F).Perm (h1 ++ (h2 ++ F)) := by rw [List.append_assoc]
  have p2 : (h1 ++ h2 ++ F).Perm (h2 ++ (h1 ++ F)) := by classical exact List.perm_iff_count.2 fun _ => by simp only [List.count_append]; omega
  have q1 := H (h2 ++ F) w v (ho.perm p1) (by rw [← List.append_assoc]; exact r1)
  have q2 := T (h1 ++ F) w us (ho.perm p2) (r2.permS p2)
  exact RelL.cons (q1.heap (List.sublist_append_right _ _)) (q2.heapS (List.sublist_append_right _ _))
theorem FrzF.agg {h : Heap} {cs cs' : List A} (H : FrzLF h cs cs') : FrzF h (.agg cs) (.agg cs') := fun F w v ho r => by
  obtain ⟨vs, rfl, rl⟩ := r.agg_inv
  have q := H F w vs ho rl
  exact .agg _ _ q.1 q.2
theorem OwnC.frzF {α : Type} {E : α → List A → Heap → Prop} {enc : α → List A} {T z : Nat} {xs : List α} {a : A} {h : Heap} (hz : ∀ x, (enc x).length = z) (hz0 : Nat.blt 0 z = true) (hE : ∀ x cs h, E x cs h → FrzLF h cs (enc x)) (o : OwnC E T z xs a h) : FrzF h a (.sl (xs.map enc)) := by
  obtain ⟨b, cap, css, hs, l1, l2, hall, rfl, rfl⟩ := o
  intro F w v ho r
  cases b with
  | none =>
    obtain ⟨h1, h2, p, h3⟩ := r.osn_inv
    have : xs = [] := List.eq_nil_of_length_eq_zero h1
    subst this
    rw [h3]; exact .nil _ _
  | some b =>
  obtain ⟨e1, hlen⟩ := r.os_inv
  rw [e1]
  have hmem : (⟨some b, T, cap * z, (css.map Subtype.val).flatten⟩ : Blk) ∈ (⟨some b, T, cap * z, (css.map Subtype.val).flatten⟩ : Blk) :: hs.flatten ++ F := by simp
  obtain ⟨vs, rest, hb, hr, hrm⟩ := ho.at hmem
  have hlt := ho.lt (mem_keys hmem rfl)
  have hnm : b ∉ keys F := by
    have := ho.nodup
    have e2 : keys ((⟨some b, T, cap * z, (css.map Subtype.val).flatten⟩ : Blk) :: hs.flatten ++ F) = b :: (keys hs.flatten ++ keys F) := by simp [keys]
    rw [e2] at this
    exact fun q => (List.nodup_cons.1 this).1 (List.mem_append_right _ q)
  have hc2 : ∀ y : Cells z, (Subtype.val y).length = z := fun y => y.2
  have hvl : vs.length = xs.length * z := by rw [hr.1, flat_len hc2, l1]
  have hzp : 0 < z := Nat.le_of_ble_eq_true hz0
  have hcap : xs.length ≤ cap := by
    have : xs.length * z ≤ cap * z := by rw [hrm, ← hvl]; simp
    exact Nat.le_of_mul_le_mul_right this hzp
  have bound : ∀ i j, i < xs.length → j < z → i * z + j < xs.length * z := fun i j h1 h2 => by
    have : (i + 1) * z ≤ xs.length * z := Nat.mul_le_mul_right z h1
    rw [Nat.succ_mul] at this; omega
  have key : Rel (Im w F) w (.sl (xs.map enc)) (.slice (some ⟨b, 0, none⟩) (xs.map enc).length cap) := by
    refine .sl _ b 0 cap z (fun i j => vs.getD (i * z + j) undef) ⟨hlt, hnm⟩ (by simpa using hlen) (by simpa using hcap) (fun i hi => by simpa using hz _) (fun i j hi hj => ?_) (fun i j hi hj => ?_)
    · simp at hi
      have hv : i * z + j < vs.length := by rw [hvl]; exact bound i j hi hj
      rw [Nat.zero_add, cell_of_vs hb _ hv]; simp [hv]
    · simp only [List.length_map] at hi
      have hj' : j < z := by
        have := hz xs[i]
        simp only [List.getElem_map] at hj; omega
      have hi1 : i < css.length := by omega
      have hi2 : i < hs.length := by omega
      have seg : RelL (Im w ((⟨some b, T, cap * z, (css.map Subtype.val).flatten⟩ : Blk) :: hs.flatten ++ F)) w css[i].1 ((List.range z).map fun j => vs.getD (i * z + j) undef) := by
        refine ⟨by simp [css[i].2], fun q hq hq' => ?_⟩
        have hqz : q < z := by have := css[i].2; omega
        obtain ⟨u, hu1, hu2⟩ := hr.get (flat_get (f := Subtype.val) css i q hi1 hq hc2)
        have e3 : vs.getD (i * z + q) undef = u := by simp [hu1]
        simp only [List.getElem_map, List.getElem_range, e3]
        exact hu2
      have pf : hs.flatten.Perm (hs[i] ++ (hs.eraseIdx i).flatten) := by
        have := (perm_at (List.getElem?_eq_getElem hi2)).flatten
        simpa using this
      have pp : ((⟨some b, T, cap * z, (css.map Subtype.val).flatten⟩ : Blk) :: hs.flatten ++ F).Perm (hs[i] ++ ((⟨some b, T, cap * z, (css.map Subtype.val).flatten⟩ : Blk) :: ((hs.eraseIdx i).flatten ++ F))) := by
        classical
        refine List.perm_iff_count.2 fun x => ?_
        have q := List.perm_iff_count.1 pf x
        simp only [List.count_append, List.count_cons, List.cons_append] at q ⊢
        omega
      have := (hE _ _ _ (hall i hi hi1 hi2)) ((⟨some b, T, cap * z, (css.map Subtype.val).flatten⟩ : Blk) :: ((hs.eraseIdx i).flatten ++ F)) w _ (ho.perm pp) (seg.permS pp)
      have h3 := (this.heapS (h0 := F) (List.Sublist.cons _ (List.sublist_append_right _ _))).2 j (by rw [hz]; exact hj') (by simpa using hj')
      simpa using h3
  simpa using key
theorem OwnF.frzF {α : Type} {g : α → List A} {T z : Nat} {l : List α} {a : A} {h : Heap} (hz : ∀ y, (g y).length = z) (hz0 : Nat.blt 0 z = true) (o : OwnF g T z l a h) : FrzF h a (.sl (l.map g)) := by
  rcases o with ⟨b, cap, rfl, rfl⟩ | ⟨rfl, rfl, rfl⟩
  · exact FrzF.flat rfl rfl hz rfl hz0
  · exact FrzF.same _ _
theorem OwnLL.frzF {β : Type} {O : β → A → Heap → Prop} {enc : β → List (List A)} {T : Nat} {L : List β} {a : A} {h : Heap} (hO : ∀ x a h, O x a h → FrzF h a (.sl (enc x))) (o : OwnLL O T L a h) {e : β → List A} (he : ∀ x, e x = [.sl (enc x)]) : FrzF h a (.sl (L.map e)) := by
  rcases o with o | ⟨rfl, rfl, rfl⟩
  · exact (ownLL_c o).frzF (fun x => by rw [he]; rfl) rfl (fun x cs h ⟨a, e1, q⟩ => by
      rw [he, e1]
      have := FrzLF.cons (hO x a h q) (FrzLF.nil (h := []))
      rw [List.append_nil] at this; exact this)
  · exact FrzF.same _ _
end Go.AI

/-
  Calls in statements of open order: with memory of the call's own that is read alone; that write. No condition.
-/
namespace Go.AI
open Go.RowKit
section
variable {C : Cx} {n : Nat} {Q : Exit → Env → Heap → Prop} {e : Env} {h : Heap} {l os : List Oper} {o : Oper} {f : Fl} {fs : List Fl} {B : List (Nat × Blk)}
theorem jctO (hT : Heap) {g : FuncId} {xs all : List A} {R : A → Heap → Prop} {dd : Nat} (hf : Does C.P g all [] R) (hm : f.w = true) (hB : ∀ k ∈ B, k.2 ∈ h) (hp : ∀ k ∈ hT, k ∈ h) (hz : FrzL hT xs all) (hR : ∀ v h1, R v h1 → Clo v ∧ CloH h1) (hd : o.dst = some dd) (hn : Nat.blt dd n = true)
    (hj : ∀ v h1, R v h1 → JO fs B C n l os Q ((dd, v) :: e) (h1 ++ h)) : JCO g xs f fs B C n l o os Q e h := by
  unfold JCO CallAt
  rintro ⟨x, args, ts, caps, as0, hw, ho, hx, ha, rfl⟩
  exact j_mutO hm hw (call_thaw ho hx ha hf hp hz hR) (fun v h' ⟨h1, q1, q2⟩ => by rw [q2]; exact fun k hk => List.mem_append_right _ (hB k hk)) (by rw [hd]; exact hn) fun v h' ⟨h1, q1, q2⟩ => by rw [hd, q2]; exact hj v h1 q1
theorem jcpO (F : Heap) {g : FuncId} {xs all : List A} {R : A → Heap → Prop} {h0 : Heap} {dd : Nat} (hf : Does C.P g all h0 R) (hm : f.w = true) (hp : h.Perm (h0 ++ F)) (hle : LeL xs all) (hd : o.dst = some dd) (hn : Nat.blt dd n = true)
    (hj : ∀ v h1, R v h1 → JO fs [] C n l os Q ((dd, v) :: e) (h1 ++ F)) : JCO g xs f fs [] C n l o os Q e h := by
  unfold JCO CallAt
  rintro ⟨x, args, ts, caps, as0, hw, ho, hx, ha, rfl⟩
  exact j_mutO hm hw ((call_step ho hx ha hf hle).perm hp) (fun _ _ _ k hk => nomatch hk) (by rw [hd]; exact hn) fun v h' ⟨h1, q1, q2⟩ => by rw [hd, q2]; exact hj v h1 q1
end
end Go.AI

/-
  A cell of a variable of the call's own: the memory that it tells of is written no more. No condition.
-/
namespace Go.AI
open Go.RowKit
section
variable {e : Env} {h : Heap}
theorem view_cellF {b : Option Nat} {T room k : Nat} {cs : List A} {a a' : A} {h1 F : Heap} (hp : h.Perm (⟨b, T, room, cs⟩ :: (h1 ++ F))) (hk : cs[k]? = some a) (hf : FrzF h1 a a') : View e h e (⟨b, T, room, cs.set k a'⟩ :: F) := fun C n act w hc => by
  have hc1 := view_perm hp C n act w hc
  have hsub : (⟨b, T, room, cs⟩ :: F : Heap).Sublist (⟨b, T, room, cs⟩ :: (h1 ++ F)) := (List.sublist_append_right h1 F).cons_cons _
  have H := hc1.heap
  have H2 := H.sub hsub
  have hs2 := view_sub (e := e) hsub C n act w hc1
  refine ⟨hs2.defers, hs2.size, fun t v hv => hs2.env t v hv, ⟨H2.nodup, ?_, H2.tab.stab fun _ hb => ⟨hb, rfl⟩⟩, hs2.ext, hs2.own⟩
  intro q hq
  rcases List.mem_cons.1 hq with rfl | hq
  · have hb := H.blk _ (List.mem_cons_self)
    cases b with
    | none =>
      have := hb.1
      simp only at this
      rw [this] at hk; simp at hk
    | some b0 =>
      obtain ⟨vs, rest, e1, r, er⟩ := hb
      refine ⟨vs, rest, e1, ⟨by rw [List.length_set]; exact r.1, fun j hj hj' => ?_⟩, er⟩
      have hjc : j < cs.length := by rw [List.length_set] at hj; exact hj
      have rr := r.2 j hjc hj'
      by_cases hjk : k = j
      · subst hjk
        rw [List.getElem_set_self]
        rw [List.getElem?_eq_getElem hjc] at hk
        rw [Option.some.inj hk] at rr
        have hp2 : (⟨some b0, T, room, cs⟩ :: (h1 ++ F) : Heap).Perm (h1 ++ (⟨some b0, T, room, cs⟩ :: F)) := List.perm_middle.symm
        exact (hf (⟨some b0, T, room, cs⟩ :: F) w _ (H.perm hp2) (rr.stab fun _ hb => ⟨im_perm hp2 hb, rfl⟩)).stab fun _ hb => ⟨hb, rfl⟩
      · rw [List.getElem_set_ne hjk]
        exact rr.heap hsub
  · exact H2.blk q (List.mem_cons_of_mem _ hq)
theorem rev3 {α : Type} {a b c : α} {l : List α} : (a :: b :: c :: l).Perm (c :: b :: a :: l) := (List.Perm.swap b a _).trans ((List.Perm.cons b (List.Perm.swap c a _)).trans (List.Perm.swap c b _))
end
section
variable {C : Cx} {n : Nat} {Q : Exit → Env → Heap → Prop} {e : Env} {h : Heap}

/-- A slice of the call's own that holds something has a block. -/
theorem j_some {l os : List Oper} (i : Nat) {b : Option Nat} {T room : Nat} {cs : List A} (hi : h[i]? = some ⟨b, T, room, cs⟩) (hne : cs ≠ []) (hr : ∀ b', b = some b' → J false C n l os Q e h) : J false C n l os Q e h := by
  unfold J at *
  intro a w hc
  cases b with
  | some b' => exact hr b' rfl a w hc
  | none =>
    have := hc.heap.blk _ (List.mem_of_getElem? hi)
    exact absurd this.1 hne
end
theorem Frz.ptr {hT : Heap} {b T room : Nat} {cs cs' : List A} (hm0 : (⟨some b, T, room, cs⟩ : Blk) ∈ hT) (hl : FrzL hT cs cs') : Frz hT (.op (some b) 0) (.ip cs') := fun F w v hm ho r => by
  have e := r.op_inv
  simp only [Option.map_some] at e
  rw [e]
  obtain ⟨vs, rest, hb, hr, hrm⟩ := ho.at (hm _ hm0)
  have hlt := ho.lt (mem_keys (hm _ hm0) rfl)
  have q := hl F w vs hm ho hr
  refine .ip cs' b 0 (fun j => vs.getD j undef) ⟨hlt, by simp [keys]⟩ (fun j hj => ?_) (fun j hj => ?_)
  · have hv : j < vs.length := by rw [q.1]; exact hj
    rw [Nat.zero_add, cell_of_vs hb _ hv]; simp [hv]
  · have hv : j < vs.length := by rw [q.1]; exact hj
    have := q.2 j hj hv
    simpa [hv] using this
end Go.AI

/-
  A statement of open order whose writing operations come in any order: the walk over all that is done. No condition.
-/
namespace Go.AI
open Go.RowKit

section
variable {C : Cx} {n : Nat} {l : List Oper} {Q : Exit → Env → Heap → Prop} {e e' : Env} {h h' : Heap} {o : Oper}
/-- 'box': a new variable with a content, of the call's own. -/
theorem boxM_step {T : Nat} {x : Operand} {v : A} {cs : List A} (ho : o.op = .box T x) (hx : evO e x = some v) (hc : cellsA v = some cs) : MStep C.P o e h fun u h' => ∃ b, u = .op (some b) 0 ∧ h' = ⟨some b, T, cs.length, cs⟩ :: h := by
  intro a w hs
  have hops := hs.ops
  rw [ho] at hops
  have r := hops x (by simp [Op.operands]) _ hx
  obtain ⟨vs, e1, rl⟩ := cellsA_rel hc r
  have hrun : (execOp a.eval o).run C.P w = .ok (.value (.pointer (some ⟨w.heap.size, 0, none⟩))) (w.alloc (.cells vs.toArray T)) := by
    simp [execOp, ho, Instr.box, newVar, newRow, e1]
  unfold Yields
  rw [hrun]
  exact ⟨_, _, ⟨w.heap.size, rfl, rfl⟩, chg_new hs.heap (vs := vs) (rest := []) (Ext.alloc w _) (by rw [heap_new]; simp) rl (by rw [List.append_nil]; exact rl.1.symm), .op (some w.heap.size) 0⟩
theorem j_boxM {os : List Oper} {T dd : Nat} {x : Operand} {v : A} {cs : List A} (hw : wantE l e o = some true) (ho : o.op = .box T x) (hx : evO e x = some v) (hc : cellsA v = some cs) (hd : o.dst = some dd) (hn : Nat.blt dd n = true)
    (hj : ∀ b, J false C n l os Q ((dd, .op (some b) 0) :: e) (⟨some b, T, cs.length, cs⟩ :: h)) : J false C n l (o :: os) Q e h :=
  j_mut hw (boxM_step ho hx hc) (by rw [hd]; exact hn) fun v h' ⟨b, h1, h2⟩ => by rw [hd, h1, h2]; exact hj b
end
end Go.AI

/-
  One more rule of the walk: is a list without elements nil? Either answer. No condition.
-/
namespace Go.AI
open Go.RowKit

section
variable {C : Cx} {n : Nat} {Q : Exit → Env → Heap → Prop} {e : Env} {h : Heap} {l os : List Oper} {o : Oper}
theorem slnilE_step {t t2 sz E z : Nat} {x : Operand} (ho : o.op = .binOp .eql t x (.const (.slice none 0 0)) t2) (hT : C.ty t = some ⟨sz, .slice E z⟩) (hx : evO e x = some (.sl [])) : MStep C.P o e h fun v h' => ∃ b, v = .raw (.bool b) ∧ h' = h := by
  intro a w hst
  have hops := hst.ops
  rw [ho] at hops
  have h1 := C.ok _ _ hT
  simp only [TIok, Bool.and_eq_true] at h1
  have hu := (und_slice h1.2).1
  have rx := hops x (by simp [Op.operands]) _ hx
  have e1 : Op.maxDepth = 9999 + 1 := rfl
  obtain ⟨p, cap, hv⟩ : ∃ p cap, a.eval x = .slice p 0 cap := by
    generalize a.eval x = v at rx
    cases rx with
    | nil p cap => exact ⟨p, cap, rfl⟩
    | sl _ b off cap => exact ⟨_, cap, rfl⟩
  have hy : a.eval (.const (.slice none 0 0)) = .slice none 0 0 := rfl
  have key : ∃ q, (execOp a.eval o).run C.P w = .ok (.value (.bool q)) w := by
    cases p with
    | none =>
      refine ⟨true, ?_⟩
      have heq : (Op.equal t (a.eval x) (.slice none 0 0)).run C.P w = .ok true w := by
        unfold Op.equal
        rw [e1, hv]
        unfold Op.equalIn
        simp [underlying, hu]
      have hg : (eqGuard .eql t x (.const (.slice none 0 0)) (a.eval x) (.slice none 0 0)).run C.P w = .ok () w := by
        rw [hv]; simp [eqGuard]
      rw [hv] at heq hg
      simp [execOp, ho, hy, hv, hg, binOp, heq]
    | some p =>
      refine ⟨false, ?_⟩
      have heq : (Op.equal t (a.eval x) (.slice none 0 0)).run C.P w = .ok false w := by
        unfold Op.equal
        rw [e1, hv]
        unfold Op.equalIn
        simp [underlying, hu]
      have hg : (eqGuard .eql t x (.const (.slice none 0 0)) (a.eval x) (.slice none 0 0)).run C.P w = .ok () w := by
        rw [hv]; simp [eqGuard]
      rw [hv] at heq hg
      simp [execOp, ho, hy, hv, hg, binOp, heq]
  obtain ⟨q, hq⟩ := key
  unfold Yields
  rw [hq]
  exact ⟨_, _, ⟨q, rfl, rfl⟩, Chg.refl hst.heap, .raw _⟩
theorem j_slnilE {t t2 sz E z dd : Nat} {x : Operand} (hw : wantE l e o = some true) (ho : o.op = .binOp .eql t x (.const (.slice none 0 0)) t2) (hT : C.ty t = some ⟨sz, .slice E z⟩) (hx : evO e x = some (.sl [])) (hd : o.dst = some dd) (hn : Nat.blt dd n = true)
    (hj : ∀ b, J false C n l os Q ((dd, .raw (.bool b)) :: e) h) : J false C n l (o :: os) Q e h :=
  j_mut hw (slnilE_step ho hT hx) (by rw [hd]; exact hn) fun v h' ⟨b, h1, h2⟩ => by rw [hd, h1, h2]; exact hj b
end
end Go.AI

/-
  The walk of a function that defers a call. No condition.
-/
namespace Go.AI
open Go.RowKit

def Cx.withD (C : Cx) (D : List Deferred) : Cx := { C with D := D }
def upD (C : Cx) (n : Nat) (Q : List Deferred → Exit → Env → Heap → Prop) : Exit → Act → World → Prop := fun x a w => ∃ D e h, Conc (C.withD D) n e h a w ∧ Q D x e h
/-- .. calls are deferred while it runs. -/
def RunD (C : Cx) (n : Nat) (c : Code) (Q : List Deferred → Exit → Env → Heap → Prop) (D : List Deferred) (e : Env) (h : Heap) : Prop := ∀ a w, Conc (C.withD D) n e h a w → c.wp C.P (upD C n Q) a w
def seqD (C : Cx) (n : Nat) (y : Code) (Q : List Deferred → Exit → Env → Heap → Prop) (D : List Deferred) : Exit → Env → Heap → Prop
  | .normal, e, h => RunD C n y Q D e h
  | x, e, h => Q D x e h
section
variable {C : Cx} {n : Nat} {Q : List Deferred → Exit → Env → Heap → Prop} {D : List Deferred} {e : Env} {h : Heap}
theorem runD_seq {x y : Code} (hr : RunD C n x (seqD C n y Q) D e h) : RunD C n (.seq x y) Q D e h := fun a w hc => by
  refine wp_seq (wp_mono (hr a w hc) fun ex a w hq => ?_)
  obtain ⟨D', e', h', hc', hq'⟩ := hq
  cases ex <;> first | exact ⟨D', e', h', hc', hq'⟩ | exact hq' a w hc'
theorem runD_run {c : Code} (hr : Run (C.withD D) n c (Q D) e h) : RunD C n c Q D e h := fun a w hc => by
  unfold Run at hr
  exact wp_mono (hr a w hc) fun ex a w ⟨e', h', q1, q2⟩ => ⟨D, e', h', q1, q2⟩
theorem seqD_normal {y : Code} (hr : RunD C n y Q D e h) : seqD C n y Q D .normal e h := hr
theorem seqD_ret {y : Code} (hr : Q D .ret e h) : seqD C n y Q D .ret e h := hr
/-- A pointer into memory of the call's own as a value. -/
def opV : A → Value
  | .op b off => .pointer (b.map fun b => ⟨b, off, none⟩)
  | _ => undef
def isOp : A → Bool
  | .op _ _ => true
  | _ => false
theorem relL_op {S : Nat → Prop} {w : World} : ∀ {cs : List A} {vs : List Value}, cs.all isOp = true → RelL S w cs vs → vs = cs.map opV
  | [], vs, _, r => List.eq_nil_of_length_eq_zero r.1
  | c :: cs, vs, h, r => by
    obtain ⟨v, us, rfl, r1, r2⟩ := r.uncons
    simp only [List.all_cons, Bool.and_eq_true] at h
    rw [relL_op h.2 r2, List.map_cons]
    cases c <;> first | (exact absurd h.1 Bool.false_ne_true) | (rw [r1.op_inv]; rfl)
theorem opL_rel (S : Nat → Prop) (w : World) : ∀ {cs : List A}, cs.all isOp = true → RelL S w cs (cs.map opV)
  | [], _ => RelL.nil
  | c :: cs, h => by
    simp only [List.all_cons, Bool.and_eq_true] at h
    refine RelL.cons ?_ (opL_rel S w h.2)
    cases c <;> first | (exact absurd h.1 Bool.false_ne_true) | exact .op _ _
/-- The deferred call of a closure without arguments. -/
def dfr (g : FuncId) (caps : List A) : Deferred := { target := .fn (.func g) (caps.map opV).toArray, args := #[] }

theorem runD_defer {id : Nat} {o1 o2 : Oper} {v : A} {dd : Nat} {x : Operand} {g : FuncId} {caps : List A} (hw1 : wantE [o1, o2] e o1 = some true) (hv : opVal C.ty e o1.op = some v) (hd : o1.dst = some dd) (hn : Nat.blt dd n = true)
    (hw2 : wantE [o1, o2] ((dd, v) :: e) o2 = some true) (ho : o2.op = .defer ⟨.value x, #[], #[]⟩) (hx : evO ((dd, v) :: e) x = some (.fn g caps)) (hd2 : o2.dst = none) (hcap : caps.all isOp = true)
    (hq : Q (dfr g caps :: D) .normal ((dd, v) :: e) h) : RunD C n (.region id [o1, o2].toArray false) Q D e h := fun a w hc => by
  refine wp_region_lit ?_
  have h1 := hc.want hw1
  unfold wpList
  rw [if_pos h1]
  refine .inl ((opVal_quiet (h := h) (C.withD D).ok hv a w (hc.sit o1)).wp fun u w' hR => ?_)
  have hc2 : Conc (C.withD D) n ((dd, v) :: e) h (a.put o1.dst u) w' := by
    have := hc.put hR.1 (d := some dd) hn hR.2
    rw [hd]; exact this
  have h2 := hc2.want hw2
  unfold wpList
  rw [if_pos h2]
  refine .inl ?_
  obtain ⟨us, e1, ru⟩ := (hc2.env.ev hx).fn_inv
  have eu := relL_op hcap ru
  subst eu
  have ex : (execOp (a.put o1.dst u).eval o2).run C.P w' = .ok (.defer (dfr g caps)) w' := by
    simp only [execOp, ho, resolve, e1, Deferred.ofValue]
    simp [dfr]
  unfold Oper.wp
  rw [ex, Oper.upon_defer, hd2]
  change upD C n Q .normal { (a.put o1.dst u) with defers := dfr g caps :: (a.put o1.dst u).defers } w'
  refine ⟨dfr g caps :: D, _, _, ⟨?_, hc2.size, hc2.env, hc2.heap, hc2.ext, hc2.own⟩, hq⟩
  change dfr g caps :: (a.put o1.dst u).defers = dfr g caps :: D
  have := hc2.defers
  rw [this]; rfl
end

/-- What a deferred call does. -/
def DoesD (P : Program) (f : FuncId) (as : List A) (h : Heap) (R : Heap → Prop) : Prop :=
  Callable P f ∧ ∀ (F : Heap) (w : World) (vs : List Value), RelL (Im w (h ++ F)) w as vs → HeapOk (h ++ F) w →
    CallsD P f vs.toArray .returning w fun e u' w' => u' = .returning ∧ ∃ u h', e = .returned u ∧ R h' ∧ Chg (h ++ F) (h' ++ F) w w'
theorem fn_of_runDD {P : Program} {ty : Nat → Option TI} (hty : TyOk P ty) {zt : Nat → Option (List ZK × Nat)} (hzt : ZtOk P zt) (hm : P.follows .mixedOrders = true) {f : FuncId} {fn : Func} {c : Code} {n : Nat} {as : List A} {h : Heap} {R : Heap → Prop}
    (hf : P.funcs[f]? = some fn) (hb : fn.body = some c) (hnm : (fn.name == "runtime.NumGoroutine") = false) (hn : fn.ntmps = n)
    (hr : ∀ (w0 : World) (F : Heap), Run ⟨P, ty, hty, zt, hzt, hm, w0, keys (h ++ F), []⟩ n c (endD ty fn.results (fun _ h' => R h') F) (enumE 0 as) (h ++ F)) : DoesD P f as h R := by
  refine ⟨⟨fn, hf, hnm, by simp [hb]⟩, fun F w vs hrel hh => ?_⟩
  refine callsD_of_wp (R := fun e w' => ∃ u h', e = .returned u ∧ R h' ∧ Chg (h ++ F) (h' ++ F) w w') hf hb ?_
  rw [hn]
  have hr2 := hr w F
  unfold Run at hr2
  refine wp_mono (hr2 _ w (conc_start (C := ⟨P, ty, hty, zt, hzt, hm, w, keys (h ++ F), []⟩) hrel hh rfl rfl)) fun x a' w' hq => ?_
  obtain ⟨e'', h'', hc'', hq⟩ := hq
  unfold endD at hq
  obtain ⟨hx, e', h1, hview, vs', hres, v, hout, hR⟩ := hq
  have hc := hview _ _ _ _ hc''
  obtain ⟨u, hrun, hrel'⟩ := run_results (P := P) hty hc hres
  have hext : Ext (keys (h ++ F)) w w' := hc.ext
  have hchg : Chg (h ++ F) (h1 ++ F) w w' := ⟨hext.os, hext.tape, hext.output, hext.size, hext.block, hc.own, hc.heap⟩
  rcases hx with rfl | rfl
  · exact ⟨hc.defers, _, hrun, _, h1, rfl, hR, hchg⟩
  · exact ⟨hc.defers, _, hrun, _, h1, rfl, hR, hchg⟩

/-- The end of a call by which one call may have been deferred. -/
def endX (P : Program) (ty : Nat → Option TI) (rs : Array ResultVar) (R : A → Heap → Prop) (F : Heap) : List Deferred → Exit → Env → Heap → Prop := fun D x e h =>
  (x = .ret ∨ x = .normal) ∧ ((D = [] ∧ endD ty rs R F x e h) ∨ ∃ g caps, D = [dfr g caps] ∧ caps.all isOp = true ∧ ∃ hd Rd e1 h1, DoesD P g caps hd Rd ∧ View e h e1 (hd ++ h1) ∧ ∀ hd', Rd hd' → endD ty rs R F x e1 (hd' ++ h1))
theorem invoke_fn {P : Program} {f : FuncId} (hf : Callable P f) (us : List Value) (w : World) : (invoke (.fn (.func f) us.toArray) #[]).run P w = .ok (.enter f us.toArray) w := by
  obtain ⟨fn, h1, h2, h3⟩ := hf
  simp only [invoke, callFunc, Sem.run_bind, Sem.run_pure, Result.andThen_ok, run_program, h1, h2, h3, Bool.false_eq_true, if_false]
  simp
theorem fn_of_runX {P : Program} {ty : Nat → Option TI} (hty : TyOk P ty) {zt : Nat → Option (List ZK × Nat)} (hzt : ZtOk P zt) (hm : P.follows .mixedOrders = true) {f : FuncId} {fn : Func} {c : Code} {n : Nat} {as : List A} {h : Heap} {R : A → Heap → Prop}
    (hf : P.funcs[f]? = some fn) (hb : fn.body = some c) (hnm : (fn.name == "runtime.NumGoroutine") = false) (hn : fn.ntmps = n)
    (hr : ∀ (w0 : World) (F : Heap), RunD ⟨P, ty, hty, zt, hzt, hm, w0, keys (h ++ F), []⟩ n c (endX P ty fn.results R F) [] (enumE 0 as) (h ++ F)) : Does P f as h R := by
  refine ⟨⟨fn, hf, hnm, by simp [hb]⟩, fun F w vs hrel hh => ?_⟩
  refine calls_of_wp_defers hf hb ?_
  rw [hn]
  refine wp_mono (hr w F _ w (conc_start (C := ⟨P, ty, hty, zt, hzt, hm, w, keys (h ++ F), []⟩) hrel hh rfl rfl)) fun x a' w' hq => ?_
  obtain ⟨D, e, h2, hc, hx, hq⟩ := hq
  have fin : ∀ {w2 : World} {e2 : Env} {h2 : Heap} {x : Exit}, Conc (Cx.withD ⟨P, ty, hty, zt, hzt, hm, w, keys (h ++ F), []⟩ D) n e2 h2 a' w2 → endD ty fn.results R F x e2 h2 →
      ∃ v, (results fn a'.tmps).run P w2 = .ok v w2 ∧ ∃ u v' h', Ending.returned v = .returned u ∧ R v' h' ∧ Chg (h ++ F) (h' ++ F) w w2 ∧ Rel (Im w2 (h' ++ F)) w2 v' u := by
    intro w2 e2 h2 x hc2 hq2
    unfold endD at hq2
    obtain ⟨hx, e', h1, hview, vs', hres, v, hout, hR⟩ := hq2
    have hc3 := hview _ _ _ _ hc2
    obtain ⟨u, hrun, hrel'⟩ := run_results (P := P) hty hc3 hres
    have hext : Ext (keys (h ++ F)) w w2 := hc3.ext
    exact ⟨u, hrun, u, v, h1, rfl, hR, ⟨hext.os, hext.tape, hext.output, hext.size, hext.block, hc3.own, hc3.heap⟩, hout _ _ _ hrel'⟩
  have key : Leaves P fn a'.tmps (fun e w' => ∃ u v h', e = .returned u ∧ R v h' ∧ Chg (h ++ F) (h' ++ F) w w' ∧ Rel (Im w' (h' ++ F)) w' v u) a'.defers .returning w' := by
    have hD : a'.defers = D := hc.defers
    rw [hD]
    rcases hq with ⟨rfl, hq⟩ | ⟨g, caps, rfl, hcap, hd, Rd, e1, h1, hDD, hview, hq⟩
    · exact fin hc hq
    · have hc1 := hview _ _ _ _ hc
      unfold dfr
      refine leaves_cons (by simp) (invoke_fn hDD.1 _ _) ((hDD.2 h1 w' _ (opL_rel _ _ hcap) hc1.heap).mono ?_)
      rintro en u' w2 ⟨rfl, u, hd', rfl, hR, hchg⟩
      have hc2 := hc1.putM (d := none) hchg rfl (.raw undef)
      exact fin hc2 (hq hd' hR)
  rcases hx with rfl | rfl
  · exact key
  · exact key
end Go.AI

/-
  Results in memory of the call's own, of which something is known, read as data that nobody writes any more. No condition.
-/
namespace Go.AI
open Go.RowKit
theorem FrzF.tup {h : Heap} {cs cs' : List A} (H : FrzLF h cs cs') : FrzF h (.tup cs) (.tup cs') := fun F w v ho r => by
  obtain ⟨vs, rfl, rl⟩ := r.tup_inv
  have q := H F w vs ho rl
  exact .tup _ _ q.1 q.2

section
variable {C : Cx} {n : Nat} {Q : Exit → Env → Heap → Prop} {e : Env} {h : Heap} {l os : List Oper} {o : Oper} {f : Fl} {fs : List Fl} {B : List (Nat × Blk)}
theorem MStep.frz {P : Program} {R : A → Heap → Prop} {v' : A} (hm : MStep P o e h fun v h' => ∃ h1, R v h1 ∧ h' = h1 ++ h) (hF : ∀ v h1, R v h1 → FrzF h1 v v') : MStep P o e h fun v h' => v = v' ∧ h' = h := fun a w hs => by
  have := hm a w hs
  unfold Yields at this ⊢
  generalize (execOp a.eval o).run P w = r at this ⊢
  have conv : ∀ u w', (∃ v h2, (∃ h1, R v h1 ∧ h2 = h1 ++ h) ∧ Chg h h2 w w' ∧ Rel (Im w' h2) w' v u) → ∃ v h1, (v = v' ∧ h1 = h) ∧ Chg h h1 w w' ∧ Rel (Im w' h1) w' v u := fun u w' ⟨v, h2, ⟨h1, q1, q2⟩, q3, q4⟩ => by
    subst q2
    exact ⟨v', h, ⟨rfl, rfl⟩, q3.drop (List.Perm.refl _) (List.sublist_append_right h1 h), hF v h1 q1 h w' u q3.heap q4⟩
  cases r with
  | ok nx w' =>
    cases nx <;> first | exact conv _ _ this | (exact this.elim) | (exact this.mono fun e w'' ⟨u, he, hR⟩ => ⟨u, he, conv _ _ hR⟩)
  | halt x w' => exact this.elim
end
end Go.AI

/-
  More rules of the walk: unsigned numbers of 64 bits, as they stand; bytes as numbers. No condition.
-/
namespace Go.AI
open Go.RowKit

section
variable {C : Cx} {n : Nat} {Q : Exit → Env → Heap → Prop} {e : Env} {h h' : Heap} {d : Bool} {l os : List Oper} {o : Oper} {f : Fl} {fs : List Fl} {B : List (Nat × Blk)}
theorem u64mul_quiet {t t2 : Nat} {x y : Operand} {m k : Int} (ho : o.op = .binOp .mul t x y t2) (hx : evO e x = some (.raw (.int .u64 m))) (hy : evO e y = some (.raw (.int .u64 k))) : Quiet C.P o e h (.raw (.int .u64 (IntKind.u64.wrap (m * k)))) := by
  apply Quiet.of_same
  intro a w hs
  have hops := hs.ops
  rw [ho] at hops
  have e1 := (hops x (by simp [Op.operands]) _ hx).raw_inv
  have e2 := (hops y (by simp [Op.operands]) _ hy).raw_inv
  exact ⟨.int .u64 (IntKind.u64.wrap (m * k)), by simp [execOp, ho, e1, e2, eqGuard, binOp, Op.intArith], .raw _⟩
theorem u64add_quiet {t t2 : Nat} {x y : Operand} {m k : Int} (ho : o.op = .binOp .add t x y t2) (hx : evO e x = some (.raw (.int .u64 m))) (hy : evO e y = some (.raw (.int .u64 k))) : Quiet C.P o e h (.raw (.int .u64 (IntKind.u64.wrap (m + k)))) := by
  apply Quiet.of_same
  intro a w hs
  have hops := hs.ops
  rw [ho] at hops
  have e1 := (hops x (by simp [Op.operands]) _ hx).raw_inv
  have e2 := (hops y (by simp [Op.operands]) _ hy).raw_inv
  exact ⟨.int .u64 (IntKind.u64.wrap (m + k)), by simp [execOp, ho, e1, e2, eqGuard, binOp, Op.intArith], .raw _⟩
theorem u64shr_quiet {t t2 : Nat} {x y : Operand} {m k : Int} {kk : IntKind} (ho : o.op = .binOp .shr t x y t2) (hx : evO e x = some (.raw (.int .u64 m))) (hy : evO e y = some (.raw (.int kk k)) ∨ evO e y = some (.int k)) (hk : 0 ≤ k) : Quiet C.P o e h (.raw (.int .u64 (m.fdiv (2 ^ (min k.toNat 64))))) := by
  apply Quiet.of_same
  intro a w hs
  have hops := hs.ops
  rw [ho] at hops
  have e1 := (hops x (by simp [Op.operands]) _ hx).raw_inv
  have hk2 : ¬ k < 0 := by omega
  rcases hy with hy | hy
  · have e2 := (hops y (by simp [Op.operands]) _ hy).raw_inv
    exact ⟨_, by simp [execOp, ho, e1, e2, eqGuard, binOp, Op.shift, hk2, IntKind.bits], .raw _⟩
  · have e2 := (hops y (by simp [Op.operands]) _ hy).int_inv.1
    exact ⟨_, by simp [execOp, ho, e1, e2, eqGuard, binOp, Op.shift, hk2, IntKind.bits], .raw _⟩
theorem u64and_quiet {t t2 : Nat} {x y : Operand} {m : Int} (ho : o.op = .binOp .and t x y t2) (hx : evO e x = some (.raw (.int .u64 m))) (hy : evO e y = some (.raw (.int .u64 255))) : ∃ c : Int, (0 ≤ c ∧ c ≤ 255) ∧ ∀ h, Quiet C.P o e h (.raw (.int .u64 c)) := by
  refine ⟨(((BitVec.ofInt 64 m) &&& (BitVec.ofInt 64 255)).toNat : Int), ?_, fun h => ?_⟩
  · have : ((BitVec.ofInt 64 m) &&& (BitVec.ofInt 64 255)).toNat ≤ 255 := by
      rw [BitVec.toNat_and]
      exact Nat.and_le_right
    omega
  · apply Quiet.of_same
    intro a w hs
    have hops := hs.ops
    rw [ho] at hops
    have e1 := (hops x (by simp [Op.operands]) _ hx).raw_inv
    have e2 := (hops y (by simp [Op.operands]) _ hy).raw_inv
    have hle : ((BitVec.ofInt 64 m) &&& (BitVec.ofInt 64 255)).toNat ≤ 255 := by
      rw [BitVec.toNat_and]
      exact Nat.and_le_right
    have hw : IntKind.u64.wrap (((BitVec.ofInt 64 m) &&& (BitVec.ofInt 64 255)).toNat : Int) = (((BitVec.ofInt 64 m) &&& (BitVec.ofInt 64 255)).toNat : Int) := by
      generalize ((BitVec.ofInt 64 m) &&& (BitVec.ofInt 64 255)).toNat = q at hle
      simp [IntKind.wrap, IntKind.bits, IntKind.signed]; omega
    refine ⟨_, ?_, .raw _⟩
    have hr : (execOp a.eval o).run C.P w = .ok (.value (.int .u64 (IntKind.u64.wrap (((BitVec.ofInt 64 m) &&& (BitVec.ofInt 64 255)).toNat : Int)))) w := by
      simp only [execOp, ho, e1, e2]
      simp [eqGuard, binOp, Op.intBits]
      rfl
    rw [hw] at hr
    exact hr
theorem u2i_quiet {s t sz sz2 : Nat} {x : Operand} {m : Int} (ho : o.op = .convert s t x) (hs : C.ty s = some ⟨sz, .ik .u64⟩) (ht : C.ty t = some ⟨sz2, .ik .i64⟩) (hx : evO e x = some (.raw (.int .u64 m))) (hm : 0 ≤ m ∧ m ≤ 255) : Quiet C.P o e h (.int m) := by
  apply Quiet.of_same
  intro a w hst
  have hops := hst.ops
  rw [ho] at hops
  have h1 := C.ok _ _ hs; have h2 := C.ok _ _ ht
  simp only [TIok, Bool.and_eq_true] at h1 h2
  have e1 := (hops x (by simp [Op.operands]) _ hx).raw_inv
  have hw : IntKind.i64.wrap m = m := by simp [IntKind.wrap, IntKind.bits, IntKind.signed]; omega
  exact ⟨.int .i64 m, by simp [execOp, ho, e1, convert, underlying, und_ik h1.2, und_ik h2.2, Conv.intToInt, hw], .int _ (by unfold InR; omega)⟩
theorem j_u64mul {t t2 dd : Nat} {x y : Operand} {m k : Int} (hw : wantE l e o = some true) (ho : o.op = .binOp .mul t x y t2) (hx : evO e x = some (.raw (.int .u64 m))) (hy : evO e y = some (.raw (.int .u64 k))) (hd : o.dst = some dd) (hn : Nat.blt dd n = true)
    (hj : J d C n l os Q ((dd, .raw (.int .u64 (IntKind.u64.wrap (m * k)))) :: e) h) : J d C n l (o :: os) Q e h := j_quiet hw (fun _ => u64mul_quiet ho hx hy) hd hn hj
theorem j_u64add {t t2 dd : Nat} {x y : Operand} {m k : Int} (hw : wantE l e o = some true) (ho : o.op = .binOp .add t x y t2) (hx : evO e x = some (.raw (.int .u64 m))) (hy : evO e y = some (.raw (.int .u64 k))) (hd : o.dst = some dd) (hn : Nat.blt dd n = true)
    (hj : J d C n l os Q ((dd, .raw (.int .u64 (IntKind.u64.wrap (m + k)))) :: e) h) : J d C n l (o :: os) Q e h := j_quiet hw (fun _ => u64add_quiet ho hx hy) hd hn hj
theorem j_u64shr {t t2 dd : Nat} {x y : Operand} {m k : Int} {kk : IntKind} (hw : wantE l e o = some true) (ho : o.op = .binOp .shr t x y t2) (hx : evO e x = some (.raw (.int .u64 m))) (hy : evO e y = some (.raw (.int kk k)) ∨ evO e y = some (.int k)) (hk : 0 ≤ k) (hd : o.dst = some dd) (hn : Nat.blt dd n = true)
    (hj : J d C n l os Q ((dd, .raw (.int .u64 (m.fdiv (2 ^ (min k.toNat 64))))) :: e) h) : J d C n l (o :: os) Q e h := j_quiet hw (fun _ => u64shr_quiet ho hx hy hk) hd hn hj
theorem j_u64and {t t2 dd : Nat} {x y : Operand} {m : Int} (hw : wantE l e o = some true) (ho : o.op = .binOp .and t x y t2) (hx : evO e x = some (.raw (.int .u64 m))) (hy : evO e y = some (.raw (.int .u64 255))) (hd : o.dst = some dd) (hn : Nat.blt dd n = true)
    (hj : ∀ c : Int, 0 ≤ c ∧ c ≤ 255 → J d C n l os Q ((dd, .raw (.int .u64 c)) :: e) h) : J d C n l (o :: os) Q e h := by
  obtain ⟨c, hc, hq⟩ := u64and_quiet (C := C) ho hx hy
  exact j_quiet hw (fun _ => hq _) hd hn (hj c hc)
theorem j_u2i {s t sz sz2 dd : Nat} {x : Operand} {m : Int} (hw : wantE l e o = some true) (ho : o.op = .convert s t x) (hs : C.ty s = some ⟨sz, .ik .u64⟩) (ht : C.ty t = some ⟨sz2, .ik .i64⟩) (hx : evO e x = some (.raw (.int .u64 m))) (hm : 0 ≤ m ∧ m ≤ 255) (hd : o.dst = some dd) (hn : Nat.blt dd n = true)
    (hj : J d C n l os Q ((dd, .int m) :: e) h) : J d C n l (o :: os) Q e h := j_quiet hw (fun _ => u2i_quiet ho hs ht hx hm) hd hn hj
end
end Go.AI

/-
  Rules of the walk for 'int(uint(x) >> 1)'. No condition.
-/
namespace Go.AI
open Go.RowKit
section
variable {C : Cx} {n : Nat} {Q : Exit → Env → Heap → Prop} {e : Env} {h : Heap} {d : Bool} {l os : List Oper} {o : Oper} {f : Fl} {fs : List Fl} {B : List (Nat × Blk)}
theorem takeN_appt {α : Type} (cs rest : List α) : takeN cs.length (cs ++ rest) = cs := by rw [takeN_eq]; simp
theorem loadSt {ty : Nat → Option TI} {t sz : Nat} {fs : List (Nat × Nat)} {cs rest : List A} (h : ty t = some ⟨sz, .struct fs⟩) (hl : cs.length = sz) : loadA ty t (cs ++ rest) = some (.agg cs) := by
  subst hl
  unfold loadA
  rw [h]
  have : Nat.ble cs.length (cs ++ rest).length = true := Nat.ble_eq_true_of_le (by simp)
  simp only [this, cond_true, takeN_appt]
end
end Go.AI

/-
  'append([]E{}, t...)' that is written no more: data. No condition.
-/
namespace Go.AI
open Go.RowKit
section
variable {C : Cx} {n : Nat} {Q : Exit → Env → Heap → Prop} {e : Env} {h : Heap} {l os : List Oper} {o : Oper} {f : Fl} {fs : List Fl} {B : List (Nat × Blk)}
end
end Go.AI

/-
  Joins behind an 'if'; an operation that floats behind others; 'make' that is written no more. No condition.
-/
namespace Go.AI
open Go.RowKit
section
variable {C : Cx} {n : Nat} {Q : Exit → Env → Heap → Prop} {e e' : Env} {h h' : Heap} {l os : List Oper} {o : Oper} {f : Fl} {fs : List Fl} {B : List (Nat × Blk)}
/-- What two ways come to: I what the slots hold in state s, H the memory of the call's own, G what is known of s. -/
def joinQ {σ : Type} (I : σ → Env) (H : σ → Heap) (G : σ → Prop) (Q : Exit → Env → Heap → Prop) : Exit → Env → Heap → Prop
  | .normal, e, h => ∃ s e', G s ∧ View e h e' (H s) ∧ EnvLe e' (I s)
  | x, e, h => Q x e h
theorem makeI_quiet {T E sz bytes m : Nat} {x y : Operand} (ho : o.op = .makeSlice T x y) (hT : C.ty T = some ⟨sz, .slice E 1⟩) (hx : evO e x = some (.int (m : Int))) (hy : evO e y = some (.int (m : Int)))
    (hz : C.zt E = some ([ZK.int], bytes)) (hm : bytes * m ≤ 281474976710656) : Quiet C.P o e h (.sl ((List.replicate m (0 : Int)).map encI)) := fun a w hs => by
  have := make_at (h := h) ho hT hx hy hz rfl rfl hm a w hs
  unfold Yields at this ⊢
  generalize (execOp a.eval o).run C.P w = r at this ⊢
  have conv : ∀ u w', (∃ v h1, (∃ b, v = A.os (some b) m m ∧ h1 = ⟨some b, E, m * 1, (List.replicate m ([ZK.int].map ZK.a)).flatten⟩ :: h) ∧ Chg h h1 w w' ∧ Rel (Im w' h1) w' v u) → Chg h h w w' ∧ Rel (Im w' h) w' (.sl ((List.replicate m (0 : Int)).map encI)) u := fun u w' ⟨v, h1, ⟨b, q1, q2⟩, q3, q4⟩ => by
    subst q1 q2
    exact ⟨q3.drop (List.Perm.refl _) (List.sublist_cons_self _ h), FrzF.flat (g := encI) (ys := List.replicate m (0 : Int)) (z := 1) (b := some b) (T := E) (cap := m) List.length_replicate.symm (by rw [List.map_replicate]; rfl) (fun _ => rfl) rfl rfl h w' u q3.heap q4⟩
  cases r with
  | ok nx w' =>
    cases nx <;> first | exact conv _ _ this | (exact this.elim) | (exact this.mono fun e w'' ⟨u, he, hR⟩ => ⟨u, he, conv _ _ hR⟩)
  | halt x w' => exact this.elim
theorem j_makeQO {T E sz bytes dd : Nat} (m : Nat) {x y : Operand} (hw : wantE l e o = some true) (ho : o.op = .makeSlice T x y) (hT : C.ty T = some ⟨sz, .slice E 1⟩) (hx : evO e x = some (.int (m : Int))) (hy : evO e y = some (.int (m : Int)))
    (hz : C.zt E = some ([ZK.int], bytes)) (hm : bytes * m ≤ 281474976710656) (hd : o.dst = some dd) (hn : Nat.blt dd n = true)
    (hj : JO fs B C n l os Q ((dd, .sl ((List.replicate m (0 : Int)).map encI)) :: e) h) : JO (f :: fs) B C n l (o :: os) Q e h :=
  j_quietO hw (fun _ => makeI_quiet ho hT hx hy hz hm) hd hn hj
end
attribute [irreducible] joinQ
end Go.AI
