/-
  A cell of a variable of the call's own: the memory that it tells of is written no more. No condition.
-/
import Derived.Test.YtmcljepicadjfaaGreatDoorZE3
import Derived.Test.YtmcljepicadjfaaGreatDoorZT
import Derived.Test.YtmcljepicadjfaaGreatDoorZRd
namespace Go.AI
open Go.RowKit
section
variable {e : Env} {h : Heap}
theorem view_cellF {b : Option Nat} {T room k : Nat} {cs : List A} {a a' : A} {h1 F : Heap} (hp : h.Perm (⟨b, T, room, cs⟩ :: (h1 ++ F))) (hk : cs[k]? = some a) (hf : FrzF h1 a a') : View e h e (⟨b, T, room, cs.set k a'⟩ :: F) := fun C n act w hc => by
  have hc1 := view_perm hp C n act w hc
  have hsub : (⟨b, T, room, cs⟩ :: F : Heap).Sublist (⟨b, T, room, cs⟩ :: (h1 ++ F)) := (List.sublist_append_right h1 F).cons_cons _
  have H := hc1.heap
  have H2 := H.sub hsub
  have hs2 := view_sub (e := e) hsub C n act w hc1
  refine ⟨hs2.defers, hs2.size, fun t v hv => hs2.env t v hv, ⟨H2.nodup, ?_, H2.tab.stab fun _ hb => ⟨hb, rfl⟩⟩, hs2.ext, hs2.own⟩
  intro q hq
  rcases List.mem_cons.1 hq with rfl | hq
  · have hb := H.blk _ (List.mem_cons_self)
    cases b with
    | none =>
      have := hb.1
      simp only at this
      rw [this] at hk; simp at hk
    | some b0 =>
      obtain ⟨vs, rest, e1, r, er⟩ := hb
      refine ⟨vs, rest, e1, ⟨by rw [List.length_set]; exact r.1, fun j hj hj' => ?_⟩, er⟩
      have hjc : j < cs.length := by rw [List.length_set] at hj; exact hj
      have rr := r.2 j hjc hj'
      by_cases hjk : k = j
      · subst hjk
        rw [List.getElem_set_self]
        rw [List.getElem?_eq_getElem hjc] at hk
        rw [Option.some.inj hk] at rr
        have hp2 : (⟨some b0, T, room, cs⟩ :: (h1 ++ F) : Heap).Perm (h1 ++ (⟨some b0, T, room, cs⟩ :: F)) := List.perm_middle.symm
        exact (hf (⟨some b0, T, room, cs⟩ :: F) w _ (H.perm hp2) (rr.stab fun _ hb => ⟨im_perm hp2 hb, rfl⟩)).stab fun _ hb => ⟨hb, rfl⟩
      · rw [List.getElem_set_ne hjk]
        exact rr.heap hsub
  · exact H2.blk q (List.mem_cons_of_mem _ hq)
end
section
variable {C : Cx} {n : Nat} {Q : Exit → Env → Heap → Prop} {e : Env} {h : Heap}

end
theorem Frz.ptr {hT : Heap} {b T room : Nat} {cs cs' : List A} (hm0 : (⟨some b, T, room, cs⟩ : Blk) ∈ hT) (hl : FrzL hT cs cs') : Frz hT (.op (some b) 0) (.ip cs') := fun F w v hm ho r => by
  have e := r.op_inv
  simp only [Option.map_some] at e
  rw [e]
  obtain ⟨vs, rest, hb, hr, hrm⟩ := ho.at (hm _ hm0)
  have hlt := ho.lt (mem_keys (hm _ hm0) rfl)
  have q := hl F w vs hm ho hr
  refine .ip cs' b 0 (fun j => vs.getD j undef) ⟨hlt, by simp [keys]⟩ (fun j hj => ?_) (fun j hj => ?_)
  · have hv : j < vs.length := by rw [q.1]; exact hj
    rw [Nat.zero_add, cell_of_vs hb _ hv]; simp [hv]
  · have hv : j < vs.length := by rw [q.1]; exact hj
    have := q.2 j hj hv
    simpa [hv] using this
end Go.AI

/-
  A statement of open order whose writing operations come in any order: the walk over all that is done. No condition.
-/
namespace Go.AI
open Go.RowKit

section
variable {C : Cx} {n : Nat} {l : List Oper} {Q : Exit → Env → Heap → Prop} {e e' : Env} {h h' : Heap} {o : Oper}
/-- 'box': a new variable with a content, of the call's own. -/
theorem boxM_step {T : Nat} {x : Operand} {v : A} {cs : List A} (ho : o.op = .box T x) (hx : evO e x = some v) (hc : cellsA v = some cs) : MStep C.P o e h fun u h' => ∃ b, u = .op (some b) 0 ∧ h' = ⟨some b, T, cs.length, cs⟩ :: h := by
  intro a w hs
  have hops := hs.ops
  rw [ho] at hops
  have r := hops x (by simp [Op.operands]) _ hx
  obtain ⟨vs, e1, rl⟩ := cellsA_rel hc r
  have hrun : (execOp a.eval o).run C.P w = .ok (.value (.pointer (some ⟨w.heap.size, 0, none⟩))) (w.alloc (.cells vs.toArray T)) := by
    simp [execOp, ho, Instr.box, newVar, newRow, e1]
  unfold Yields
  rw [hrun]
  exact ⟨_, _, ⟨w.heap.size, rfl, rfl⟩, chg_new hs.heap (vs := vs) (rest := []) (Ext.alloc w _) (by rw [heap_new]; simp) rl (by rw [List.append_nil]; exact rl.1.symm), .op (some w.heap.size) 0⟩
theorem j_boxM {os : List Oper} {T dd : Nat} {x : Operand} {v : A} {cs : List A} (hw : wantE l e o = some true) (ho : o.op = .box T x) (hx : evO e x = some v) (hc : cellsA v = some cs) (hd : o.dst = some dd) (hn : Nat.blt dd n = true)
    (hj : ∀ b, J false C n l os Q ((dd, .op (some b) 0) :: e) (⟨some b, T, cs.length, cs⟩ :: h)) : J false C n l (o :: os) Q e h :=
  j_mut hw (boxM_step ho hx hc) (by rw [hd]; exact hn) fun v h' ⟨b, h1, h2⟩ => by rw [hd, h1, h2]; exact hj b
end
end Go.AI

/-
  'append([]E{}, t...)' that is written no more: data. No condition.
-/
namespace Go.AI
open Go.RowKit
section
variable {C : Cx} {n : Nat} {Q : Exit → Env → Heap → Prop} {e : Env} {h : Heap} {l os : List Oper} {o : Oper} {f : Fl} {fs : List Fl} {B : List (Nat × Blk)}
end
end Go.AI

/-
  Calls in statements of open order: with memory of the call's own that is read alone; that write. No condition.
-/
namespace Go.AI
open Go.RowKit
section
variable {C : Cx} {n : Nat} {Q : Exit → Env → Heap → Prop} {e : Env} {h : Heap} {l os : List Oper} {o : Oper} {f : Fl} {fs : List Fl} {B : List (Nat × Blk)}
theorem jcpO (F : Heap) {g : FuncId} {xs all : List A} {R : A → Heap → Prop} {h0 : Heap} {dd : Nat} (hf : Does C.P g all h0 R) (hm : f.w = true) (hp : h.Perm (h0 ++ F)) (hle : LeL xs all) (hd : o.dst = some dd) (hn : Nat.blt dd n = true)
    (hj : ∀ v h1, R v h1 → JO fs [] C n l os Q ((dd, v) :: e) (h1 ++ F)) : JCO g xs f fs [] C n l o os Q e h := by
  unfold JCO CallAt
  rintro ⟨x, args, ts, caps, as0, hw, ho, hx, ha, rfl⟩
  exact j_mutO hm hw ((call_step ho hx ha hf hle).perm hp) (fun _ _ _ k hk => nomatch hk) (by rw [hd]; exact hn) fun v h' ⟨h1, q1, q2⟩ => by rw [hd, q2]; exact hj v h1 q1
end
end Go.AI

/-
  Joins behind an 'if'; an operation that floats behind others; 'make' that is written no more. No condition.
-/
namespace Go.AI
open Go.RowKit
section
variable {C : Cx} {n : Nat} {Q : Exit → Env → Heap → Prop} {e e' : Env} {h h' : Heap} {l os : List Oper} {o : Oper} {f : Fl} {fs : List Fl} {B : List (Nat × Blk)}
/-- What two ways come to: I what the slots hold in state s, H the memory of the call's own, G what is known of s. -/
def joinQ {σ : Type} (I : σ → Env) (H : σ → Heap) (G : σ → Prop) (Q : Exit → Env → Heap → Prop) : Exit → Env → Heap → Prop
  | .normal, e, h => ∃ s e', G s ∧ View e h e' (H s) ∧ EnvLe e' (I s)
  | x, e, h => Q x e h
theorem run_join {σ : Type} (I : σ → Env) (H : σ → Heap) (G : σ → Prop) {x y : Code} (h1 : Run C n x (joinQ I H G Q) e h) (h2 : ∀ s, G s → Run C n y Q (I s) (H s)) : Run C n x (seqQ C n y Q) e h := by
  unfold Run at *
  refine fun a w hc => wp_mono (h1 a w hc) fun ex a w hq => ?_
  obtain ⟨e', h', hc', hq'⟩ := hq
  cases ex with
  | normal =>
    obtain ⟨s, e2, g, v, le⟩ := hq'
    refine ⟨I s, H s, (v _ _ _ _ hc').sub le.sub, ?_⟩
    unfold seqQ Run
    exact h2 s g
  | _ =>
    refine ⟨e', h', hc', ?_⟩
    unfold seqQ
    exact hq'
theorem joinQ_done {σ : Type} {I : σ → Env} {H : σ → Heap} {G : σ → Prop} (s : σ) (hG : G s) (hh : h = H s) (hI : EnvLe e (I s)) : joinQ I H G Q .normal e h := ⟨s, e, hG, hh ▸ View.refl e h, hI⟩
/-- The same two where loads are remembered. -/
theorem j_twoB {R R2 : A → Heap → Prop} {g : Fl} {o2 : Oper} {dd dd2 : Nat} (hf : f.m = true) (hp : Nat.blt 0 f.p = true) (hg : g.w = true) (hw : wantE l e o = some true) (hm : MStep C.P o e h R) (hd : o.dst = some dd) (hn : Nat.blt dd n = true)
    (hw2 : wantE l e o2 = some true) (hm2 : MStep C.P o2 e h R2) (hd2 : o2.dst = some dd2) (hn2 : Nat.blt dd2 n = true) (hB : ∀ v h', R v h' → ∀ k ∈ B, k.2 ∈ h') (hB2 : ∀ v h', R2 v h' → ∀ k ∈ B, k.2 ∈ h')
    (hj : ∀ v h', R v h' → JO (g :: fs) B C n l (o2 :: os) Q ((dd, v) :: e) h') (hj2 : ∀ v h', R2 v h' → JO ({ f with p := f.p - 1 } :: fs) B C n l (o :: os) Q ((dd2, v) :: e) h') : JO (f :: g :: fs) B C n l (o :: o2 :: os) Q e h := by
  unfold JO at *
  exact fun ha => .wr2 hf (Nat.ne_of_gt (Nat.le_of_ble_eq_true hp)) hg ha.1 hw (by rw [hd]; exact hn) hm (fun v h' hR k hk => .inl (hB v h' hR k hk)) (fun v h' hR => by rw [hd]; exact hj v h' hR ha.2)
    ha.2.1 hw2 (by rw [hd2]; exact hn2) hm2 (fun v h' hR k hk => .inl (hB2 v h' hR k hk)) (fun v h' hR => by rw [hd2]; exact hj2 v h' hR ⟨ha.1, ha.2.2⟩)
theorem j_floatB {R : A → Heap → Prop} {g : Fl} {o2 : Oper} {v2 : A} {dd dd2 : Nat} (hf : f.m = true) (hp : Nat.blt 0 f.p = true) (hgm : g.m = false) (hgt : g.tight = false) (hw : wantE l e o = some true) (hm : MStep C.P o e h R) (hd : o.dst = some dd) (hn : Nat.blt dd n = true)
    (hw2 : wantE l e o2 = some true) (hq2 : ∀ h', Quiet C.P o2 e h' v2) (hd2 : o2.dst = some dd2) (hn2 : Nat.blt dd2 n = true) (hB : ∀ v h', R v h' → ∀ k ∈ B, k.2 ∈ h')
    (hj : ∀ v h', R v h' → JO (g :: fs) B C n l (o2 :: os) Q ((dd, v) :: e) h') (hj2 : JO ({ f with p := f.p - 1 } :: fs) B C n l (o :: os) Q ((dd2, v2) :: e) h) (hna : (o2.after.toList.all fun e => !Region.binds .any e || !(e.on == f.i)) = true := by rfl) : JO (f :: g :: fs) B C n l (o :: o2 :: os) Q e h := by
  unfold JO at *
  exact fun ha => .wrq hf (Nat.ne_of_gt (Nat.le_of_ble_eq_true hp)) hgm hgt hna ha.1 hw (by rw [hd]; exact hn) hm (fun v h' hR k hk => .inl (hB v h' hR k hk)) (fun v h' hR => by rw [hd]; exact hj v h' hR ha.2)
    ha.2.1 hw2 (by rw [hd2]; exact hn2) hq2 (by rw [hd2]; exact hj2 ⟨ha.1, ha.2.2⟩)
theorem alloc_at {T bytes : Nat} {zk : List ZK} (ho : o.op = .alloc T) (hz : C.zt T = some (zk, bytes)) : MStep C.P o e h (fun v h' => ∃ b, v = .op (some b) 0 ∧ h' = ⟨some b, T, zk.length, zk.map ZK.a⟩ :: h) := by
  obtain ⟨z, hz1, hz2⟩ := C.zok _ _ _ hz
  exact alloc_step ho hz1 hz2
end
attribute [irreducible] joinQ
end Go.AI
