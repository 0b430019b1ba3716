/-
  Results in memory of the call's own, read as data that nobody writes any more. No condition.
-/
import Derived.Test.YtmcljepicadjfaaGreatDoorZP
import Derived.Test.YtmcljepicadjfaaGreatDoorZE2
namespace Go.AI
open Go.RowKit
def FrzLF (h1 : Heap) (cs cs' : List A) : Prop := ∀ (F : Heap) (w : World) (vs : List Value), HeapOk (h1 ++ F) w → RelL (Im w (h1 ++ F)) w cs vs → RelL (Im w F) w cs' vs
theorem RelL.heapS {w : World} {h h0 : Heap} {cs : List A} {vs : List Value} (r : RelL (Im w h) w cs vs) (hs : h0.Sublist h) : RelL (Im w h0) w cs vs := ⟨r.1, fun j hj hj' => (r.2 j hj hj').heap hs⟩
theorem RelL.permS {w : World} {h h0 : Heap} {cs : List A} {vs : List Value} (r : RelL (Im w h) w cs vs) (hp : h.Perm h0) : RelL (Im w h0) w cs vs := r.stab fun _ hb => ⟨im_perm hp hb, rfl⟩
theorem FrzLF.nil {h : Heap} : FrzLF h [] [] := fun _ _ _ _ r => ⟨r.1, fun j hj => absurd hj (Nat.not_lt_zero _)⟩
theorem FrzF.same (h : Heap) (a : A) : FrzF h a a := fun F _ _ _ r => r.heap (List.sublist_append_right h F)
theorem FrzLF.cons {h1 h2 : Heap} {a a' : A} {cs cs' : List A} (H : FrzF h1 a a') (T : FrzLF h2 cs cs') : FrzLF (h1 ++ h2) (a :: cs) (a' :: cs') := fun F w vs ho r => by
  obtain ⟨v, us, rfl, r1, r2⟩ := r.uncons
  have p1 : (h1 ++ h2 ++ F).Perm (h1 ++ (h2 ++ F)) := by rw [List.append_assoc]
  have p2 : (h1 ++ h2 ++ F).Perm (h2 ++ (h1 ++ F)) := by classical exact List.perm_iff_count.2 fun _ => by simp only [List.count_append]; omega
  have q1 := H (h2 ++ F) w v (ho.perm p1) (by rw [← List.append_assoc]; exact r1)
  have q2 := T (h1 ++ F) w us (ho.perm p2) (r2.permS p2)
  exact RelL.cons (q1.heap (List.sublist_append_right _ _)) (q2.heapS (List.sublist_append_right _ _))
theorem FrzF.agg {h : Heap} {cs cs' : List A} (H : FrzLF h cs cs') : FrzF h (.agg cs) (.agg cs') := fun F w v ho r => by
  obtain ⟨vs, rfl, rl⟩ := r.agg_inv
  have q := H F w vs ho rl
  exact .agg _ _ q.1 q.2
theorem OwnC.frzF {α : Type} {E : α → List A → Heap → Prop} {enc : α → List A} {T z : Nat} {xs : List α} {a : A} {h : Heap} (hz : ∀ x, (enc x).length = z) (hz0 : Nat.blt 0 z = true) (hE : ∀ x cs h, E x cs h → FrzLF h cs (enc x)) (o : OwnC E T z xs a h) : FrzF h a (.sl (xs.map enc)) := by
  obtain ⟨b, cap, css, hs, l1, l2, hall, rfl, rfl⟩ := o
  intro F w v ho r
  cases b with
  | none =>
    obtain ⟨h1, h2, p, h3⟩ := r.osn_inv
    have : xs = [] := List.eq_nil_of_length_eq_zero h1
    subst this
    rw [h3]; exact .nil _ _
  | some b =>
  obtain ⟨e1, hlen⟩ := r.os_inv
  rw [e1]
  have hmem : (⟨some b, T, cap * z, (css.map Subtype.val).flatten⟩ : Blk) ∈ (⟨some b, T, cap * z, (css.map Subtype.val).flatten⟩ : Blk) :: hs.flatten ++ F := by simp
  obtain ⟨vs, rest, hb, hr, hrm⟩ := ho.at hmem
  have hlt := ho.lt (mem_keys hmem rfl)
  have hnm : b ∉ keys F := by
    have := ho.nodup
    have e2 : keys ((⟨some b, T, cap * z, (css.map Subtype.val).flatten⟩ : Blk) :: hs.flatten ++ F) = b :: (keys hs.flatten ++ keys F) := by simp [keys]
    rw [e2] at this
    exact fun q => (List.nodup_cons.1 this).1 (List.mem_append_right _ q)
  have hc2 : ∀ y : Cells z, (Subtype.val y).length = z := fun y => y.2
  have hvl : vs.length = xs.length * z := by rw [hr.1, flat_len hc2, l1]
  have hzp : 0 < z := Nat.le_of_ble_eq_true hz0
  have hcap : xs.length ≤ cap := by
    have : xs.length * z ≤ cap * z := by rw [hrm, ← hvl]; simp
    exact Nat.le_of_mul_le_mul_right this hzp
  have bound : ∀ i j, i < xs.length → j < z → i * z + j < xs.length * z := fun i j h1 h2 => by
    have : (i + 1) * z ≤ xs.length * z := Nat.mul_le_mul_right z h1
    rw [Nat.succ_mul] at this; omega
  have key : Rel (Im w F) w (.sl (xs.map enc)) (.slice (some ⟨b, 0, none⟩) (xs.map enc).length cap) := by
    refine .sl _ b 0 cap z (fun i j => vs.getD (i * z + j) undef) ⟨hlt, hnm⟩ (by simpa using hlen) (by simpa using hcap) (fun i hi => by simpa using hz _) (fun i j hi hj => ?_) (fun i j hi hj => ?_)
    · simp at hi
      have hv : i * z + j < vs.length := by rw [hvl]; exact bound i j hi hj
      rw [Nat.zero_add, cell_of_vs hb _ hv]; simp [hv]
    · simp only [List.length_map] at hi
      have hj' : j < z := by
        have := hz xs[i]
        simp only [List.getElem_map] at hj; omega
      have hi1 : i < css.length := by omega
      have hi2 : i < hs.length := by omega
      have seg : RelL (Im w ((⟨some b, T, cap * z, (css.map Subtype.val).flatten⟩ : Blk) :: hs.flatten ++ F)) w css[i].1 ((List.range z).map fun j => vs.getD (i * z + j) undef) := by
        refine ⟨by simp [css[i].2], fun q hq hq' => ?_⟩
        have hqz : q < z := by have := css[i].2; omega
        obtain ⟨u, hu1, hu2⟩ := hr.get (flat_get (f := Subtype.val) css i q hi1 hq hc2)
        have e3 : vs.getD (i * z + q) undef = u := by simp [hu1]
        simp only [List.getElem_map, List.getElem_range, e3]
        exact hu2
      have pf : hs.flatten.Perm (hs[i] ++ (hs.eraseIdx i).flatten) := by
        have := (perm_at (List.getElem?_eq_getElem hi2)).flatten
        simpa using this
      have pp : ((⟨some b, T, cap * z, (css.map Subtype.val).flatten⟩ : Blk) :: hs.flatten ++ F).Perm (hs[i] ++ ((⟨some b, T, cap * z, (css.map Subtype.val).flatten⟩ : Blk) :: ((hs.eraseIdx i).flatten ++ F))) := by
        classical
        refine List.perm_iff_count.2 fun x => ?_
        have q := List.perm_iff_count.1 pf x
        simp only [List.count_append, List.count_cons, List.cons_append] at q ⊢
        omega
      have := (hE _ _ _ (hall i hi hi1 hi2)) ((⟨some b, T, cap * z, (css.map Subtype.val).flatten⟩ : Blk) :: ((hs.eraseIdx i).flatten ++ F)) w _ (ho.perm pp) (seg.permS pp)
      have h3 := (this.heapS (h0 := F) (List.Sublist.cons _ (List.sublist_append_right _ _))).2 j (by rw [hz]; exact hj') (by simpa using hj')
      simpa using h3
  simpa using key
theorem OwnF.frzF {α : Type} {g : α → List A} {T z : Nat} {l : List α} {a : A} {h : Heap} (hz : ∀ y, (g y).length = z) (hz0 : Nat.blt 0 z = true) (o : OwnF g T z l a h) : FrzF h a (.sl (l.map g)) := by
  rcases o with ⟨b, cap, rfl, rfl⟩ | ⟨rfl, rfl, rfl⟩
  · exact FrzF.flat rfl rfl hz rfl hz0
  · exact FrzF.same _ _
theorem OwnLL.frzF {β : Type} {O : β → A → Heap → Prop} {enc : β → List (List A)} {T : Nat} {L : List β} {a : A} {h : Heap} (hO : ∀ x a h, O x a h → FrzF h a (.sl (enc x))) (o : OwnLL O T L a h) {e : β → List A} (he : ∀ x, e x = [.sl (enc x)]) : FrzF h a (.sl (L.map e)) := by
  rcases o with o | ⟨rfl, rfl, rfl⟩
  · exact (ownLL_c o).frzF (fun x => by rw [he]; rfl) rfl (fun x cs h ⟨a, e1, q⟩ => by
      rw [he, e1]
      have := FrzLF.cons (hO x a h q) (FrzLF.nil (h := []))
      rw [List.append_nil] at this; exact this)
  · exact FrzF.same _ _
end Go.AI

/-
  Results in memory of the call's own, of which something is known, read as data that nobody writes any more. No condition.
-/
namespace Go.AI
open Go.RowKit
theorem FrzF.tup {h : Heap} {cs cs' : List A} (H : FrzLF h cs cs') : FrzF h (.tup cs) (.tup cs') := fun F w v ho r => by
  obtain ⟨vs, rfl, rl⟩ := r.tup_inv
  have q := H F w vs ho rl
  exact .tup _ _ q.1 q.2

section
variable {C : Cx} {n : Nat} {Q : Exit → Env → Heap → Prop} {e : Env} {h : Heap} {l os : List Oper} {o : Oper} {f : Fl} {fs : List Fl} {B : List (Nat × Blk)}
theorem MStep.frz {P : Program} {R : A → Heap → Prop} {v' : A} (hm : MStep P o e h fun v h' => ∃ h1, R v h1 ∧ h' = h1 ++ h) (hF : ∀ v h1, R v h1 → FrzF h1 v v') : MStep P o e h fun v h' => v = v' ∧ h' = h := fun a w hs => by
  have := hm a w hs
  unfold Yields at this ⊢
  generalize (execOp a.eval o).run P w = r at this ⊢
  have conv : ∀ u w', (∃ v h2, (∃ h1, R v h1 ∧ h2 = h1 ++ h) ∧ Chg h h2 w w' ∧ Rel (Im w' h2) w' v u) → ∃ v h1, (v = v' ∧ h1 = h) ∧ Chg h h1 w w' ∧ Rel (Im w' h1) w' v u := fun u w' ⟨v, h2, ⟨h1, q1, q2⟩, q3, q4⟩ => by
    subst q2
    exact ⟨v', h, ⟨rfl, rfl⟩, q3.drop (List.Perm.refl _) (List.sublist_append_right h1 h), hF v h1 q1 h w' u q3.heap q4⟩
  cases r with
  | ok nx w' =>
    cases nx <;> first | exact conv _ _ this | (exact this.elim) | (exact this.mono fun e w'' ⟨u, he, hR⟩ => ⟨u, he, conv _ _ hR⟩)
  | halt x w' => exact this.elim
end
end Go.AI

/-
  More rules of the walk: is a list nil? No condition.
-/
namespace Go.AI
open Go.RowKit

section
variable {C : Cx} {n : Nat} {Q : Exit → Env → Heap → Prop} {e : Env} {h h' : Heap} {d : Bool} {l os : List Oper} {o : Oper} {f : Fl} {fs : List Fl} {B : List (Nat × Blk)}
end
end Go.AI

/-
  A cell of a variable of the call's own: the memory that it tells of is written no more. No condition.
-/
namespace Go.AI
open Go.RowKit
section
variable {e : Env} {h : Heap}
theorem view_cellF {b : Option Nat} {T room k : Nat} {cs : List A} {a a' : A} {h1 F : Heap} (hp : h.Perm (⟨b, T, room, cs⟩ :: (h1 ++ F))) (hk : cs[k]? = some a) (hf : FrzF h1 a a') : View e h e (⟨b, T, room, cs.set k a'⟩ :: F) := fun C n act w hc => by
  have hc1 := view_perm hp C n act w hc
  have hsub : (⟨b, T, room, cs⟩ :: F : Heap).Sublist (⟨b, T, room, cs⟩ :: (h1 ++ F)) := (List.sublist_append_right h1 F).cons_cons _
  have H := hc1.heap
  have H2 := H.sub hsub
  have hs2 := view_sub (e := e) hsub C n act w hc1
  refine ⟨hs2.defers, hs2.size, fun t v hv => hs2.env t v hv, ⟨H2.nodup, ?_, H2.tab.stab fun _ hb => ⟨hb, rfl⟩⟩, hs2.ext, hs2.own⟩
  intro q hq
  rcases List.mem_cons.1 hq with rfl | hq
  · have hb := H.blk _ (List.mem_cons_self)
    cases b with
    | none =>
      have := hb.1
      simp only at this
      rw [this] at hk; simp at hk
    | some b0 =>
      obtain ⟨vs, rest, e1, r, er⟩ := hb
      refine ⟨vs, rest, e1, ⟨by rw [List.length_set]; exact r.1, fun j hj hj' => ?_⟩, er⟩
      have hjc : j < cs.length := by rw [List.length_set] at hj; exact hj
      have rr := r.2 j hjc hj'
      by_cases hjk : k = j
      · subst hjk
        rw [List.getElem_set_self]
        rw [List.getElem?_eq_getElem hjc] at hk
        rw [Option.some.inj hk] at rr
        have hp2 : (⟨some b0, T, room, cs⟩ :: (h1 ++ F) : Heap).Perm (h1 ++ (⟨some b0, T, room, cs⟩ :: F)) := List.perm_middle.symm
        exact (hf (⟨some b0, T, room, cs⟩ :: F) w _ (H.perm hp2) (rr.stab fun _ hb => ⟨im_perm hp2 hb, rfl⟩)).stab fun _ hb => ⟨hb, rfl⟩
      · rw [List.getElem_set_ne hjk]
        exact rr.heap hsub
  · exact H2.blk q (List.mem_cons_of_mem _ hq)
end
section
variable {C : Cx} {n : Nat} {Q : Exit → Env → Heap → Prop} {e : Env} {h : Heap}

end
theorem Frz.ptr {hT : Heap} {b T room : Nat} {cs cs' : List A} (hm0 : (⟨some b, T, room, cs⟩ : Blk) ∈ hT) (hl : FrzL hT cs cs') : Frz hT (.op (some b) 0) (.ip cs') := fun F w v hm ho r => by
  have e := r.op_inv
  simp only [Option.map_some] at e
  rw [e]
  obtain ⟨vs, rest, hb, hr, hrm⟩ := ho.at (hm _ hm0)
  have hlt := ho.lt (mem_keys (hm _ hm0) rfl)
  have q := hl F w vs hm ho hr
  refine .ip cs' b 0 (fun j => vs.getD j undef) ⟨hlt, by simp [keys]⟩ (fun j hj => ?_) (fun j hj => ?_)
  · have hv : j < vs.length := by rw [q.1]; exact hj
    rw [Nat.zero_add, cell_of_vs hb _ hv]; simp [hv]
  · have hv : j < vs.length := by rw [q.1]; exact hj
    have := q.2 j hj hv
    simpa [hv] using this
end Go.AI
