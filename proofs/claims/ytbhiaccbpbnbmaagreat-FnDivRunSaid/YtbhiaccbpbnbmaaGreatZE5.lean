/-
  Results in memory of the call's own, read as data that nobody writes any more. No condition.
-/
import Derived.Test.YtbhiaccbpbnbmaaGreatZP
import Derived.Test.YtbhiaccbpbnbmaaGreatZJA
namespace Go.AI
open Go.RowKit
def FrzLF (h1 : Heap) (cs cs' : List A) : Prop := ∀ (F : Heap) (w : World) (vs : List Value), HeapOk (h1 ++ F) w → RelL (Im w (h1 ++ F)) w cs vs → RelL (Im w F) w cs' vs
theorem RelL.heapS {w : World} {h h0 : Heap} {cs : List A} {vs : List Value} (r : RelL (Im w h) w cs vs) (hs : h0.Sublist h) : RelL (Im w h0) w cs vs := ⟨r.1, fun j hj hj' => (r.2 j hj hj').heap hs⟩
theorem RelL.permS {w : World} {h h0 : Heap} {cs : List A} {vs : List Value} (r : RelL (Im w h) w cs vs) (hp : h.Perm h0) : RelL (Im w h0) w cs vs := r.stab fun _ hb => ⟨im_perm hp hb, rfl⟩
theorem FrzLF.nil {h : Heap} : FrzLF h [] [] := fun _ _ _ _ r => ⟨r.1, fun j hj => absurd hj (Nat.not_lt_zero _)⟩
theorem FrzF.same (h : Heap) (a : A) : FrzF h a a := fun F _ _ _ r => r.heap (List.sublist_append_right h F)
theorem FrzLF.cons {h1 h2 : Heap} {a a' : A} {cs cs' : List A} (H : FrzF h1 a a') (T : FrzLF h2 cs cs') : FrzLF (h1 ++ h2) (a :: cs) (a' :: cs') := fun F w vs ho r => by
  obtain ⟨v, us, rfl, r1, r2⟩ := r.uncons
  have p1 : (h1 ++ h2 ++ F).Perm (h1 ++ (h2 ++ F)) := by rw [List.append_assoc]
  have p2 : (h1 ++ h2 ++ F).Perm (h2 ++ (h1 ++ F)) := by classical exact List.perm_iff_count.2 fun _ => by simp only [List.count_append]; omega
  have q1 := H (h2 ++ F) w v (ho.perm p1) (by rw [← List.append_assoc]; exact r1)
  have q2 := T (h1 ++ F) w us (ho.perm p2) (r2.permS p2)
  exact RelL.cons (q1.heap (List.sublist_append_right _ _)) (q2.heapS (List.sublist_append_right _ _))
theorem FrzF.agg {h : Heap} {cs cs' : List A} (H : FrzLF h cs cs') : FrzF h (.agg cs) (.agg cs') := fun F w v ho r => by
  obtain ⟨vs, rfl, rl⟩ := r.agg_inv
  have q := H F w vs ho rl
  exact .agg _ _ q.1 q.2
theorem OwnC.frzF {α : Type} {E : α → List A → Heap → Prop} {enc : α → List A} {T z : Nat} {xs : List α} {a : A} {h : Heap} (hz : ∀ x, (enc x).length = z) (hz0 : Nat.blt 0 z = true) (hE : ∀ x cs h, E x cs h → FrzLF h cs (enc x)) (o : OwnC E T z xs a h) : FrzF h a (.sl (xs.map enc)) := by
  obtain ⟨b, cap, css, hs, l1, l2, hall, rfl, rfl⟩ := o
  intro F w v ho r
  cases b with
  | none =>
    obtain ⟨h1, h2, p, h3⟩ := r.osn_inv
    have : xs = [] := List.eq_nil_of_length_eq_zero h1
    subst this
    rw [h3]; exact .nil _ _
  | some b =>
  obtain ⟨e1, hlen⟩ := r.os_inv
  rw [e1]
  have hmem : (⟨some b, T, cap * z, (css.map Subtype.val).flatten⟩ : Blk) ∈ (⟨some b, T, cap * z, (css.map Subtype.val).flatten⟩ : Blk) :: hs.flatten ++ F := by simp
  obtain ⟨vs, rest, hb, hr, hrm⟩ := ho.at hmem
  have hlt := ho.lt (mem_keys hmem rfl)
  have hnm : b ∉ keys F := by
    have := ho.nodup
    have e2 : keys ((⟨some b, T, cap * z, (css.map Subtype.val).flatten⟩ : Blk) :: hs.flatten ++ F) = b :: (keys hs.flatten ++ keys F) := by simp [keys]
    rw [e2] at this
    exact fun q => (List.nodup_cons.1 this).1 (List.mem_append_right _ q)
  have hc2 : ∀ y : Cells z, (Subtype.val y).length = z := fun y => y.2
  have hvl : vs.length = xs.length * z := by rw [hr.1, flat_len hc2, l1]
  have hzp : 0 < z := Nat.le_of_ble_eq_true hz0
  have hcap : xs.length ≤ cap := by
    have : xs.length * z ≤ cap * z := by rw [hrm, ← hvl]; simp
    exact Nat.le_of_mul_le_mul_right this hzp
  have bound : ∀ i j, i < xs.length → j < z → i * z + j < xs.length * z := fun i j h1 h2 => by
    have : (i + 1) * z ≤ xs.length * z := Nat.mul_le_mul_right z h1
    rw [Nat.succ_mul] at this; omega
  have key : Rel (Im w F) w (.sl (xs.map enc)) (.slice (some ⟨b, 0, none⟩) (xs.map enc).length cap) := by
    refine .sl _ b 0 cap z (fun i j => vs.getD (i * z + j) undef) ⟨hlt, hnm⟩ (by simpa using hlen) (by simpa using hcap) (fun i hi => by simpa using hz _) (fun i j hi hj => ?_) (fun i j hi hj => ?_)
    · simp at hi
      have hv : i * z + j < vs.length := by rw [hvl]; exact bound i j hi hj
      rw [Nat.zero_add, cell_of_vs hb _ hv]; simp [hv]
    · simp only [List.length_map] at hi
      have hj' : j < z := by
        have := hz xs[i]
        simp only [List.getElem_map] at hj; omega
      have hi1 : i < css.length := by omega
      have hi2 : i < hs.length := by omega
      have seg : RelL (Im w ((⟨some b, T, cap * z, (css.map Subtype.val).flatten⟩ : Blk) :: hs.flatten ++ F)) w css[i].1 ((List.range z).map fun j => vs.getD (i * z + j) undef) := by
        refine ⟨by simp [css[i].2], fun q hq hq' => ?_⟩
        have hqz : q < z := by have := css[i].2; omega
        obtain ⟨u, hu1, hu2⟩ := hr.get (flat_get (f := Subtype.val) css i q hi1 hq hc2)
        have e3 : vs.getD (i * z + q) undef = u := by simp [hu1]
        simp only [List.getElem_map, List.getElem_range, e3]
        exact hu2
      have pf : hs.flatten.Perm (hs[i] ++ (hs.eraseIdx i).flatten) := by
        have := (perm_at (List.getElem?_eq_getElem hi2)).flatten
        simpa using this
      have pp : ((⟨some b, T, cap * z, (css.map Subtype.val).flatten⟩ : Blk) :: hs.flatten ++ F).Perm (hs[i] ++ ((⟨some b, T, cap * z, (css.map Subtype.val).flatten⟩ : Blk) :: ((hs.eraseIdx i).flatten ++ F))) := by
        classical
        refine List.perm_iff_count.2 fun x => ?_
        have q := List.perm_iff_count.1 pf x
        simp only [List.count_append, List.count_cons, List.cons_append] at q ⊢
        omega
      have := (hE _ _ _ (hall i hi hi1 hi2)) ((⟨some b, T, cap * z, (css.map Subtype.val).flatten⟩ : Blk) :: ((hs.eraseIdx i).flatten ++ F)) w _ (ho.perm pp) (seg.permS pp)
      have h3 := (this.heapS (h0 := F) (List.Sublist.cons _ (List.sublist_append_right _ _))).2 j (by rw [hz]; exact hj') (by simpa using hj')
      simpa using h3
  simpa using key
theorem OwnF.frzF {α : Type} {g : α → List A} {T z : Nat} {l : List α} {a : A} {h : Heap} (hz : ∀ y, (g y).length = z) (hz0 : Nat.blt 0 z = true) (o : OwnF g T z l a h) : FrzF h a (.sl (l.map g)) := by
  rcases o with ⟨b, cap, rfl, rfl⟩ | ⟨rfl, rfl, rfl⟩
  · exact FrzF.flat rfl rfl hz rfl hz0
  · exact FrzF.same _ _
theorem OwnLL.frzF {β : Type} {O : β → A → Heap → Prop} {enc : β → List (List A)} {T : Nat} {L : List β} {a : A} {h : Heap} (hO : ∀ x a h, O x a h → FrzF h a (.sl (enc x))) (o : OwnLL O T L a h) {e : β → List A} (he : ∀ x, e x = [.sl (enc x)]) : FrzF h a (.sl (L.map e)) := by
  rcases o with o | ⟨rfl, rfl, rfl⟩
  · exact (ownLL_c o).frzF (fun x => by rw [he]; rfl) rfl (fun x cs h ⟨a, e1, q⟩ => by
      rw [he, e1]
      have := FrzLF.cons (hO x a h q) (FrzLF.nil (h := []))
      rw [List.append_nil] at this; exact this)
  · exact FrzF.same _ _
end Go.AI

/-
  A pointer to an element of a list of the call's own, read as data. No condition.
-/
namespace Go.AI
open Go.RowKit
theorem Frz.ptrE {α : Type} {g : α → List A} {L : List α} {z i : Nat} {hT : Heap} {b T room : Nat} (hz : ∀ y, (g y).length = z) (hi : i < L.length) (hm0 : (⟨some b, T, room, (L.map g).flatten⟩ : Blk) ∈ hT) : Frz hT (.op (some b) (i * z)) (.ip (g L[i])) := fun F w v hm ho r => by
  have e := r.op_inv
  simp only [Option.map_some] at e
  rw [e]
  obtain ⟨vs, rest, hb, hr, hrm⟩ := ho.at (hm _ hm0)
  have hlt := ho.lt (mem_keys (hm _ hm0) rfl)
  have hvl : vs.length = L.length * z := by rw [hr.1, flat_len hz]
  have bnd : ∀ j, j < z → i * z + j < vs.length := fun j hj => by
    have : (i + 1) * z ≤ L.length * z := Nat.mul_le_mul_right z hi
    rw [Nat.succ_mul] at this
    omega
  refine .ip (g L[i]) b (i * z) (fun j => vs.getD (i * z + j) undef) ⟨hlt, by simp [keys]⟩ (fun j hj => ?_) (fun j hj => ?_)
  · have hv := bnd j (by rw [← hz L[i]]; exact hj)
    rw [cell_of_vs hb _ hv]; simp [hv]
  · obtain ⟨u, hu1, hu2⟩ := hr.get (flat_get (f := g) L i j hi hj hz)
    have e3 : vs.getD (i * z + j) undef = u := by simp [hu1]
    rw [e3]
    exact hu2.heap (List.nil_sublist _)
end Go.AI

/-
  A cell of a variable of the call's own: the memory that it tells of is written no more. No condition.
-/
namespace Go.AI
open Go.RowKit
section
variable {e : Env} {h : Heap}
theorem view_cellF {b : Option Nat} {T room k : Nat} {cs : List A} {a a' : A} {h1 F : Heap} (hp : h.Perm (⟨b, T, room, cs⟩ :: (h1 ++ F))) (hk : cs[k]? = some a) (hf : FrzF h1 a a') : View e h e (⟨b, T, room, cs.set k a'⟩ :: F) := fun C n act w hc => by
  have hc1 := view_perm hp C n act w hc
  have hsub : (⟨b, T, room, cs⟩ :: F : Heap).Sublist (⟨b, T, room, cs⟩ :: (h1 ++ F)) := (List.sublist_append_right h1 F).cons_cons _
  have H := hc1.heap
  have H2 := H.sub hsub
  have hs2 := view_sub (e := e) hsub C n act w hc1
  refine ⟨hs2.defers, hs2.size, fun t v hv => hs2.env t v hv, ⟨H2.nodup, ?_, H2.tab.stab fun _ hb => ⟨hb, rfl⟩⟩, hs2.ext, hs2.own⟩
  intro q hq
  rcases List.mem_cons.1 hq with rfl | hq
  · have hb := H.blk _ (List.mem_cons_self)
    cases b with
    | none =>
      have := hb.1
      simp only at this
      rw [this] at hk; simp at hk
    | some b0 =>
      obtain ⟨vs, rest, e1, r, er⟩ := hb
      refine ⟨vs, rest, e1, ⟨by rw [List.length_set]; exact r.1, fun j hj hj' => ?_⟩, er⟩
      have hjc : j < cs.length := by rw [List.length_set] at hj; exact hj
      have rr := r.2 j hjc hj'
      by_cases hjk : k = j
      · subst hjk
        rw [List.getElem_set_self]
        rw [List.getElem?_eq_getElem hjc] at hk
        rw [Option.some.inj hk] at rr
        have hp2 : (⟨some b0, T, room, cs⟩ :: (h1 ++ F) : Heap).Perm (h1 ++ (⟨some b0, T, room, cs⟩ :: F)) := List.perm_middle.symm
        exact (hf (⟨some b0, T, room, cs⟩ :: F) w _ (H.perm hp2) (rr.stab fun _ hb => ⟨im_perm hp2 hb, rfl⟩)).stab fun _ hb => ⟨hb, rfl⟩
      · rw [List.getElem_set_ne hjk]
        exact rr.heap hsub
  · exact H2.blk q (List.mem_cons_of_mem _ hq)
theorem rev3 {α : Type} {a b c : α} {l : List α} : (a :: b :: c :: l).Perm (c :: b :: a :: l) := (List.Perm.swap b a _).trans ((List.Perm.cons b (List.Perm.swap c a _)).trans (List.Perm.swap c b _))
end
section
variable {C : Cx} {n : Nat} {Q : Exit → Env → Heap → Prop} {e : Env} {h : Heap}

end
theorem Frz.ptr {hT : Heap} {b T room : Nat} {cs cs' : List A} (hm0 : (⟨some b, T, room, cs⟩ : Blk) ∈ hT) (hl : FrzL hT cs cs') : Frz hT (.op (some b) 0) (.ip cs') := fun F w v hm ho r => by
  have e := r.op_inv
  simp only [Option.map_some] at e
  rw [e]
  obtain ⟨vs, rest, hb, hr, hrm⟩ := ho.at (hm _ hm0)
  have hlt := ho.lt (mem_keys (hm _ hm0) rfl)
  have q := hl F w vs hm ho hr
  refine .ip cs' b 0 (fun j => vs.getD j undef) ⟨hlt, by simp [keys]⟩ (fun j hj => ?_) (fun j hj => ?_)
  · have hv : j < vs.length := by rw [q.1]; exact hj
    rw [Nat.zero_add, cell_of_vs hb _ hv]; simp [hv]
  · have hv : j < vs.length := by rw [q.1]; exact hj
    have := q.2 j hj hv
    simpa [hv] using this
end Go.AI

/-
  'append([]E{}, t...)' that is written no more: data. No condition.
-/
namespace Go.AI
open Go.RowKit
section
variable {C : Cx} {n : Nat} {Q : Exit → Env → Heap → Prop} {e : Env} {h : Heap} {l os : List Oper} {o : Oper} {f : Fl} {fs : List Fl} {B : List (Nat × Blk)}
end
end Go.AI

/-
  Joins behind an 'if'; an operation that floats behind others; 'make' that is written no more. No condition.
-/
namespace Go.AI
open Go.RowKit
section
variable {C : Cx} {n : Nat} {Q : Exit → Env → Heap → Prop} {e e' : Env} {h h' : Heap} {l os : List Oper} {o : Oper} {f : Fl} {fs : List Fl} {B : List (Nat × Blk)}
/-- What two ways come to: I what the slots hold in state s, H the memory of the call's own, G what is known of s. -/
def joinQ {σ : Type} (I : σ → Env) (H : σ → Heap) (G : σ → Prop) (Q : Exit → Env → Heap → Prop) : Exit → Env → Heap → Prop
  | .normal, e, h => ∃ s e', G s ∧ View e h e' (H s) ∧ EnvLe e' (I s)
  | x, e, h => Q x e h
theorem run_join {σ : Type} (I : σ → Env) (H : σ → Heap) (G : σ → Prop) {x y : Code} (h1 : Run C n x (joinQ I H G Q) e h) (h2 : ∀ s, G s → Run C n y Q (I s) (H s)) : Run C n x (seqQ C n y Q) e h := by
  unfold Run at *
  refine fun a w hc => wp_mono (h1 a w hc) fun ex a w hq => ?_
  obtain ⟨e', h', hc', hq'⟩ := hq
  cases ex with
  | normal =>
    obtain ⟨s, e2, g, v, le⟩ := hq'
    refine ⟨I s, H s, (v _ _ _ _ hc').sub le.sub, ?_⟩
    unfold seqQ Run
    exact h2 s g
  | _ =>
    refine ⟨e', h', hc', ?_⟩
    unfold seqQ
    exact hq'
theorem joinQ_done {σ : Type} {I : σ → Env} {H : σ → Heap} {G : σ → Prop} (s : σ) (hG : G s) (hh : h = H s) (hI : EnvLe e (I s)) : joinQ I H G Q .normal e h := ⟨s, e, hG, hh ▸ View.refl e h, hI⟩
/-- A writing operation and one behind it that is data whatever the memory: in whichever order. -/
theorem j_floatO {R : A → Heap → Prop} {g : Fl} {o2 : Oper} {v2 : A} {dd dd2 : Nat} (hf : f.m = true) (hp : Nat.blt 0 f.p = true) (hgm : g.m = false) (hgt : g.tight = false) (hw : wantE l e o = some true) (hm : MStep C.P o e h R) (hd : o.dst = some dd) (hn : Nat.blt dd n = true)
    (hw2 : wantE l e o2 = some true) (hq2 : ∀ h', Quiet C.P o2 e h' v2) (hd2 : o2.dst = some dd2) (hn2 : Nat.blt dd2 n = true) (hj : ∀ v h', R v h' → JO (g :: fs) [] C n l (o2 :: os) Q ((dd, v) :: e) h')
    (hj2 : JO ({ f with p := f.p - 1 } :: fs) [] C n l (o :: os) Q ((dd2, v2) :: e) h) (hna : (o2.after.toList.all fun e => !Region.binds .any e || !(e.on == f.i)) = true := by rfl) : JO (f :: g :: fs) [] C n l (o :: o2 :: os) Q e h := by
  unfold JO at *
  exact fun ha => .wrq hf (Nat.ne_of_gt (Nat.le_of_ble_eq_true hp)) hgm hgt hna ha.1 hw (by rw [hd]; exact hn) hm (fun _ _ _ k hk => nomatch hk) (fun v h' hR => by rw [hd]; exact hj v h' hR ha.2)
    ha.2.1 hw2 (by rw [hd2]; exact hn2) hq2 (by rw [hd2]; exact hj2 ⟨ha.1, ha.2.2⟩)
theorem alloc_at {T bytes : Nat} {zk : List ZK} (ho : o.op = .alloc T) (hz : C.zt T = some (zk, bytes)) : MStep C.P o e h (fun v h' => ∃ b, v = .op (some b) 0 ∧ h' = ⟨some b, T, zk.length, zk.map ZK.a⟩ :: h) := by
  obtain ⟨z, hz1, hz2⟩ := C.zok _ _ _ hz
  exact alloc_step ho hz1 hz2
end
attribute [irreducible] joinQ
end Go.AI

/-
  Sorting by merging: plain facts on lists. No condition.
-/
namespace Go.AI

/-- An order in which any two elements can be compared. -/
structure TotO {α : Type} (le : α → α → Prop) : Prop where
  tot : ∀ a b, le a b ∨ le b a
  tr : ∀ a b c, le a b → le b c → le a c
theorem TotO.rfl' {α : Type} {le : α → α → Prop} (h : TotO le) (a : α) : le a a := (h.tot a a).elim id id
section
variable {α : Type} {le : α → α → Prop}
theorem asc_at {l : List α} (h : l.Pairwise le) {i j : Nat} (hi : i < l.length) (hj : j < l.length) (q : i < j) : le l[i] l[j] := List.pairwise_iff_getElem.1 h i j hi hj q
theorem asc_le (ho : TotO le) {l : List α} (h : l.Pairwise le) {i j : Nat} (hi : i < l.length) (hj : j < l.length) (q : i ≤ j) : le l[i] l[j] := by
  rcases Nat.lt_or_eq_of_le q with r | r
  · exact asc_at h hi hj r
  · subst r; exact ho.rfl' _
theorem mem_take_at {l : List α} {s : Nat} {x : α} (h : x ∈ l.take s) : ∃ i, ∃ hi : i < l.length, i < s ∧ l[i] = x := by
  obtain ⟨i, hi, e⟩ := List.getElem_of_mem h
  rw [List.length_take] at hi
  rw [List.getElem_take] at e
  exact ⟨i, by omega, by omega, e⟩
theorem mem_drop_at {l : List α} {s : Nat} {x : α} (h : x ∈ l.drop s) : ∃ i, ∃ hi : i < l.length, s ≤ i ∧ l[i] = x := by
  obtain ⟨i, hi, e⟩ := List.getElem_of_mem h
  rw [List.length_drop] at hi
  rw [List.getElem_drop] at e
  exact ⟨s + i, by omega, by omega, e⟩
/-- Two ascending lists, each parted so that what is below goes before what is above. -/
theorem cross (ho : TotO le) {A B : List α} (hA : A.Pairwise le) (hB : B.Pairwise le) {s e : Nat} (hs : s ≤ A.length) (he : e ≤ B.length)
    (h1 : ∀ (p : 0 < s) (q : e < B.length), le (A[s - 1]'(by omega)) B[e]) (h2 : ∀ (p : 0 < e) (q : s < A.length), le (B[e - 1]'(by omega)) A[s]) :
    ∀ x ∈ A.take s ++ B.take e, ∀ y ∈ A.drop s ++ B.drop e, le x y := by
  intro x hx y hy
  rcases List.mem_append.1 hx with hx | hx
  · obtain ⟨i, hi, q1, rfl⟩ := mem_take_at hx
    rcases List.mem_append.1 hy with hy | hy
    · obtain ⟨j, hj, q2, rfl⟩ := mem_drop_at hy
      exact asc_at hA hi hj (by omega)
    · obtain ⟨j, hj, q2, rfl⟩ := mem_drop_at hy
      exact ho.tr _ _ _ (asc_le ho hA hi (by omega) (by omega)) (ho.tr _ _ _ (h1 (by omega) (by omega)) (asc_le ho hB (by omega) hj q2))
  · obtain ⟨i, hi, q1, rfl⟩ := mem_take_at hx
    rcases List.mem_append.1 hy with hy | hy
    · obtain ⟨j, hj, q2, rfl⟩ := mem_drop_at hy
      exact ho.tr _ _ _ (asc_le ho hB hi (by omega) (by omega)) (ho.tr _ _ _ (h2 (by omega) (by omega)) (asc_le ho hA (by omega) hj q2))
    · obtain ⟨j, hj, q2, rfl⟩ := mem_drop_at hy
      exact asc_at hB hi hj (by omega)
theorem merge_of {A B M N : List α} {s e : Nat} (hx : ∀ x ∈ A.take s ++ B.take e, ∀ y ∈ A.drop s ++ B.drop e, le x y)
    (hM : M.Perm (A.take s ++ B.take e)) (hN : N.Perm (A.drop s ++ B.drop e)) (sM : M.Pairwise le) (sN : N.Pairwise le) : (M ++ N).Perm (A ++ B) ∧ (M ++ N).Pairwise le := by
  refine ⟨?_, List.pairwise_append.2 ⟨sM, sN, fun x h1 y h2 => hx x (hM.mem_iff.1 h1) y (hN.mem_iff.1 h2)⟩⟩
  have h1 : (M ++ N).Perm ((A.take s ++ B.take e) ++ (A.drop s ++ B.drop e)) := hM.append hN
  refine h1.trans ?_
  have h2 : ((A.take s ++ B.take e) ++ (A.drop s ++ B.drop e)).Perm ((A.take s ++ A.drop s) ++ (B.take e ++ B.drop e)) := by
    rw [List.append_assoc, List.append_assoc]
    refine List.Perm.append_left _ ?_
    rw [← List.append_assoc, ← List.append_assoc]
    exact List.Perm.append_right _ List.perm_append_comm
  rw [List.take_append_drop, List.take_append_drop] at h2
  exact h2
/-- An element put into an ascending list. -/
def insAt (t : Nat) (x : α) (l : List α) : List α := l.take t ++ x :: l.drop t
theorem insAt_len (t : Nat) (x : α) (l : List α) : (insAt t x l).length = l.length + 1 := by
  unfold insAt
  rw [List.length_append, List.length_cons, List.length_take, List.length_drop]; omega
theorem insAt_perm (t : Nat) (x : α) (l : List α) : (insAt t x l).Perm (x :: l) := by
  unfold insAt
  have := List.perm_middle (a := x) (l₁ := l.take t) (l₂ := l.drop t)
  rw [List.take_append_drop] at this
  exact this
theorem insAt_asc (ho : TotO le) {t : Nat} {x : α} {l : List α} (h : l.Pairwise le) (ht : t ≤ l.length) (h1 : ∀ p : 0 < t, le (l[t - 1]'(by omega)) x) (h2 : ∀ q : t < l.length, le x l[t]) : (insAt t x l).Pairwise le := by
  unfold insAt
  have hs : (l.take t ++ l.drop t).Pairwise le := by rw [List.take_append_drop]; exact h
  obtain ⟨s1, s2, s3⟩ := List.pairwise_append.1 hs
  have b1 : ∀ y ∈ l.take t, le y x := fun y hy => by
    obtain ⟨i, hi, q, rfl⟩ := mem_take_at hy
    exact ho.tr _ _ _ (asc_le ho h hi (by omega) (by omega)) (h1 (by omega))
  have b2 : ∀ y ∈ l.drop t, le x y := fun y hy => by
    obtain ⟨i, hi, q, rfl⟩ := mem_drop_at hy
    exact ho.tr _ _ _ (h2 (by omega)) (asc_le ho h (by omega) hi q)
  refine List.pairwise_append.2 ⟨s1, List.pairwise_cons.2 ⟨b2, s2⟩, fun y hy z hz => ?_⟩
  rcases List.mem_cons.1 hz with rfl | hz
  · exact b1 y hy
  · exact s3 y hy z hz
theorem insAt_zero (x : α) (l : List α) : insAt 0 x l = x :: l := rfl
theorem insAt_all (x : α) (l : List α) : insAt l.length x l = l ++ [x] := by unfold insAt; rw [List.take_length, List.drop_length]
theorem insAt_up {t : Nat} (x : α) {l : List α} (ht : t < l.length) : insAt t x l = l.take t ++ x :: l[t] :: l.drop (t + 1) := by
  unfold insAt; rw [List.drop_eq_getElem_cons ht]
theorem insAt_dn {t : Nat} (x : α) {l : List α} (ht : t < l.length) : insAt (t + 1) x l = l.take t ++ l[t] :: x :: l.drop (t + 1) := by
  unfold insAt; rw [List.take_succ_eq_append_getElem ht, List.append_assoc]; rfl
/-- Neighbours change places. -/
theorem swap_nb (U V : List α) (x y : α) : ((U ++ x :: y :: V).set U.length y).set (U.length + 1) x = U ++ y :: x :: V := by
  rw [List.set_append_right _ _ (Nat.le_refl _), Nat.sub_self, List.set_cons_zero, List.set_append_right _ _ (by omega), show U.length + 1 - U.length = 1 from by omega]
  rfl
theorem swap_nb' (U V : List α) (x y : α) : ((U ++ x :: y :: V).set (U.length + 1) x).set U.length y = U ++ y :: x :: V := by
  rw [List.set_append_right _ _ (by omega), show U.length + 1 - U.length = 1 from by omega, List.set_append_right _ _ (Nat.le_refl _), Nat.sub_self]
  rfl
/-- Two far elements change places. -/
theorem swap_far (U M V : List α) (x y : α) : ((U ++ x :: (M ++ y :: V)).set U.length y).set (U.length + 1 + M.length) x = U ++ y :: (M ++ x :: V) := by
  rw [List.set_append_right _ _ (Nat.le_refl _), Nat.sub_self, List.set_cons_zero, List.set_append_right _ _ (by omega), show U.length + 1 + M.length - U.length = M.length + 1 from by omega, List.set_cons_succ, List.set_append_right _ _ (Nat.le_refl _), Nat.sub_self, List.set_cons_zero]
/-- Two stretches, of which the first k elements have changed places. -/
def swK (U X M Y V : List α) (k : Nat) : List α := U ++ (Y.take k ++ X.drop k) ++ M ++ (X.take k ++ Y.drop k) ++ V
theorem swK_zero (U X M Y V : List α) : swK U X M Y V 0 = U ++ X ++ M ++ Y ++ V := by unfold swK; simp
theorem swK_all {U X M Y V : List α} {n : Nat} (hx : X.length = n) (hy : Y.length = n) : swK U X M Y V n = U ++ Y ++ M ++ X ++ V := by
  unfold swK
  rw [List.take_of_length_le (Nat.le_of_eq hy), List.drop_eq_nil_of_le (Nat.le_of_eq hx), List.take_of_length_le (Nat.le_of_eq hx), List.drop_eq_nil_of_le (Nat.le_of_eq hy), List.append_nil, List.append_nil]
theorem swK_len {U X M Y V : List α} {n : Nat} (hx : X.length = n) (hy : Y.length = n) {k : Nat} (hk : k ≤ n) : (swK U X M Y V k).length = U.length + n + M.length + n + V.length := by
  unfold swK
  simp only [List.length_append, List.length_take, List.length_drop]
  omega
theorem swK_form {U X M Y V : List α} {n : Nat} (hx : X.length = n) (hy : Y.length = n) {k : Nat} (hk : k < n) :
    swK U X M Y V k = (U ++ Y.take k) ++ (X[k]'(by omega)) :: ((X.drop (k + 1) ++ M ++ X.take k) ++ (Y[k]'(by omega)) :: (Y.drop (k + 1) ++ V)) := by
  unfold swK
  rw [List.drop_eq_getElem_cons (show k < X.length by omega), List.drop_eq_getElem_cons (show k < Y.length by omega)]
  simp only [List.append_assoc, List.cons_append]
theorem swK_next {U X M Y V : List α} {n : Nat} (hx : X.length = n) (hy : Y.length = n) {k : Nat} (hk : k < n) :
    ((swK U X M Y V k).set (U.length + k) (Y[k]'(by omega))).set (U.length + n + M.length + k) (X[k]'(by omega)) = swK U X M Y V (k + 1) := by
  rw [swK_form hx hy hk]
  have e1 : (U ++ Y.take k).length = U.length + k := by rw [List.length_append, List.length_take]; omega
  have e2 : (U ++ Y.take k).length + 1 + (X.drop (k + 1) ++ M ++ X.take k).length = U.length + n + M.length + k := by
    simp only [List.length_append, List.length_drop, List.length_take]; omega
  rw [← e1, ← e2, swap_far]
  unfold swK
  rw [List.take_succ_eq_append_getElem (show k < Y.length by omega), List.take_succ_eq_append_getElem (show k < X.length by omega)]
  simp only [List.append_assoc, List.cons_append, List.nil_append]
theorem swK_x {U X M Y V : List α} {n : Nat} (hx : X.length = n) (hy : Y.length = n) {k : Nat} (hk : k < n) (h : U.length + k < (swK U X M Y V k).length) : (swK U X M Y V k)[U.length + k] = X[k]'(by omega) := by
  have e : (swK U X M Y V k)[U.length + k]? = some (X[k]'(by omega)) := by
    have e1 : (U ++ Y.take k).length = U.length + k := by rw [List.length_append, List.length_take]; omega
    rw [swK_form hx hy hk, ← e1, List.getElem?_append_right (Nat.le_refl _), Nat.sub_self]; rfl
  rw [List.getElem?_eq_getElem h] at e
  exact Option.some.inj e
theorem swK_y {U X M Y V : List α} {n : Nat} (hx : X.length = n) (hy : Y.length = n) {k : Nat} (hk : k < n) (h : U.length + n + M.length + k < (swK U X M Y V k).length) : (swK U X M Y V k)[U.length + n + M.length + k] = Y[k]'(by omega) := by
  have e : (swK U X M Y V k)[U.length + n + M.length + k]? = some (Y[k]'(by omega)) := by
    have e2 : (U ++ Y.take k).length + 1 + (X.drop (k + 1) ++ M ++ X.take k).length = U.length + n + M.length + k := by
      simp only [List.length_append, List.length_drop, List.length_take]; omega
    rw [swK_form hx hy hk, ← e2, List.getElem?_append_right (by omega), show (U ++ Y.take k).length + 1 + (X.drop (k + 1) ++ M ++ X.take k).length - (U ++ Y.take k).length = (X.drop (k + 1) ++ M ++ X.take k).length + 1 from by omega, List.getElem?_cons_succ, List.getElem?_append_right (Nat.le_refl _), Nat.sub_self]; rfl
  rw [List.getElem?_eq_getElem h] at e
  exact Option.some.inj e
/-- Stretches of so many elements, each ascending, from the place a on. -/
def Blocks (le : α → α → Prop) (bs : Nat) (l : List α) : Prop := ∀ q, ((l.drop (q * bs)).take bs).Pairwise le
theorem Blocks.one {bs : Nat} {l : List α} (h : Blocks le bs l) (hl : l.length ≤ bs) : l.Pairwise le := by
  have := h 0
  rw [Nat.zero_mul, List.drop_zero, List.take_of_length_le hl] at this
  exact this
end
end Go.AI

/-
  Rules of the walk for 'int(uint(x) >> 1)'. No condition.
-/
namespace Go.AI
open Go.RowKit
section
variable {C : Cx} {n : Nat} {Q : Exit → Env → Heap → Prop} {e : Env} {h : Heap} {d : Bool} {l os : List Oper} {o : Oper} {f : Fl} {fs : List Fl} {B : List (Nat × Blk)}
theorem u2iW_quiet {s t sz sz2 : Nat} {x : Operand} {m : Int} (ho : o.op = .convert s t x) (hs : C.ty s = some ⟨sz, .ik .u64⟩) (ht : C.ty t = some ⟨sz2, .ik .i64⟩) (hx : evO e x = some (.raw (.int .u64 m))) (hm : 0 ≤ m ∧ m ≤ 9223372036854775807) : Quiet C.P o e h (.int m) := by
  apply Quiet.of_same
  intro a w hst
  have hops := hst.ops
  rw [ho] at hops
  have h1 := C.ok _ _ hs; have h2 := C.ok _ _ ht
  simp only [TIok, Bool.and_eq_true] at h1 h2
  have e1 := (hops x (by simp [Op.operands]) _ hx).raw_inv
  have hw : IntKind.i64.wrap m = m := by simp [IntKind.wrap, IntKind.bits, IntKind.signed]; omega
  exact ⟨.int .i64 m, by simp [execOp, ho, e1, convert, underlying, und_ik h1.2, und_ik h2.2, Conv.intToInt, hw], .int _ (by unfold InR; omega)⟩
theorem j_shr1u {t t2 dd : Nat} {x y : Operand} {m : Int} {kk : IntKind} (hw : wantE l e o = some true) (ho : o.op = .binOp .shr t x y t2) (hx : evO e x = some (.raw (.int .u64 m))) (hy : evO e y = some (.raw (.int kk 1))) (hd : o.dst = some dd) (hn : Nat.blt dd n = true)
    (hj : J d C n l os Q ((dd, .raw (.int .u64 (m / 2))) :: e) h) : J d C n l (o :: os) Q e h := j_quiet hw (fun _ => by
      have q := u64shr_quiet (C := C) (e := e) (h := ‹Heap›) (kk := kk) ho hx (.inl hy) (by decide)
      have e1 : m.fdiv (2 ^ (min (1 : Int).toNat 64)) = m / 2 := by
        rw [Int.fdiv_eq_ediv_of_nonneg _ (by decide)]; rfl
      rw [e1] at q; exact q) hd hn hj
theorem j_half {s t sz sz2 dd : Nat} {x : Operand} {m : Int} (k : Nat) (hw : wantE l e o = some true) (ho : o.op = .convert s t x) (hs : C.ty s = some ⟨sz, .ik .u64⟩) (ht : C.ty t = some ⟨sz2, .ik .i64⟩) (hx : evO e x = some (.raw (.int .u64 m))) (hm : m = (k : Int) ∧ k ≤ 9223372036854775807) (hd : o.dst = some dd) (hn : Nat.blt dd n = true)
    (hj : J d C n l os Q ((dd, .int (k : Int)) :: e) h) : J d C n l (o :: os) Q e h := j_quiet hw (fun _ => by
      have q := u2iW_quiet (h := ‹Heap›) ho hs ht hx (by omega)
      rw [hm.1] at q; exact q) hd hn hj
theorem takeN_appt {α : Type} (cs rest : List α) : takeN cs.length (cs ++ rest) = cs := by rw [takeN_eq]; simp
theorem loadSt {ty : Nat → Option TI} {t sz : Nat} {fs : List (Nat × Nat)} {cs rest : List A} (h : ty t = some ⟨sz, .struct fs⟩) (hl : cs.length = sz) : loadA ty t (cs ++ rest) = some (.agg cs) := by
  subst hl
  unfold loadA
  rw [h]
  have : Nat.ble cs.length (cs ++ rest).length = true := Nat.ble_eq_true_of_le (by simp)
  simp only [this, cond_true, takeN_appt]
theorem le_eqi {a b : Int} (h : a = b) : Le (.int a) (.int b) := by subst h; exact Le.refl _
end
end Go.AI

/-
  One more rule of the walk: is a list without elements nil? Either answer. No condition.
-/
namespace Go.AI
open Go.RowKit

section
variable {C : Cx} {n : Nat} {Q : Exit → Env → Heap → Prop} {e : Env} {h : Heap} {l os : List Oper} {o : Oper}
theorem slnilE_step {t t2 sz E z : Nat} {x : Operand} (ho : o.op = .binOp .eql t x (.const (.slice none 0 0)) t2) (hT : C.ty t = some ⟨sz, .slice E z⟩) (hx : evO e x = some (.sl [])) : MStep C.P o e h fun v h' => ∃ b, v = .raw (.bool b) ∧ h' = h := by
  intro a w hst
  have hops := hst.ops
  rw [ho] at hops
  have h1 := C.ok _ _ hT
  simp only [TIok, Bool.and_eq_true] at h1
  have hu := (und_slice h1.2).1
  have rx := hops x (by simp [Op.operands]) _ hx
  have e1 : Op.maxDepth = 9999 + 1 := rfl
  obtain ⟨p, cap, hv⟩ : ∃ p cap, a.eval x = .slice p 0 cap := by
    generalize a.eval x = v at rx
    cases rx with
    | nil p cap => exact ⟨p, cap, rfl⟩
    | sl _ b off cap => exact ⟨_, cap, rfl⟩
  have hy : a.eval (.const (.slice none 0 0)) = .slice none 0 0 := rfl
  have key : ∃ q, (execOp a.eval o).run C.P w = .ok (.value (.bool q)) w := by
    cases p with
    | none =>
      refine ⟨true, ?_⟩
      have heq : (Op.equal t (a.eval x) (.slice none 0 0)).run C.P w = .ok true w := by
        unfold Op.equal
        rw [e1, hv]
        unfold Op.equalIn
        simp [underlying, hu]
      have hg : (eqGuard .eql t x (.const (.slice none 0 0)) (a.eval x) (.slice none 0 0)).run C.P w = .ok () w := by
        rw [hv]; simp [eqGuard]
      rw [hv] at heq hg
      simp [execOp, ho, hy, hv, hg, binOp, heq]
    | some p =>
      refine ⟨false, ?_⟩
      have heq : (Op.equal t (a.eval x) (.slice none 0 0)).run C.P w = .ok false w := by
        unfold Op.equal
        rw [e1, hv]
        unfold Op.equalIn
        simp [underlying, hu]
      have hg : (eqGuard .eql t x (.const (.slice none 0 0)) (a.eval x) (.slice none 0 0)).run C.P w = .ok () w := by
        rw [hv]; simp [eqGuard]
      rw [hv] at heq hg
      simp [execOp, ho, hy, hv, hg, binOp, heq]
  obtain ⟨q, hq⟩ := key
  unfold Yields
  rw [hq]
  exact ⟨_, _, ⟨q, rfl, rfl⟩, Chg.refl hst.heap, .raw _⟩
theorem j_slnilE {t t2 sz E z dd : Nat} {x : Operand} (hw : wantE l e o = some true) (ho : o.op = .binOp .eql t x (.const (.slice none 0 0)) t2) (hT : C.ty t = some ⟨sz, .slice E z⟩) (hx : evO e x = some (.sl [])) (hd : o.dst = some dd) (hn : Nat.blt dd n = true)
    (hj : ∀ b, J false C n l os Q ((dd, .raw (.bool b)) :: e) h) : J false C n l (o :: os) Q e h :=
  j_mut hw (slnilE_step ho hT hx) (by rw [hd]; exact hn) fun v h' ⟨b, h1, h2⟩ => by rw [hd, h1, h2]; exact hj b
end
end Go.AI
