/-
  Memory of the call's own: appends, what is written no more, calls that write, the ends of a call. No condition.
-/
import Derived.Test.YtlllmhjpcdcoiaaZMut
import Derived.Test.YtlllmhjpcdcoiaaZRun
import Derived.ProofKit
import Derived.Deep.Slices
namespace Go.AI
open Go.RowKit

section
variable {C : Cx} {n : Nat} {Q : Exit → Env → Heap → Prop} {e : Env} {h h' : Heap} {l os : List Oper} {o : Oper} {f : Fl} {fs : List Fl} {B : List (Nat × Blk)}

/-! #### The same blocks in another order -/
theorem keys_perm (hp : h.Perm h') : (keys h).Perm (keys h') := hp.filterMap _
theorem im_perm (hp : h.Perm h') {w : World} {b : Nat} (hb : Im w h b) : Im w h' b := ⟨hb.1, fun hm => hb.2 ((keys_perm hp).mem_iff.2 hm)⟩
theorem HeapOk.perm {w : World} (hp : h.Perm h') (H : HeapOk h w) : HeapOk h' w :=
  ⟨(keys_perm hp).nodup_iff.1 H.nodup, fun k hk => (H.blk k (hp.mem_iff.2 hk)).stab (fun _ hb => ⟨im_perm hp hb, rfl⟩) fun _ _ => rfl, H.tab.stab fun _ hb => ⟨im_perm hp hb, rfl⟩⟩
theorem view_perm (hp : h.Perm h') : View e h e h' := fun C n a w hc =>
  ⟨hc.defers, hc.size, fun t v hv => (hc.env t v hv).stab fun _ hb => ⟨im_perm hp hb, rfl⟩, hc.heap.perm hp, hc.ext, fun b hb => hc.own b ((keys_perm hp).mem_iff.2 hb)⟩
theorem MStep.perm {P : Program} {R : A → Heap → Prop} (hp : h.Perm h') (hm : MStep P o e h' R) : MStep P o e h R := fun a w hs => by
  have hs' : Sit e h' o a w := ⟨fun x hx v hv => (hs.ops x hx v hv).stab fun _ hb => ⟨im_perm hp hb, rfl⟩, hs.heap.perm hp⟩
  have := hm a w hs'
  unfold Yields at this ⊢
  generalize (execOp a.eval o).run P w = r at this ⊢
  have conv : ∀ u w', (∃ v h1, R v h1 ∧ Chg h' h1 w w' ∧ Rel (Im w' h1) w' v u) → ∃ v h1, R v h1 ∧ Chg h h1 w w' ∧ Rel (Im w' h1) w' v u := fun u w' ⟨v, h1, q1, q2, q3⟩ =>
    ⟨v, h1, q1, ⟨q2.os, q2.tape, q2.output, q2.size, fun k hk hn => q2.block k hk fun hm => hn ((keys_perm hp).mem_iff.2 hm), fun b hb => (q2.new b hb).imp (fun hm => (keys_perm hp).mem_iff.2 hm) id, q2.heap⟩, q3⟩
  cases r with
  | ok nx w' =>
    cases nx <;> first | exact conv _ _ this | (exact this.elim) | (exact this.mono fun e w'' ⟨u, he, hR⟩ => ⟨u, he, conv _ _ hR⟩)
  | halt x w' => exact this.elim
theorem MStep.imp {P : Program} {R R' : A → Heap → Prop} (hm : MStep P o e h R) (hi : ∀ v h1, R v h1 → ∃ h2, h1.Perm h2 ∧ R' v h2) : MStep P o e h R' := fun a w hs => by
  have := hm a w hs
  unfold Yields at this ⊢
  generalize (execOp a.eval o).run P w = r at this ⊢
  have conv : ∀ u w', (∃ v h1, R v h1 ∧ Chg h h1 w w' ∧ Rel (Im w' h1) w' v u) → ∃ v h1, R' v h1 ∧ Chg h h1 w w' ∧ Rel (Im w' h1) w' v u := fun u w' ⟨v, h1, q1, q2, q3⟩ => by
    obtain ⟨h2, hp, hR⟩ := hi v h1 q1
    exact ⟨v, h2, hR, ⟨q2.os, q2.tape, q2.output, q2.size, q2.block, fun b hb => q2.new b ((keys_perm hp).mem_iff.2 hb), q2.heap.perm hp⟩, q3.stab fun _ hb => ⟨im_perm hp hb, rfl⟩⟩
  cases r with
  | ok nx w' =>
    cases nx <;> first | exact conv _ _ this | (exact this.elim) | (exact this.mono fun e w'' ⟨u, he, hR⟩ => ⟨u, he, conv _ _ hR⟩)
  | halt x w' => exact this.elim
theorem perm_at {α : Type} : ∀ {l : List α} {i : Nat} {k : α}, l[i]? = some k → l.Perm (k :: l.eraseIdx i)
  | [], i, k, hi => by simp at hi
  | x :: l, 0, k, hi => by simp at hi; subst hi; exact .refl _
  | x :: l, i + 1, k, hi => by
    have := perm_at (l := l) (i := i) (k := k) (by simpa using hi)
    exact (this.cons x).trans (List.Perm.swap _ _ _)
theorem perm_set {α : Type} {l : List α} {i : Nat} {k k' : α} (hi : l[i]? = some k) : (k' :: l.eraseIdx i).Perm (l.set i k') := by
  have h1 := (List.getElem?_eq_some_iff.1 hi).1
  have : (l.set i k')[i]? = some k' := by simp [h1]
  have h2 := perm_at this
  rw [List.eraseIdx_set_eq] at h2
  exact h2.symm

/-! #### What was written is written no more -/
theorem erase_not_mem {i b T room : Nat} {cs : List A} (hi : h[i]? = some ⟨some b, T, room, cs⟩) (hn : (keys h).Nodup) : b ∉ keys (h.eraseIdx i) := by
  intro hm
  obtain ⟨k, hk1, hk2⟩ := List.mem_filterMap.1 hm
  obtain ⟨j, hji, hj⟩ := List.mem_eraseIdx_iff_getElem?.1 hk1
  exact keys_ne hn hi hj (Ne.symm hji) rfl hk2

theorem view_sub {h0 : Heap} (hs : h0.Sublist h) : View e h e h0 := fun C n a w hc => ⟨hc.defers, hc.size, fun t v hv => (hc.env t v hv).heap hs, hc.heap.sub hs, hc.ext, fun b hb => hc.own b ((hs.filterMap _).subset hb)⟩
theorem view_erase (i : Nat) : View e h e (h.eraseIdx i) := view_sub (List.eraseIdx_sublist h i)
theorem loopQ_nextD {σ : Type} {I : σ → Env} {H : σ → Heap} {G : σ → Prop} {μ : σ → Nat} {s : σ} {Q : Exit → Env → Heap → Prop} (s' : σ) (h1 : G s') (h2 : μ s' < μ s) (h3 : (H s').Sublist h) (h4 : EnvLe e (I s')) : loopQ I H G μ s Q .normal e h :=
  loopQ_view (view_sub h3) (loopQ_next s' h1 h2 rfl h4)

theorem conc_cons {a : Act} {w : World} (hc : Conc C n e h a w) {t : Nat} {v : A} (r : Rel (Im w h) w v (a.eval (.tmp t))) : Conc C n ((t, v) :: e) h a w :=
  ⟨hc.defers, hc.size, fun s u hu => by
    by_cases hst : t = s
    · subst hst; rw [lk_cons_eq] at hu; simp only [Option.some.injEq] at hu; subst hu; exact r
    · rw [lk_cons_ne _ _ hst] at hu; exact hc.env s u hu, hc.heap, hc.ext, hc.own⟩

/-- A slice that is nil, as memory of the call's own. -/
theorem view_none (T room : Nat) (hr : room = 0) : View e h e (⟨none, T, room, []⟩ :: h) := fun C n a w hc => by
  have hk : keys (⟨none, T, room, []⟩ :: h) = keys h := by simp [keys]
  have im : ∀ b, Im w h b → Im w (⟨none, T, room, []⟩ :: h) b ∧ w.heap[b]? = w.heap[b]? := fun b hb => ⟨⟨hb.1, by rw [hk]; exact hb.2⟩, rfl⟩
  refine ⟨hc.defers, hc.size, fun t v hv => (hc.env t v hv).stab im, ⟨by rw [hk]; exact hc.heap.nodup, fun k hkm => ?_, hc.heap.tab.stab im⟩, hc.ext, by rw [hk]; exact hc.own⟩
  rcases List.mem_cons.1 hkm with rfl | hkm
  · exact ⟨rfl, RoomOk.zero hr⟩
  · exact (hc.heap.blk k hkm).stab im fun _ _ => rfl

theorem flat_get {α : Type} {f : α → List A} {z : Nat} : ∀ (ys : List α) (i j : Nat) (hi : i < ys.length) (hj : j < (f ys[i]).length), (∀ y, (f y).length = z) → ((ys.map f).flatten)[i * z + j]? = some ((f ys[i])[j])
  | [], i, j, hi, _, _ => absurd hi (Nat.not_lt_zero _)
  | y :: ys, i, j, hi, hj, hz => by
    simp only [List.map_cons, List.flatten_cons]
    cases i with
    | zero =>
      simp only [Nat.zero_mul, Nat.zero_add]
      have hj' : j < (f y).length := hj
      rw [List.getElem?_append_left hj', List.getElem?_eq_getElem hj']; rfl
    | succ i =>
      have e1 : (i + 1) * z + j = (f y).length + (i * z + j) := by rw [hz, Nat.succ_mul]; omega
      rw [e1, List.getElem?_append_right (by omega)]
      have e2 : (f y).length + (i * z + j) - (f y).length = i * z + j := by omega
      rw [e2]
      exact flat_get ys i j (by simpa using hi) hj hz

/-- A slice over the whole of a block of the call's own, read only from here on. -/
theorem view_freeze {α : Type} {g : α → List A} {ys : List α} {z : Nat} (i t : Nat) {b : Option Nat} {T room cap : Nat} {cs : List A} (ht : lk e t = some (.os b ys.length cap)) (hi : h[i]? = some ⟨b, T, room, cs⟩) (hcs : cs = (ys.map g).flatten)
    (hz : ∀ y, (g y).length = z) (hroom : room = cap * z) (hz0 : Nat.blt 0 z = true) : View e h ((t, .sl (ys.map g)) :: e) (h.eraseIdx i) := fun C n a w hc => by
  have hsub := List.eraseIdx_sublist h i
  have hc' := view_erase (e := e) (h := h) i C n a w hc
  refine conc_cons hc' ?_
  have rt := hc.env t _ ht
  cases b with
  | none =>
    obtain ⟨h1, h2, p, h3⟩ := rt.osn_inv
    have : ys = [] := List.eq_nil_of_length_eq_zero h1
    subst this
    rw [h3]; exact .nil _ _
  | some b =>
    obtain ⟨e1, hlen⟩ := rt.os_inv
    rw [e1]
    have hmem := List.mem_of_getElem? hi
    obtain ⟨vs, rest, hb, hr, hrm⟩ := hc.heap.at hmem
    rw [hcs] at hr
    have hlt := hc.heap.lt (mem_keys hmem rfl)
    have hvl : vs.length = ys.length * z := by rw [hr.1, flat_len hz]
    have hzp : 0 < z := Nat.le_of_ble_eq_true hz0
    have hcap : ys.length ≤ cap := by
      have : ys.length * z ≤ cap * z := by rw [← hroom, hrm, ← hvl]; simp
      exact Nat.le_of_mul_le_mul_right this hzp
    have bound : ∀ i j, i < ys.length → j < z → i * z + j < ys.length * z := fun i j h1 h2 => by
      have : (i + 1) * z ≤ ys.length * z := Nat.mul_le_mul_right z h1
      rw [Nat.succ_mul] at this; omega
    have key : Rel (Im w (h.eraseIdx i)) w (.sl (ys.map g)) (.slice (some ⟨b, 0, none⟩) (ys.map g).length cap) := by
      refine .sl _ b 0 cap z (fun i j => vs.getD (i * z + j) undef) ⟨hlt, erase_not_mem hi hc.heap.nodup⟩ (by simpa using hlen) (by simpa using hcap) (fun i hi => by simpa using hz _) (fun i j hi hj => ?_) (fun i j hi hj => ?_)
      · simp at hi
        have hv : i * z + j < vs.length := by rw [hvl]; exact bound i j hi hj
        rw [Nat.zero_add, cell_of_vs hb _ hv]; simp [hv]
      · simp at hi hj
        have hj' : j < z := by rw [← hz ys[i]]; exact hj
        have hv : i * z + j < vs.length := by rw [hvl]; exact bound i j hi hj'
        obtain ⟨u, hu1, hu2⟩ := hr.get (flat_get ys i j hi hj hz)
        have : vs.getD (i * z + j) undef = u := by simp [hu1]
        rw [this]
        simpa using hu2.heap hsub
    simpa using key

/-- Bounds that a slice of the call's own bears. -/
theorem run_olen {c : Code} {t : Nat} {b : Option Nat} {m cap : Nat} (ht : lk e t = some (.os b m cap)) (hr : m ≤ 9223372036854775807 → Run C n c Q e h) : Run C n c Q e h := by
  unfold Run at *
  intro a w hc
  obtain ⟨_, _, hl⟩ := (hc.env t _ ht).os_len
  exact hr hl a w hc
/-- A slice of the call's own that holds something has a block. -/
theorem run_some {c : Code} (i : Nat) {b : Option Nat} {T room : Nat} {cs : List A} (hi : h[i]? = some ⟨b, T, room, cs⟩) (hne : cs ≠ []) (hr : ∀ b', b = some b' → Run C n c Q e h) : Run C n c Q e h := by
  unfold Run at *
  intro a w hc
  cases b with
  | some b' => exact hr b' rfl a w hc
  | none =>
    have := hc.heap.blk _ (List.mem_of_getElem? hi)
    exact absurd this.1 hne

/-! #### append -/
theorem sl_first {P : Program} {S : Nat → Prop} {w : World} {rows : List (List A)} {v : Value} {z : Nat} (r : Rel S w (.sl rows) v) (hz : ∀ x ∈ rows, x.length = z) :
    ∃ (p : Option Addr) (cap : Nat) (news : List Value), v = .slice p rows.length cap ∧ RelL S w rows.flatten news ∧ ∀ w2 : World, w2.heap = w.heap → (Builtin.firstCells z rows.length v).run P w2 = .ok news.toArray w2 := by
  obtain ⟨p, cap, e1, hl, hcap, hne⟩ := r.sl_inv
  by_cases h0 : rows = []
  · subst h0
    refine ⟨p, cap, [], e1, RelL.nil, fun w2 _ => ?_⟩
    rw [e1]
    cases p with
    | none => simp [Builtin.firstCells]
    | some p =>
      have := run_firstCells_some (P := P) w2 z 0 p 0 cap [] (by simp) (by simp)
      simpa using this
  · obtain ⟨b, off, sz, V, rfl, hS, hsz, hc, hr⟩ := hne h0
    have hpos : 0 < rows.length := List.length_pos_iff.2 h0
    have hz' : sz = z := by rw [← hsz 0 hpos]; exact hz _ (List.getElem_mem _)
    subst hz'
    have hfl : rows.flatten.length = rows.length * sz := flat_len_const hz
    have split : ∀ j, j < rows.length * sz → j / sz < rows.length ∧ j % sz < sz ∧ j / sz * sz + j % sz = j := fun j hj => by
      have hsp : 0 < sz := by
        rcases Nat.eq_zero_or_pos sz with q | q
        · subst q; simp at hj
        · exact q
      exact ⟨Nat.div_lt_of_lt_mul (by rw [Nat.mul_comm]; exact hj), Nat.mod_lt _ hsp, by rw [Nat.mul_comm]; exact Nat.div_add_mod j sz⟩
    have frow : ∀ (rs : List (List A)), (∀ r ∈ rs, r.length = sz) → ∀ (i j : Nat) (hi : i < rs.length) (hj : j < sz), rs.flatten[i * sz + j]? = (rs[i])[j]? := by
      intro rs
      induction rs with
      | nil => intro _ i j hi; simp at hi
      | cons r rs ih =>
        intro hr i j hi hj
        rw [List.flatten_cons]
        have hrl := hr r (by simp)
        cases i with
        | zero => simp only [Nat.zero_mul, Nat.zero_add, List.getElem_cons_zero]; rw [List.getElem?_append_left (by omega)]
        | succ i =>
          rw [List.getElem?_append_right (by rw [Nat.succ_mul]; omega)]
          have : (i + 1) * sz + j - r.length = i * sz + j := by rw [Nat.succ_mul]; omega
          rw [this]
          simpa using ih (fun x hx => hr x (by simp [hx])) i j (by simpa using hi) hj
    refine ⟨some ⟨b, off, none⟩, cap, (List.range (rows.length * sz)).map fun j => V (j / sz) (j % sz), e1, ⟨by simp [hfl], fun j hj hj' => ?_⟩, fun w2 hw2 => ?_⟩
    · rw [hfl] at hj
      obtain ⟨s1, s2, s3⟩ := split j hj
      have := hr (j / sz) (j % sz) s1 (by rw [hz _ (List.getElem_mem _)]; exact s2)
      have e2 := frow rows hz (j / sz) (j % sz) s1 s2
      rw [s3, List.getElem?_eq_getElem (by rw [hfl]; exact hj), List.getElem?_eq_getElem (by rw [hz _ (List.getElem_mem _)]; exact s2)] at e2
      simp only [Option.some.injEq] at e2
      rw [e2]
      simpa using this
    · rw [e1]
      refine run_firstCells_some (P := P) w2 sz rows.length ⟨b, off, none⟩ rows.length cap _ (by simp) (fun j v hj => ?_)
      have hjl : j < rows.length * sz := by have := (List.getElem?_eq_some_iff.1 hj).1; simpa using this
      obtain ⟨s1, s2, s3⟩ := split j hjl
      have := hc (j / sz) (j % sz) s1 s2
      rw [s3] at this
      rw [addr_add, World.cell?_of_block (w := w) (by rw [hw2]), this]
      simp [hjl] at hj
      rw [hj]

theorem okCells {S : Nat → Prop} {w : World} {us : List A} {vs : List Value} (hok : us.all okCell = true) (r : RelL S w us vs) : ∀ u ∈ vs, u.oneCell' = true := by
  intro u hu
  obtain ⟨j, hj, rfl⟩ := List.mem_iff_getElem.1 hu
  have hj' : j < us.length := by rw [← r.1]; exact hj
  exact okCell_one (List.all_eq_true.1 hok _ (List.getElem_mem hj')) (r.2 j hj' hj)

/-- 'append(s, t...)', s the call's own. -/
theorem append_step {T E z sz bytes m cap i room : Nat} {zk : List ZK} {x y : Operand} {b : Option Nat} {cs : List A} {rows : List (List A)} (ho : o.op = .call ⟨.builtin .append, #[x, y], #[T, T]⟩) (hT : C.ty T = some ⟨sz, .slice E z⟩) (hz : C.zt E = some (zk, bytes)) (hzl : zk.length = z) (hz0 : 0 < z)
    (hx : evO e x = some (.os b m cap)) (hi : h[i]? = some ⟨b, E, room, cs⟩) (hroom : room = cap * z) (hcs : cs.length = m * z) (hy : evO e y = some (.sl rows)) (hr : ∀ r ∈ rows, r.length = z) (hok : rows.flatten.all okCell = true) (hsize : (m + rows.length) * bytes ≤ 140737488355328) (hlen : m + rows.length ≤ maxLn) :
    MStep C.P o e h fun v h' => ∃ b' cap', v = .os b' (m + rows.length) cap' ∧ h' = h.set i ⟨b', E, cap' * z, cs ++ rows.flatten⟩ := by
  intro a w hs
  have hti := C.ok _ _ hT
  simp only [TIok, Bool.and_eq_true] at hti
  obtain ⟨hu, hes⟩ := und_slice hti.2
  have hsz := run_sizeOf hes
  obtain ⟨zv, hz1, hz2⟩ := C.zok _ _ _ hz
  have hmem := List.mem_of_getElem? hi
  have rx := hs.ops x (by simp [ho, Op.operands, Call.operands]) _ hx
  have ry := hs.ops y (by simp [ho, Op.operands, Call.operands]) _ hy
  obtain ⟨p, ycap, news, ey, hnews, hfirst⟩ := sl_first (P := C.P) ry hr
  have hfl : rows.flatten.length = rows.length * z := flat_len_const hr
  have hnl : news.length = rows.length * z := by rw [hnews.1, hfl]
  have hone := okCells hok hnews
  have hlenOf : ∀ w2 : World, (Builtin.lenOf (a.eval y)).run C.P w2 = .ok rows.length w2 := fun w2 => by rw [ey]; simp [Builtin.lenOf]
  obtain ⟨ti, hti1, hti2⟩ := info_of_size hes
  have hexec : (execOp a.eval o).run C.P w = ((Builtin.append_ #[T, T] o.type #[a.eval x, a.eval y]).run C.P w).andThen fun v w => .ok (Next.value v) w := by
    simp only [execOp, ho, resolve, invoke, builtin, Sem.run_bind, Sem.run_pure, Result.andThen_ok, List.map_toArray, List.map_cons, List.map_nil]
  have hbytes : ti.bytes = bytes := by
    have := hz1
    unfold ZeroOk at this
    rw [hti1] at this
    simp at this
    exact this.2
  have hzero : ti.zero = some zv := by
    have := hz1
    unfold ZeroOk at this
    rw [hti1] at this
    simp at this
    exact this.1
  suffices hsuff : ∃ u w', (Builtin.append_ #[T, T] o.type #[a.eval x, a.eval y]).run C.P w = .ok u w' ∧ ∃ v h', (∃ b' cap', v = .os b' (m + rows.length) cap' ∧ h' = h.set i ⟨b', E, cap' * z, cs ++ rows.flatten⟩) ∧ Chg h h' w w' ∧ Rel (Im w' h') w' v u by
    obtain ⟨u, w', h1, h2⟩ := hsuff
    unfold Yields
    rw [hexec, h1]
    exact h2
  -- the growing case
  have grow : ∀ (base : Option Addr) (olds : List Value), a.eval x = .slice base m cap → RelL (Im w h) w cs olds → (∀ w2 : World, w2.heap = w.heap → (Builtin.firstCells z m (a.eval x)).run C.P w2 = .ok olds.toArray w2) → cap < m + rows.length →
      ∃ u w', (Builtin.append_ #[T, T] o.type #[a.eval x, a.eval y]).run C.P w = .ok u w' ∧ ∃ v h', (∃ b' cap', v = .os b' (m + rows.length) cap' ∧ h' = h.set i ⟨b', E, cap' * z, cs ++ rows.flatten⟩) ∧ Chg h h' w w' ∧ Rel (Im w' h') w' v u := by
    intro base olds ex hro hfo hg
    have hcapge := grownCap_ge w (m + rows.length) cap E
    have hn : ¬ (m + rows.length ≤ cap) := by omega
    have h63 : ¬ ((9223372036854775807 : Int) < (m : Int) + (rows.length : Int)) := by unfold maxLn at hlen; omega
    have hfit : ¬ (281474976710656 < Builtin.nextslicecap (m + rows.length) cap * ti.bytes) := by
      have := growslice_fits (need := m + rows.length) (old := cap) (bytes := ti.bytes) (by omega) (by rw [hbytes]; exact hsize)
      omega
    have hf1 := hfirst w.drew rfl
    have hf2 := hfo w.drew rfl
    have hl1 := hlenOf w
    have hmax : IntKind.i64.max = 9223372036854775807 := by decide
    have hrun : (Builtin.append_ #[T, T] o.type #[a.eval x, a.eval y]).run C.P w =
        .ok (.slice (some ⟨w.heap.size, 0, none⟩) (m + rows.length) (grownCap w (m + rows.length) cap E)) (w.drew.alloc (.cells (olds ++ news ++ (Builtin.zeroCells zv.cells (grownCap w (m + rows.length) cap E - (m + rows.length))).toList).toArray E)) := by
      rw [ex] at hf2 ⊢
      simp [Builtin.append_, run_underlying hu, hsz, typeInfo, zeroValue, hti1, hzero, hl1, hn, h63, hfit, hmax, Question.forced, hf1, hf2, newRow, grownCap]
      congr 2
      apply Array.ext'
      simp [List.append_assoc]
    have hpe := perm_at hi
    have hsub := List.eraseIdx_sublist h i
    have hx1 : Ext [] w (w.drew.alloc (.cells (olds ++ news ++ (Builtin.zeroCells zv.cells (grownCap w (m + rows.length) cap E - (m + rows.length))).toList).toArray E)) := (Ext.drew w).trans (Ext.alloc w.drew _)
    have hol : olds.length = m * z := by rw [hro.1, hcs]
    have hzc : zv.cells.size = z := by rw [hz2]; simp [hzl]
    have hroom' : grownCap w (m + rows.length) cap E * z = (olds ++ news ++ (Builtin.zeroCells zv.cells (grownCap w (m + rows.length) cap E - (m + rows.length))).toList).length := by
      simp only [List.length_append, hol, hnl, Array.length_toList, size_zeroCells, hzc]
      rw [← Nat.add_mul, ← Nat.add_mul]
      congr 1; omega
    have hcg := chg_new (h := h.eraseIdx i) (w := w) (T := E) (vs := olds ++ news) (rest := (Builtin.zeroCells zv.cells (grownCap w (m + rows.length) cap E - (m + rows.length))).toList) (cs := cs ++ rows.flatten) (hs.heap.sub hsub) hx1
      (by have := heap_new w.drew (.cells (olds ++ news ++ (Builtin.zeroCells zv.cells (grownCap w (m + rows.length) cap E - (m + rows.length))).toList).toArray E); exact this) ((RelL.append hro hnews).stab fun b hb => ⟨im_sub hsub b hb, rfl⟩) hroom'
    refine ⟨_, _, hrun, _, _, ⟨some w.heap.size, _, rfl, rfl⟩, ?_, .os _ _ _ hlen⟩
    have hps := perm_set (k' := (⟨some w.heap.size, E, grownCap w (m + rows.length) cap E * z, cs ++ rows.flatten⟩ : Blk)) hi
    refine ⟨hcg.os, hcg.tape, hcg.output, hcg.size, fun k hk hn => hcg.block k hk fun hm => hn ((hsub.filterMap _).subset hm), fun b hb => ?_, hcg.heap.perm hps⟩
    rcases hcg.new b ((keys_perm hps).mem_iff.2 hb) with q | q
    · exact .inl ((hsub.filterMap _).subset q)
    · exact .inr q
  cases b with
  | none =>
    obtain ⟨hm0, hc0, pa, ex⟩ := rx.osn_inv
    subst hm0 hc0
    have hcs0 : cs = [] := List.eq_nil_of_length_eq_zero (by simpa using hcs)
    subst hcs0
    by_cases hr0 : rows = []
    · subst hr0
      have hl1 := hlenOf w
      have hf1 := hfirst w rfl
      have hn0 : news = [] := List.eq_nil_of_length_eq_zero (by simpa using hnl)
      subst hn0
      have hrun : (Builtin.append_ #[T, T] o.type #[a.eval x, a.eval y]).run C.P w = .ok (.slice pa 0 0) w := by
        simp only [List.length_nil] at hl1 hf1
        rw [ex]
        cases pa <;> simp [Builtin.append_, run_underlying hu, hsz, hl1, hf1, storeCells]
      have hset : h.set i ⟨none, E, 0 * z, []⟩ = h := by
        have : room = 0 * z := hroom
        subst this
        obtain ⟨q1, q2⟩ := List.getElem?_eq_some_iff.1 hi
        rw [← q2]; exact List.set_getElem_self q1
      refine ⟨_, _, hrun, .os none 0 0, h, ⟨none, 0, rfl, ?_⟩, Chg.refl hs.heap, .osn _⟩
      simp only [List.flatten_nil, List.append_nil]; exact hset.symm
    · refine grow pa [] ex RelL.nil (fun w2 _ => ?_) (by have := List.length_pos_iff.2 hr0; omega)
      rw [ex]
      cases pa with
      | none => simp [Builtin.firstCells]
      | some pa => have := run_firstCells_some (P := C.P) w2 z 0 pa 0 0 [] (by simp) (by simp); simpa using this
  | some b =>
    obtain ⟨ex, hml⟩ := rx.os_inv
    obtain ⟨vs, rest, hb, hrel, hrm⟩ := hs.heap.at hmem
    have hvl : vs.length = m * z := by rw [hrel.1, hcs]
    by_cases hfit : m + rows.length ≤ cap
    · have hl1 := hlenOf w
      have hf1 := hfirst w rfl
      have harr : m * z + news.length ≤ (vs ++ rest).length := by
        rw [hnl, ← Nat.add_mul, ← hrm, hroom]; exact Nat.mul_le_mul_right _ hfit
      obtain ⟨w', r1, r2, r3, r4, r5, r6, r7⟩ := run_storeCells (P := C.P) (b := b) (o := m * z) (T := E) news 0 w (vs ++ rest) hone hb (by simpa using harr)
      have hrun : (Builtin.append_ #[T, T] o.type #[a.eval x, a.eval y]).run C.P w = .ok (.slice (some ⟨b, 0, none⟩) (m + rows.length) cap) w' := by
        rw [ex]
        simp [Builtin.append_, run_underlying hu, hsz, hl1, hfit, hf1, addr_add, r1]
      simp only [Nat.add_zero] at r7
      obtain ⟨hok', im⟩ := write_heap (p := m * z) hs.heap hi r5 r6 hb r7 hnews (by rw [hcs]; exact Nat.le_refl _) (by rw [← hnews.1]; exact harr) hrm
      have hspl : splice cs (m * z) rows.flatten = cs ++ rows.flatten := by
        unfold splice
        rw [List.take_of_length_le (by rw [hcs]; exact Nat.le_refl _), List.drop_of_length_le (by rw [hcs]; omega), List.append_nil]
      rw [hspl, hroom] at hok'
      have hkeys := keys_set (T' := E) (room' := cap * z) (cs' := cs ++ rows.flatten) hi
      have hbk : b ∈ keys h := mem_keys hmem rfl
      exact ⟨_, _, hrun, _, _, ⟨some b, cap, rfl, rfl⟩, ⟨r2, r3, r4, by rw [r5]; exact Nat.le_refl _, fun q hq hqk => r6 q (fun hqb => hqk (by rw [hqb]; exact hbk)), fun q hq => .inl (by rw [hkeys] at hq; exact hq), hok'⟩, .os _ _ _ hlen⟩
    · refine grow (some ⟨b, 0, none⟩) vs ex hrel (fun w2 hw2 => ?_) (by omega)
      rw [ex]
      refine run_firstCells_some (P := C.P) w2 z m ⟨b, 0, none⟩ m cap vs hvl (fun j v hj => ?_)
      have hjl := (List.getElem?_eq_some_iff.1 hj).1
      rw [addr_add, Nat.zero_add, World.cell?_of_block (w := w) (by rw [hw2]), cell_of_vs hb j hjl, ← hj, List.getElem?_eq_getElem hjl]

end
end Go.AI

/-
  Rules for appends and for calls that write; the ends of a call. No condition.
-/
namespace Go.AI
open Go.RowKit

section
variable {C : Cx} {n : Nat} {Q : Exit → Env → Heap → Prop} {e : Env} {h h' : Heap} {d : Bool} {l os : List Oper} {o : Oper} {f : Fl} {fs : List Fl} {B : List (Nat × Blk)}

theorem flat_app {α : Type} {g : α → List A} (ys zs : List α) : ((ys.map g).flatten) ++ (zs.map g).flatten = ((ys ++ zs).map g).flatten := by rw [List.map_append, List.flatten_append]
theorem all_flat {α : Type} {g : α → List A} {zs : List α} (hok : ∀ y ∈ zs, (g y).all okCell = true) : ((zs.map g).flatten).all okCell = true := by
  rw [List.all_eq_true]
  intro u hu
  obtain ⟨r, hr, hur⟩ := List.mem_flatten.1 hu
  obtain ⟨y, hy, rfl⟩ := List.mem_map.1 hr
  exact List.all_eq_true.1 (hok y hy) u hur

theorem append_list {α : Type} {g : α → List A} {ys zs : List α} {T E z sz bytes cap i room : Nat} {zk : List ZK} {x y : Operand} {b : Option Nat} {cs : List A} {m : Nat} (ho : o.op = .call ⟨.builtin .append, #[x, y], #[T, T]⟩) (hT : C.ty T = some ⟨sz, .slice E z⟩) (hz : C.zt E = some (zk, bytes)) (hzl : zk.length = z) (hz0 : Nat.blt 0 z = true)
    (hx : evO e x = some (.os b m cap)) (hi : h[i]? = some ⟨b, E, room, cs⟩) (hroom : room = cap * z) (hcs : cs = (ys.map g).flatten) (hm : m = ys.length) (hy : evO e y = some (.sl (zs.map g))) (hg : ∀ y, (g y).length = z) (hok : ∀ y ∈ zs, (g y).all okCell = true)
    (hsize : (ys.length + zs.length) * bytes ≤ 140737488355328) (hlen : ys.length + zs.length ≤ 9223372036854775807) :
    MStep C.P o e h fun v h' => ∃ b' cap', v = .os b' (ys ++ zs).length cap' ∧ h' = h.set i ⟨b', E, cap' * z, ((ys ++ zs).map g).flatten⟩ := by
  subst hcs hm
  have := append_step (m := ys.length) ho hT hz hzl (Nat.le_of_ble_eq_true hz0) hx hi hroom (flat_len hg ys) hy (fun r hr => by obtain ⟨y, _, rfl⟩ := List.mem_map.1 hr; exact hg y) (all_flat hok) (by rw [List.length_map]; exact hsize) (by rw [List.length_map]; exact hlen)
  rw [List.length_map, flat_app] at this
  rw [List.length_append]
  exact this

/-- 'append(s, t...)', s a list ys of the call's own (block i), t a list zs. -/
theorem j_append (i : Nat) {α : Type} {g : α → List A} {ys : List α} (zs : List α) {T E z sz bytes cap room dd m : Nat} {zk : List ZK} {x y : Operand} {b : Option Nat} {cs : List A} (hw : wantE l e o = some true) (ho : o.op = .call ⟨.builtin .append, #[x, y], #[T, T]⟩) (hT : C.ty T = some ⟨sz, .slice E z⟩) (hz : C.zt E = some (zk, bytes)) (hzl : zk.length = z) (hz0 : Nat.blt 0 z = true)
    (hx : evO e x = some (.os b m cap)) (hi : h[i]? = some ⟨b, E, room, cs⟩) (hroom : room = cap * z) (hcs : cs = (ys.map g).flatten) (hm : m = ys.length) (hy : evO e y = some (.sl (zs.map g))) (hg : ∀ y, (g y).length = z) (hok : ∀ y ∈ zs, (g y).all okCell = true)
    (hsize : (ys.length + zs.length) * bytes ≤ 140737488355328 ∧ ys.length + zs.length ≤ 9223372036854775807) (hd : o.dst = some dd) (hn : Nat.blt dd n = true)
    (hj : ∀ b' cap', J false C n l os Q ((dd, .os b' (ys ++ zs).length cap') :: e) (h.set i ⟨b', E, cap' * z, ((ys ++ zs).map g).flatten⟩)) : J false C n l (o :: os) Q e h :=
  j_mut hw (append_list ho hT hz hzl hz0 hx hi hroom hcs hm hy hg hok hsize.1 hsize.2) (by rw [hd]; exact hn) fun v h' ⟨b', cap', h1, h2⟩ => by rw [hd, h1, h2]; exact hj b' cap'
theorem MStep.none {P : Program} {R : A → Heap → Prop} {T : Nat} (hm : MStep P o e (⟨none, T, 0, []⟩ :: h) R) : MStep P o e h R := fun a w hs => by
  have hk : keys (⟨Option.none, T, 0, []⟩ :: h) = keys h := by simp [keys]
  have im : ∀ b, Im w h b → Im w (⟨Option.none, T, 0, []⟩ :: h) b ∧ w.heap[b]? = w.heap[b]? := fun b hb => ⟨⟨hb.1, by rw [hk]; exact hb.2⟩, rfl⟩
  have := hm a w ⟨fun x hx v hv => (hs.ops x hx v hv).stab im, by rw [hk]; exact hs.heap.nodup, fun k hkm => by
    rcases List.mem_cons.1 hkm with rfl | hkm
    · exact ⟨rfl, RoomOk.zero rfl⟩
    · exact (hs.heap.blk k hkm).stab im fun _ _ => rfl, hs.heap.tab.stab im⟩
  unfold Yields at this ⊢
  generalize (execOp a.eval o).run P w = r at this ⊢
  have conv : ∀ u w', (∃ v h1, R v h1 ∧ Chg (⟨Option.none, T, 0, []⟩ :: h) h1 w w' ∧ Rel (Im w' h1) w' v u) → ∃ v h1, R v h1 ∧ Chg h h1 w w' ∧ Rel (Im w' h1) w' v u := fun u w' ⟨v, h1, q1, q2, q3⟩ =>
    ⟨v, h1, q1, ⟨q2.os, q2.tape, q2.output, q2.size, fun k hk' hn => q2.block k hk' (by rw [hk]; exact hn), fun b hb => by have := q2.new b hb; rw [hk] at this; exact this, q2.heap⟩, q3⟩
  cases r with
  | ok nx w' =>
    cases nx <;> first | exact conv _ _ this | (exact this.elim) | (exact this.mono fun e w'' ⟨u, he, hR⟩ => ⟨u, he, conv _ _ hR⟩)
  | halt x w' => exact this.elim

/-! #### Calls that write -/
/-! #### Several everyday steps at once -/
/-! #### The chosen order of a statement -/
def pickO (l : List Oper) : List Fl → Option (List Oper)
  | [] => some []
  | f :: fs => match l[f.i]?, pickO l fs with
    | some o, some os => some (o :: os)
    | _, _ => none
theorem al_of_pick : ∀ {fl : List Fl} {os : List Oper}, pickO l fl = some os → Al l fl os
  | [], os, h => by simp only [pickO, Option.some.injEq] at h; subst h; trivial
  | f :: fs, os, h => by
    simp only [pickO] at h
    split at h
    · rename_i o os' h1 h2
      simp only [Option.some.injEq] at h
      subst h
      exact ⟨h1, al_of_pick h2⟩
    · cases h
theorem run_opn {id : Nat} (id' : Nat) (fl : List Fl) (hid : id = id') (ha : pickO l fl = some os) (hok : openOk l fl = true) (hj : JO fl [] C n l os Q e h) : Run C n (.region id l.toArray true) Q e h := run_regionO id' fl hid (al_of_pick ha) hok hj

/-! #### What kind of step comes next -/
theorem r_go {c : Code} (hr : Run C n c Q e h) : Run C n c Q e h := hr
theorem j_go (hj : J d C n l (o :: os) Q e h) : J d C n l (o :: os) Q e h := hj
theorem j_kIdx {T : Nat} {x i : Operand} (_ho : o.op = .indexAddr T x i) (hj : J d C n l (o :: os) Q e h) : J d C n l (o :: os) Q e h := hj
theorem j_kBin {p : BinOp} {t t2 : Nat} {x y : Operand} (_ho : o.op = .binOp p t x y t2) (hj : J d C n l (o :: os) Q e h) : J d C n l (o :: os) Q e h := hj
theorem j_kLen {x : Operand} {t : Nat} (_ho : o.op = .call ⟨.builtin .len, #[x], #[t]⟩) (hj : J d C n l (o :: os) Q e h) : J d C n l (o :: os) Q e h := hj
theorem j_kLoad {T : Nat} {x : Operand} (_ho : o.op = .load T x) (hj : J d C n l (o :: os) Q e h) : J d C n l (o :: os) Q e h := hj
theorem j_kStore {T : Nat} {x y : Operand} (_ho : o.op = .store T x y) (hj : J d C n l (o :: os) Q e h) : J d C n l (o :: os) Q e h := hj
theorem j_kBsl {T k : Nat} {ps : Array (Nat × Operand)} (_ho : o.op = .buildSlice T k ps) (hj : J d C n l (o :: os) Q e h) : J d C n l (o :: os) Q e h := hj
theorem j_kSlice {T : Nat} {x : Operand} {lo hi : Option Operand} (_ho : o.op = .slice T x lo hi none) (hj : J d C n l (o :: os) Q e h) : J d C n l (o :: os) Q e h := hj
theorem j_kGuard {k : Nat} {b : Bool} (_hg : o.guard = some (k, b)) (hj : J d C n l (o :: os) Q e h) : J d C n l (o :: os) Q e h := hj
theorem j_goO (hj : JO (f :: fs) B C n l (o :: os) Q e h) : JO (f :: fs) B C n l (o :: os) Q e h := hj
theorem j_kIdxO {T : Nat} {x i : Operand} (_ho : o.op = .indexAddr T x i) (hj : JO (f :: fs) B C n l (o :: os) Q e h) : JO (f :: fs) B C n l (o :: os) Q e h := hj
theorem j_kLoadO {T : Nat} {x : Operand} (_ho : o.op = .load T x) (hj : JO (f :: fs) B C n l (o :: os) Q e h) : JO (f :: fs) B C n l (o :: os) Q e h := hj
theorem j_kGuardO {k : Nat} {b : Bool} (_hg : o.guard = some (k, b)) (hj : JO (f :: fs) B C n l (o :: os) Q e h) : JO (f :: fs) B C n l (o :: os) Q e h := hj
/-- A call of g at as is next. -/
def CallAt (e : Env) (l : List Oper) (o : Oper) (g : FuncId) (as : List A) : Prop := ∃ (x : Operand) (args : Array Operand) (ts : Array TypeId) (caps as0 : List A),
  wantE l e o = some true ∧ o.op = .call ⟨.value x, args, ts⟩ ∧ evO e x = some (.fn g caps) ∧ mapEv e args.toList = some as0 ∧ as0 ++ caps = as
def JC (g : FuncId) (as : List A) (d : Bool) (C : Cx) (n : Nat) (l : List Oper) (o : Oper) (os : List Oper) (Q : Exit → Env → Heap → Prop) (e : Env) (h : Heap) : Prop := CallAt e l o g as → J d C n l (o :: os) Q e h
def JCO (g : FuncId) (as : List A) (f : Fl) (fs : List Fl) (B : List (Nat × Blk)) (C : Cx) (n : Nat) (l : List Oper) (o : Oper) (os : List Oper) (Q : Exit → Env → Heap → Prop) (e : Env) (h : Heap) : Prop := CallAt e l o g as → JO (f :: fs) B C n l (o :: os) Q e h
theorem j_kCall {d : Bool} {g : FuncId} {x : Operand} {args : Array Operand} {ts : Array TypeId} {caps as : List A} (hw : wantE l e o = some true) (ho : o.op = .call ⟨.value x, args, ts⟩) (hx : evO e x = some (.fn g caps)) (ha : mapEv e args.toList = some as)
    (hj : JC g (as ++ caps) d C n l o os Q e h) : J d C n l (o :: os) Q e h := hj ⟨x, args, ts, caps, as, hw, ho, hx, ha, rfl⟩
theorem j_kCallO {g : FuncId} {x : Operand} {args : Array Operand} {ts : Array TypeId} {caps as : List A} (hw : wantE l e o = some true) (ho : o.op = .call ⟨.value x, args, ts⟩) (hx : evO e x = some (.fn g caps)) (ha : mapEv e args.toList = some as)
    (hj : JCO g (as ++ caps) f fs B C n l o os Q e h) : JO (f :: fs) B C n l (o :: os) Q e h := hj ⟨x, args, ts, caps, as, hw, ho, hx, ha, rfl⟩
theorem jc {d : Bool} {g : FuncId} {as all : List A} {v : A} {dd : Nat} (hf : Gives C.P g all v) (hle : LeL as all) (hd : o.dst = some dd) (hn : Nat.blt dd n = true) (hj : J d C n l os Q ((dd, v) :: e) h) : JC g as d C n l o os Q e h := by
  rintro ⟨x, args, ts, caps, as0, hw, ho, hx, ha, rfl⟩
  exact j_call hw ho hx ha hf hle hd hn hj
theorem jcO {g : FuncId} {as all : List A} {v : A} {dd : Nat} (hf : Gives C.P g all v) (hle : LeL as all) (hd : o.dst = some dd) (hn : Nat.blt dd n = true) (hj : JO fs B C n l os Q ((dd, v) :: e) h) : JCO g as f fs B C n l o os Q e h := by
  rintro ⟨x, args, ts, caps, as0, hw, ho, hx, ha, rfl⟩
  exact j_callO hw ho hx ha hf hle hd hn hj
/-! #### The ends -/
theorem end_cellM {ty : Nat → Option TI} {p T b T' room : Nat} {cs : List A} {u v : A} {h0 : Heap} {x : Exit} (hp : lk e p = some (.op (some b) 0)) (i : Nat) (hi : h[i]? = some ⟨some b, T', room, cs⟩) (hv : loadA ty T cs = some u) (hs : h0.Sublist h) (huv : Le u v) (hx : x = .ret ∨ x = .normal) :
    endQ ty #[.cell p T] v h0 x e h := end_le hs (vs := [u]) (.cons (.cellM hp (List.mem_of_getElem? hi) hv) .nil) huv hx

theorem sub1 {a : Blk} {h0 : Heap} : h0.Sublist (a :: h0) := List.sublist_cons_self _ _
theorem sub2 {a b : Blk} {h0 : Heap} : h0.Sublist (a :: b :: h0) := (List.sublist_cons_self _ _).trans (List.sublist_cons_self _ _)
theorem sub3 {a b c : Blk} {h0 : Heap} : h0.Sublist (a :: b :: c :: h0) := sub2.trans (List.sublist_cons_self _ _)
end
theorem rb {b c : Bool} (h : b = c) : A.raw (.bool b) = A.raw (.bool c) := by rw [h]
theorem rbT {p : Prop} (h : p) : A.raw (.bool true) = A.raw (.bool (dec p)) := rb (dec_t h).symm
theorem rbF {p : Prop} (h : ¬p) : A.raw (.bool false) = A.raw (.bool (dec p)) := rb (dec_f h).symm
theorem all_step {m k : Nat} {p : ∀ i, i < m → Prop} (g : ∀ i (h : i < m), i < k → p i h) (hn : ∀ h : k < m, p k h) : ∀ i (h : i < m), i < k + 1 → p i h := fun i h hi => by
  rcases Nat.lt_or_eq_of_le (Nat.le_of_lt_succ hi) with h1 | rfl
  · exact g i h h1
  · exact hn h
theorem ai {b c : Int} (h : b = c) : A.int b = A.int c := by rw [h]
theorem take_rep_set {α : Type} {l : List α} {k : Nat} (hk : k < l.length) (z : α) : (l.take k ++ List.replicate (l.length - k) z).set k l[k] = l.take (k + 1) ++ List.replicate (l.length - (k + 1)) z := by
  have e1 : l.length - k = (l.length - (k + 1)) + 1 := by omega
  have e2 : k - (l.take k).length = 0 := by rw [List.length_take]; omega
  rw [e1, List.replicate_succ, List.set_append_right _ _ (by rw [List.length_take]; omega), e2, List.set_cons_zero, List.take_succ_eq_append_getElem hk, List.append_assoc]
  rfl
theorem take_eq_succ {α : Type} {a b : List α} {k : Nat} (h : a.take k = b.take k) (ha : k < a.length) (hb : k < b.length) (hx : a[k] = b[k]) : a.take (k + 1) = b.take (k + 1) := by
  rw [List.take_succ_eq_append_getElem ha, List.take_succ_eq_append_getElem hb, h, hx]
theorem Chg.below {w w' : World} (h : Chg [] [] w w') : Below w.heap.size w w' := ⟨h.os, h.tape, h.output, h.size, fun k hk => h.block k hk (by simp [keys])⟩
theorem raw_t {p : Prop} (h : p) : some (A.raw (.bool true)) = some (A.raw (.bool (dec p))) := by rw [rbT h]
theorem raw_f {p : Prop} (h : ¬p) : some (A.raw (.bool false)) = some (A.raw (.bool (dec p))) := by rw [rbF h]
theorem raw_n {p q : Prop} (h : ¬p ↔ q) : some (A.raw (.bool (!dec p))) = some (A.raw (.bool (dec q))) := by
  by_cases hp : p
  · rw [dec_t hp, dec_f (fun hq => h.2 hq hp)]; rfl
  · rw [dec_f hp, dec_t (h.1 hp)]; rfl
theorem rbD {p q : Prop} (h : p ↔ q) : A.raw (.bool (dec p)) = A.raw (.bool (dec q)) := by rw [propext h]
theorem rbN {p q : Prop} (h : ¬p ↔ q) : A.raw (.bool (!dec p)) = A.raw (.bool (dec q)) := Option.some.inj (raw_n h)
theorem si {b c : Int} (h : b = c) : some (A.int b) = some (A.int c) := by rw [h]
attribute [irreducible] JC JCO CallAt
end Go.AI

/-
  What came in, read as plain data. No condition.
-/
namespace Go.AI
open Go.RowKit

section
variable {H : Type} {enc : TypeId × Value → H} {P : Program} {W : World}

/-- Cells of type t that are read as data are data by f. -/
def Rd (enc : TypeId × Value → H) (P : Program) (W : World) (t : TypeId) {α : Type} (f : α → List A) : Prop :=
  ∀ fuel cs x, DataW.trod enc P W 0 (fun _ => true) true fuel t cs = some x → ∃ a : α, RelL (Im W []) W (f a) cs

theorem im_nil {b : Nat} (h : b < W.heap.size) : Im W [] b := ⟨h, by simp [keys]⟩

def encI (n : Int) : List A := [.int n]
def encB (b : Bool) : List A := [.raw (.bool b)]
def encS {α : Type} (f : α → List A) (l : List α) : List A := [.sl (l.map f)]

theorem rd_int {t : TypeId} (ht : P.underlying t = some (.int .i64)) : Rd enc P W t encI := fun fuel cs x h => by
  obtain ⟨n, rfl, _, hw⟩ := DataW.trod_int ht h
  refine ⟨n, RelL.cons (.int n ?_) RelL.nil⟩
  have := hw
  simp [Lit.wf, IntKind.min, IntKind.max, IntKind.signed, IntKind.bits] at this
  unfold InR; omega
theorem rd_bool {t : TypeId} (ht : P.underlying t = some .bool) : Rd enc P W t encB := fun fuel cs x h => by
  obtain ⟨b, rfl, _⟩ := DataW.trod_bool ht h
  exact ⟨b, RelL.cons (.raw _) RelL.nil⟩
theorem mapM_some_get {α β : Type} {f : α → Option β} : ∀ {l : List α} {r : List β}, l.mapM f = some r → r.length = l.length ∧ ∀ i (hi : i < l.length) (hi' : i < r.length), f l[i] = some r[i]
  | [], r, h => by simp at h; subst h; exact ⟨rfl, fun i hi => absurd hi (Nat.not_lt_zero _)⟩
  | a :: l, r, h => by
    rw [List.mapM_cons] at h
    cases ha : f a with
    | none => rw [ha] at h; simp at h
    | some b =>
      cases hl : l.mapM f with
      | none => rw [ha, hl] at h; simp at h
      | some bs =>
        rw [ha, hl] at h
        simp at h
        subst h
        obtain ⟨h1, h2⟩ := mapM_some_get hl
        refine ⟨by simp [h1], fun i hi hi' => ?_⟩
        cases i with
        | zero => simpa using ha
        | succ i => simpa using h2 i (by simpa using hi) (by simpa using hi')

theorem cells_get {base : Nat} {a : Addr} {n : Nat} {cs : List Value} (h : W.cells? base a n = some cs) : cs.length = n ∧ ∀ j (hj : j < n) (hj' : j < cs.length), W.cell? (a.add j) = some cs[j] := by
  unfold World.cells? at h
  split at h
  · obtain ⟨h1, h2⟩ := mapM_some_get h
    simp at h1
    exact ⟨h1, fun j hj hj' => by have := h2 j (by simpa using hj) hj'; simpa using this⟩
  · cases h

theorem cell_spot {a : Addr} {v : Value} (h : W.cell? a = some v) : a.spot = none := by
  unfold World.cell? at h
  split at h
  · split at h
    · cases h
    · rename_i hs; simpa using hs
  · cases h

theorem rd_slice {t e z : Nat} {α : Type} [Inhabited α] {f : α → List A} (ht : P.underlying t = some (.slice e)) (hz : P.cellsOf e = z) (hz0 : 0 < z) (hf : ∀ a, (f a).length = z) (he : Rd enc P W e f) : Rd enc P W t (encS f) := fun fuel cs x h => by
  rcases Deep.open_slice ht h with ⟨rfl, _⟩ | ⟨a, len, cap, m, n, D, Pl, rfl, _, hl, hm, hmm, _, hx⟩
  · exact ⟨[], RelL.cons (.nil _ _) RelL.nil⟩
  · have hlm : len ≤ m := by rw [hmm]; simp; exact hl
    obtain ⟨Y, hY⟩ := Deep.choose_lt (α := α) (n := len) (p := fun i y => ∃ cs', W.cells? 0 (a.add (i * z)) z = some cs' ∧ RelL (Im W []) W (f y) cs') (fun i hi => by
      obtain ⟨cs', h1, h2⟩ := hx i (by omega)
      obtain ⟨y, hy⟩ := he _ _ _ h2
      rw [hz] at h1
      exact ⟨y, cs', h1, hy⟩)
    by_cases h0 : len = 0
    · subst h0
      exact ⟨[], RelL.cons (.nil _ _) RelL.nil⟩
    · refine ⟨(List.range len).map Y, RelL.cons ?_ RelL.nil⟩
      obtain ⟨cs0, h1, h2⟩ := hY 0 (by omega)
      obtain ⟨h3, h4⟩ := cells_get h1
      have c0 := h4 0 hz0 (by omega)
      have hsp : a.spot = none := by
        have := cell_spot c0
        simpa [Addr.add] using this
      obtain ⟨b, off, sp⟩ := a
      simp only at hsp
      subst hsp
      have hb : b < W.heap.size := by
        have := block_lt_of_cell c0
        rw [addr_add, addr_add] at this; exact this
      obtain ⟨V, hV⟩ := Deep.choose_lt (α := List Value) (n := len) (p := fun i cs' => W.cells? 0 ((⟨b, off, none⟩ : Addr).add (i * z)) z = some cs' ∧ RelL (Im W []) W (f (Y i)) cs') (fun i hi => hY i hi)
      have key : Rel (Im W []) W (.sl (((List.range len).map Y).map f)) (.slice (some ⟨b, off, none⟩) (((List.range len).map Y).map f).length cap) := by
        refine .sl _ b off cap z (fun i j => (V i).getD j undef) (im_nil hb) ?_ ?_ ?_ ?_ ?_
        · simp; unfold maxLn; unfold maxLen at hm; omega
        · simpa using hl
        · intro i hi; simpa using hf _
        · intro i j hi hj
          simp at hi
          obtain ⟨q1, q2⟩ := hV i hi
          obtain ⟨q3, q4⟩ := cells_get q1
          have := q4 j hj (by omega)
          rw [addr_add, addr_add] at this
          rw [← Nat.add_assoc, this]
          simp [show j < (V i).length by omega]
        · intro i j hi hj
          simp at hi hj
          obtain ⟨q1, q2⟩ := hV i hi
          have hjv : j < (V i).length := by rw [q2.1]; exact hj
          have := q2.2 j hj hjv
          simpa [hjv] using this
      simpa using key

/-! Structs, field by field. -/
/-- The fields fs lie one behind the other from cell o on, up to cell m, and are data by f. -/
def RdFs (enc : TypeId × Value → H) (P : Program) (W : World) (fs : List Field) (o m : Nat) {α : Type} (f : α → List A) : Prop :=
  ∀ n (cs : List Value), m ≤ cs.length → (∀ (i : Nat) (g : Field), fs[i]? = some g → ∃ y, DataW.trod enc P W 0 (fun _ => true) true n g.type ((cs.drop g.offset).take (P.cellsOf g.type)) = some y) →
    ∃ a : α, RelL (Im W []) W (f a) ((cs.drop o).take (m - o))

theorem rdFs_nil {o : Nat} : RdFs enc P W [] o o (fun _ : Unit => []) := fun n cs _ _ => ⟨(), by simpa using RelL.nil⟩

theorem rdFs_cons {g : Field} {fs : List Field} {o z m : Nat} {α β : Type} {f : α → List A} {k : β → List A} (ho : g.offset = o) (hz : P.cellsOf g.type = z) (hm : o + z ≤ m) (h1 : Rd enc P W g.type f) (h2 : RdFs enc P W fs (o + z) m k) :
    RdFs enc P W (g :: fs) o m (fun p : α × β => f p.1 ++ k p.2) := fun n cs hcs hall => by
  obtain ⟨y, hy⟩ := hall 0 g rfl
  rw [ho, hz] at hy
  obtain ⟨a, ra⟩ := h1 _ _ _ hy
  obtain ⟨b, rb⟩ := h2 n cs hcs (fun i g' hg => hall (i + 1) g' (by simpa using hg))
  refine ⟨(a, b), ?_⟩
  have : (cs.drop o).take (m - o) = (cs.drop o).take z ++ (cs.drop (o + z)).take (m - (o + z)) := by
    have e : m - o = z + (m - (o + z)) := by omega
    rw [e, List.take_add, List.drop_drop]
  rw [this]
  exact ra.append rb

theorem rd_struct {t m : Nat} {fs : Array Field} {α β : Type} {f : α → List A} {k : β → List A} (ht : P.underlying t = some (.struct fs)) (hm : P.cellsOf t = m) (hf : RdFs enc P W fs.toList 0 m k) (g : β → α) (hg : ∀ b, f (g b) = k b) : Rd enc P W t f := fun fuel cs x h => by
  obtain ⟨xs, n, _, _, hl, hlen, hall⟩ := DataW.trod_struct ht h
  rw [hm] at hl
  obtain ⟨b, rb⟩ := hf n cs (by omega) (fun i q hq => by
    have hq' : fs[i]? = some q := by simpa using hq
    have hi : i < xs.length := by rw [hlen]; exact (Array.getElem?_eq_some_iff.1 hq').1
    exact ⟨xs[i], by rw [hall i q hq']; exact List.getElem?_eq_getElem hi⟩)
  refine ⟨g b, ?_⟩
  rw [hg]
  simpa [← hl] using rb

/-- An argument of a struct type. -/
theorem open_st {r : Reach} {b0 : Nat} {t : TypeId} {fs : Array Field} {α : Type} {f : α → List A} {v : Value} {d : DataW H} {p : List MemPlace} (ht : P.underlying t = some (.struct fs)) (hr : Rd enc P W t f)
    (hv : Value.okWide P W r b0 t v) (h : DataW.Trod enc P W 0 (fun _ => true) true t v d p) : ∃ a : α, Rel (Im W []) W (.agg (f a)) v := by
  obtain ⟨cs, rfl, _⟩ := WideShapes.okWide_struct ht hv
  obtain ⟨fuel, hf⟩ := h
  obtain ⟨a, ra⟩ := hr _ _ _ hf
  exact ⟨a, .agg _ _ ra.1 ra.2⟩

end
end Go.AI
