/-
  Data whose memory is the call's own, all of it: what is told of it, how it is read for a while, and the calls that do so. No condition.
-/
import Derived.Test.YtbhiaccbpbnbmaaGreatZJA
import Derived.Test.YtbhiaccbpbnbmaaGreatZRun
import Derived.ProofKit
import Derived.Deep.Slices
namespace Go.AI
open Go.RowKit

/-- Told alike in whatever memory. -/
def Clo (a : A) : Prop := ∀ (S S' : Nat → Prop) (w w' : World) (v : Value), Rel S w a v → Rel S' w' a v
def CloL (as : List A) : Prop := ∀ a ∈ as, Clo a
def CloH (h : Heap) : Prop := ∀ k ∈ h, CloL k.cs
theorem Clo.int (n : Int) : Clo (.int n) := fun _ _ _ _ _ r => by cases r with | int _ h => exact .int _ h
theorem Clo.raw (v : Value) : Clo (.raw v) := fun _ _ _ _ _ r => by cases r; exact .raw _
theorem Clo.any (p : Value → Prop) : Clo (.any p) := fun _ _ _ _ _ r => by cases r with | any _ _ h => exact .any _ _ h
theorem Clo.os (b : Option Nat) (n cap : Nat) : Clo (.os b n cap) := fun _ _ _ _ _ r => by
  cases r with
  | os _ _ _ h => exact .os _ _ _ h
  | osn a => exact .osn a
theorem CloL.nil : CloL [] := fun _ h => by cases h
theorem CloL.cons {a : A} {as : List A} (h : Clo a) (t : CloL as) : CloL (a :: as) := fun x hx => by
  rcases List.mem_cons.1 hx with rfl | hx
  · exact h
  · exact t x hx
theorem CloL.rel {S S' : Nat → Prop} {w w' : World} {cs : List A} {vs : List Value} (h : CloL cs) (r : RelL S w cs vs) : RelL S' w' cs vs := ⟨r.1, fun j hj hj' => h _ (List.getElem_mem hj) _ _ _ _ _ (r.2 j hj hj')⟩
theorem Clo.agg {cs : List A} (h : CloL cs) : Clo (.agg cs) := fun S S' w w' v r => by
  obtain ⟨vs, rfl, rl⟩ := r.agg_inv
  have := h.rel (S' := S') (w' := w') rl
  exact .agg cs vs this.1 this.2
theorem Clo.tup {cs : List A} (h : CloL cs) : Clo (.tup cs) := fun S S' w w' v r => by
  obtain ⟨vs, rfl, rl⟩ := r.tup_inv
  have := h.rel (S' := S') (w' := w') rl
  exact .tup cs vs this.1 this.2
theorem CloL.flat {css : List (List A)} (h : ∀ cs ∈ css, CloL cs) : CloL css.flatten := fun a ha => by
  obtain ⟨cs, h1, h2⟩ := List.mem_flatten.1 ha
  exact h cs h1 a h2
theorem CloL.mapInt {α : Type} (f : α → Int) (l : List α) : CloL ((l.map fun x => [A.int (f x)]).flatten) := CloL.flat fun cs h => by
  obtain ⟨x, _, rfl⟩ := List.mem_map.1 h
  exact CloL.cons (Clo.int _) CloL.nil
theorem CloH.nil : CloH [] := fun _ h => by cases h
theorem CloH.cons {k : Blk} {h : Heap} (hk : CloL k.cs) (t : CloH h) : CloH (k :: h) := fun x hx => by
  rcases List.mem_cons.1 hx with rfl | hx
  · exact hk
  · exact t x hx
theorem CloH.append {h h' : Heap} (a : CloH h) (b : CloH h') : CloH (h ++ h') := fun x hx => by
  rcases List.mem_append.1 hx with hx | hx
  · exact a x hx
  · exact b x hx
theorem CloH.flat {hs : List Heap} (h : ∀ x ∈ hs, CloH x) : CloH hs.flatten := fun a ha => by
  obtain ⟨cs, h1, h2⟩ := List.mem_flatten.1 ha
  exact h cs h1 a h2
theorem BlkOk.clo {S S' : Nat → Prop} {w w' : World} {k : Blk} (hc : CloL k.cs) (hb : ∀ b, k.b = some b → w'.heap[b]? = w.heap[b]?) (H : BlkOk S w k) : BlkOk S' w' k := by
  unfold BlkOk at *
  split at H
  · exact H
  · rename_i b hk
    obtain ⟨vs, rest, e, r, hr⟩ := H
    exact ⟨vs, rest, by rw [hb b hk]; exact e, hc.rel r, hr⟩

/-- The data cs, whose memory hT is, can be read as cs'. -/
def FrzL (hT : Heap) (cs cs' : List A) : Prop := ∀ (h : Heap) (w : World) (vs : List Value), (∀ k ∈ hT, k ∈ h) → HeapOk h w → RelL (Im w h) w cs vs → RelL (Im w []) w cs' vs
def Frz (hT : Heap) (a a' : A) : Prop := ∀ (h : Heap) (w : World) (v : Value), (∀ k ∈ hT, k ∈ h) → HeapOk h w → Rel (Im w h) w a v → Rel (Im w []) w a' v
theorem Frz.same (hT : Heap) (a : A) : Frz hT a a := fun h _ _ _ _ r => r.heap (List.nil_sublist h)
theorem Frz.mono {h h' : Heap} {a a' : A} (hs : ∀ k ∈ h', k ∈ h) (H : Frz h' a a') : Frz h a a' := fun F w v hm ho r => H F w v (fun k hk => hm k (hs k hk)) ho r
theorem FrzL.nil (h : Heap) : FrzL h [] [] := fun _ _ _ _ _ r => ⟨r.1, fun j hj => absurd hj (Nat.not_lt_zero _)⟩
theorem FrzL.cons {h : Heap} {a a' : A} {cs cs' : List A} (H : Frz h a a') (T : FrzL h cs cs') : FrzL h (a :: cs) (a' :: cs') := fun F w vs hm ho r => by
  obtain ⟨v, us, rfl, h1, h2⟩ := r.uncons
  exact RelL.cons (H F w v hm ho h1) (T F w us hm ho h2)
theorem FrzL.mono {h h' : Heap} {a a' : List A} (hs : ∀ k ∈ h', k ∈ h) (H : FrzL h' a a') : FrzL h a a' := fun F w v hm ho r => H F w v (fun k hk => hm k (hs k hk)) ho r
theorem Frz.agg {h : Heap} {cs cs' : List A} (H : FrzL h cs cs') : Frz h (.agg cs) (.agg cs') := fun F w v hm ho r => by
  obtain ⟨vs, rfl, rl⟩ := r.agg_inv
  have := H F w vs hm ho rl
  exact .agg cs' vs this.1 this.2
/-- A list of the call's own over the whole of its block. -/
theorem Frz.flat {α : Type} {g : α → List A} {ys : List α} {z n : Nat} {b : Option Nat} {T room cap : Nat} {cs : List A} (hn : n = ys.length) (hcs : cs = (ys.map g).flatten) (hz : ∀ y, (g y).length = z) (hroom : room = cap * z) (hz0 : Nat.blt 0 z = true) : Frz [⟨b, T, room, cs⟩] (.os b n cap) (.sl (ys.map g)) := fun h w v hm ho r => by
  subst hn
  cases b with
  | none =>
    obtain ⟨h1, h2, p, h3⟩ := r.osn_inv
    have : ys = [] := List.eq_nil_of_length_eq_zero h1
    subst this
    rw [h3]; exact .nil _ _
  | some b =>
    obtain ⟨e1, hlen⟩ := r.os_inv
    rw [e1]
    have hmem := hm _ (List.mem_singleton.2 rfl)
    obtain ⟨vs, rest, hb, hr, hrm⟩ := ho.at hmem
    rw [hcs] at hr
    have hlt := ho.lt (mem_keys hmem rfl)
    have hvl : vs.length = ys.length * z := by rw [hr.1, flat_len hz]
    have hzp : 0 < z := Nat.le_of_ble_eq_true hz0
    have hcap : ys.length ≤ cap := by
      have : ys.length * z ≤ cap * z := by rw [← hroom, hrm, ← hvl]; simp
      exact Nat.le_of_mul_le_mul_right this hzp
    have bound : ∀ i j, i < ys.length → j < z → i * z + j < ys.length * z := fun i j h1 h2 => by
      have : (i + 1) * z ≤ ys.length * z := Nat.mul_le_mul_right z h1
      rw [Nat.succ_mul] at this; omega
    have key : Rel (Im w []) w (.sl (ys.map g)) (.slice (some ⟨b, 0, none⟩) (ys.map g).length cap) := by
      refine .sl _ b 0 cap z (fun i j => vs.getD (i * z + j) undef) ⟨hlt, by simp [keys]⟩ (by simpa using hlen) (by simpa using hcap) (fun i hi => by simpa using hz _) (fun i j hi hj => ?_) (fun i j hi hj => ?_)
      · simp at hi
        have hv : i * z + j < vs.length := by rw [hvl]; exact bound i j hi hj
        rw [Nat.zero_add, cell_of_vs hb _ hv]; simp [hv]
      · simp at hi hj
        have hj' : j < z := by rw [← hz ys[i]]; exact hj
        have hv : i * z + j < vs.length := by rw [hvl]; exact bound i j hi hj'
        obtain ⟨u, hu1, hu2⟩ := hr.get (flat_get ys i j hi hj hz)
        have : vs.getD (i * z + j) undef = u := by simp [hu1]
        rw [this]
        simpa using hu2.heap (List.nil_sublist h)
    simpa using key

abbrev Cells (z : Nat) := {l : List A // l.length = z}
/-- A list whose elements' cells and memory are told by E, in memory of the call's own. -/
def OwnSl {α : Type} (E : α → List A → Heap → Prop) (T z : Nat) (xs : List α) (a : A) (h : Heap) : Prop :=
  ∃ (b : Nat) (css : List (Cells z)) (hs : List Heap), css.length = xs.length ∧ hs.length = xs.length ∧ (∀ i (hi : i < xs.length) (h1 : i < css.length) (h2 : i < hs.length), E xs[i] css[i].1 hs[i]) ∧
    a = .os (some b) xs.length xs.length ∧ h = ⟨some b, T, xs.length * z, (css.map Subtype.val).flatten⟩ :: hs.flatten

theorem OwnSl.frz {α : Type} {E : α → List A → Heap → Prop} {enc : α → List A} {T z : Nat} {xs : List α} {a : A} {h : Heap} (hz : ∀ x, (enc x).length = z) (hE : ∀ x cs h, E x cs h → FrzL h cs (enc x)) (o : OwnSl E T z xs a h) : Frz h a (.sl (xs.map enc)) := by
  obtain ⟨b, css, hs, l1, l2, hall, rfl, rfl⟩ := o
  intro F w v hm ho r
  obtain ⟨e1, hlen⟩ := r.os_inv
  rw [e1]
  have hmem := hm (⟨some b, T, xs.length * z, (css.map Subtype.val).flatten⟩ : Blk) (List.mem_cons_self ..)
  obtain ⟨vs, rest, hb, hr, hrm⟩ := ho.at hmem
  have hlt := ho.lt (mem_keys hmem rfl)
  have hc2 : ∀ y : Cells z, (Subtype.val y).length = z := fun y => y.2
  have hvl : vs.length = xs.length * z := by rw [hr.1, flat_len hc2, l1]
  have bound : ∀ i j, i < xs.length → j < z → i * z + j < xs.length * z := fun i j h1 h2 => by
    have : (i + 1) * z ≤ xs.length * z := Nat.mul_le_mul_right z h1
    rw [Nat.succ_mul] at this; omega
  have key : Rel (Im w []) w (.sl (xs.map enc)) (.slice (some ⟨b, 0, none⟩) (xs.map enc).length xs.length) := by
    refine .sl _ b 0 xs.length z (fun i j => vs.getD (i * z + j) undef) ⟨hlt, by simp [keys]⟩ (by simpa using hlen) (by simp) (fun i hi => by simpa using hz _) (fun i j hi hj => ?_) (fun i j hi hj => ?_)
    · simp at hi
      have hv : i * z + j < vs.length := by rw [hvl]; exact bound i j hi hj
      rw [Nat.zero_add, cell_of_vs hb _ hv]; simp [hv]
    · simp only [List.length_map] at hi
      have hj' : j < z := by
        have := hz xs[i]
        simp only [List.getElem_map] at hj; omega
      have hi1 : i < css.length := by omega
      have hi2 : i < hs.length := by omega
      have seg : RelL (Im w F) w css[i].1 ((List.range z).map fun j => vs.getD (i * z + j) undef) := by
        refine ⟨by simp [css[i].2], fun q hq hq' => ?_⟩
        have hqz : q < z := by have := css[i].2; omega
        obtain ⟨u, hu1, hu2⟩ := hr.get (flat_get (f := Subtype.val) css i q hi1 hq hc2)
        have e3 : vs.getD (i * z + q) undef = u := by simp [hu1]
        simp only [List.getElem_map, List.getElem_range, e3]
        exact hu2
      have := (hE _ _ _ (hall i hi hi1 hi2)) F w _ (fun k hk => hm k (List.mem_cons_of_mem _ (List.mem_flatten.2 ⟨_, List.getElem_mem hi2, hk⟩))) ho seg
      have h3 := this.2 j (by rw [hz]; exact hj') (by simpa using hj')
      simpa using h3
  simpa using key

section
variable {C : Cx} {n : Nat} {Q : Exit → Env → Heap → Prop} {e : Env} {h : Heap} {l os : List Oper} {o : Oper}

/-- A call that reads data of the call's own as if nobody wrote it: what it hands back shares no memory with it. -/
theorem call_thaw {P : Program} {f : FuncId} {x : Operand} {args : Array Operand} {ts : Array TypeId} {hT : Heap} {caps as all : List A} {R : A → Heap → Prop} (ho : o.op = .call ⟨.value x, args, ts⟩) (hx : evO e x = some (.fn f caps))
    (ha : mapEv e args.toList = some as) (hf : Does P f all [] R) (hp : ∀ k ∈ hT, k ∈ h) (hz : FrzL hT (as ++ caps) all) (hR : ∀ v h1, R v h1 → Clo v ∧ CloH h1) : MStep P o e h fun v h' => ∃ h1, R v h1 ∧ h' = h1 ++ h := by
  intro a w hs
  have hops := hs.ops
  rw [ho] at hops
  obtain ⟨us, e1, ru⟩ := (hops x (by simp [Op.operands, Call.operands]) _ hx).fn_inv
  have ra := RelL.mapEv (a := a) (w := w) (h := h) (fun y hy => hops y (by simp [Op.operands, Call.operands, Array.mem_toList_iff.1 hy])) ha
  unfold Yields
  rw [exec_call hf.1 ho e1]
  have r2 := hz h w _ hp hs.heap (ra.append ru)
  refine (hf.2 [] w _ r2 ⟨by simp [keys], by simp, hs.heap.tab.stab fun _ hb => ⟨⟨hb.1, by simp [keys]⟩, rfl⟩⟩).mono fun e w' ⟨u, v, h', q1, q2, q3, q4⟩ => ⟨u, q1, v, h' ++ h, ⟨h', q2, rfl⟩, ?_, (hR v h' q2).1 _ _ _ _ _ q4⟩
  have kap : ∀ x y : Heap, keys (x ++ y) = keys x ++ keys y := fun x y => List.filterMap_append
  simp only [List.append_nil] at q3
  have hnew : ∀ b ∈ keys h', w.heap.size ≤ b := fun b hb => (q3.new b hb).elim (fun q => by simp [keys] at q) id
  have same : ∀ b, b < w.heap.size → w'.heap[b]? = w.heap[b]? := fun b hb => q3.block b hb (by simp [keys])
  have im : ∀ b, Im w h b → Im w' (h' ++ h) b ∧ w'.heap[b]? = w.heap[b]? := fun b hb => ⟨⟨Nat.lt_of_lt_of_le hb.1 q3.size, fun hm => by
    rw [kap] at hm
    rcases List.mem_append.1 hm with q | q
    · have := hnew b q; have := hb.1; omega
    · exact hb.2 q⟩, same b hb.1⟩
  refine ⟨q3.os, q3.tape, q3.output, q3.size, fun k hk _ => same k hk, fun b hb => ?_, ⟨?_, fun k hk => ?_, hs.heap.tab.stab im⟩⟩
  · rw [kap] at hb
    rcases List.mem_append.1 hb with hb | hb
    · exact .inr (hnew b hb)
    · exact .inl hb
  · rw [kap]
    exact List.nodup_append.2 ⟨q3.heap.nodup, hs.heap.nodup, fun b hb c hc q => by
      subst q
      have := hs.heap.lt hc
      have := hnew b hb
      omega⟩
  · rcases List.mem_append.1 hk with hk | hk
    · exact (q3.heap.blk k hk).clo ((hR v h' q2).2 k hk) fun _ _ => rfl
    · exact (hs.heap.blk k hk).stab im fun b hb => same b (hs.heap.lt (mem_keys hk hb))

theorem MStep.quiet {P : Program} {R : A → Heap → Prop} {v : A} (hm : MStep P o e h R) (hi : ∀ u h1, R u h1 → u = v ∧ h1 = h) : Quiet P o e h v := fun a w hs => by
  have := hm a w hs
  unfold Yields at this ⊢
  generalize (execOp a.eval o).run P w = r at this ⊢
  have conv : ∀ u w', (∃ v h1, R v h1 ∧ Chg h h1 w w' ∧ Rel (Im w' h1) w' v u) → Chg h h w w' ∧ Rel (Im w' h) w' v u := fun u w' ⟨v, h1, q1, q2, q3⟩ => by
    obtain ⟨rfl, rfl⟩ := hi v h1 q1
    exact ⟨q2, q3⟩
  cases r with
  | ok nx w' =>
    cases nx <;> first | exact conv _ _ this | (exact this.elim) | (exact this.mono fun e w'' ⟨u, he, hR⟩ => ⟨u, he, conv _ _ hR⟩)
  | halt x w' => exact this.elim

theorem jctq (hT : Heap) {d : Bool} {g : FuncId} {as all : List A} {v : A} {dd : Nat} (hf : Gives C.P g all v) (hv : Clo v) (hp : ∀ k ∈ hT, k ∈ h) (hz : FrzL hT as all) (hd : o.dst = some dd) (hn : Nat.blt dd n = true)
    (hj : J d C n l os Q ((dd, v) :: e) h) : JC g as d C n l o os Q e h := by
  unfold JC CallAt
  rintro ⟨x, args, ts, caps, as0, hw, ho, hx, ha, rfl⟩
  exact j_at hw ((call_thaw ho hx ha hf.does hp hz fun u h1 ⟨q1, q2⟩ => by subst q1 q2; exact ⟨hv, CloH.nil⟩).quiet fun u h1 ⟨h2, ⟨q1, q2⟩, q3⟩ => by subst q1 q2 q3; exact ⟨rfl, rfl⟩) hd hn hj
/-- A call that writes: the memory h0 is handed over, wherever it stands. -/
theorem jcp (F : Heap) {g : FuncId} {as all : List A} {R : A → Heap → Prop} {h0 : Heap} {dd : Nat} (hf : Does C.P g all h0 R) (hp : h.Perm (h0 ++ F)) (hle : LeL as all) (hd : o.dst = some dd) (hn : Nat.blt dd n = true)
    (hj : ∀ v h1, R v h1 → J false C n l os Q ((dd, v) :: e) (h1 ++ F)) : JC g as false C n l o os Q e h := by
  unfold JC CallAt
  rintro ⟨x, args, ts, caps, as0, hw, ho, hx, ha, rfl⟩
  exact j_mut hw ((call_step ho hx ha hf hle).perm hp) (by rw [hd]; exact hn) fun v h' ⟨h1, q1, q2⟩ => by rw [hd, q2]; exact hj v h1 q1
end

theorem Chg.drop {h h' h'' : Heap} {w w' : World} (c : Chg h h' w w') {h2 : Heap} (hp : h'.Perm h2) (hs : h''.Sublist h2) : Chg h h'' w w' :=
  ⟨c.os, c.tape, c.output, c.size, c.block, fun b hb => c.new b ((keys_perm hp).mem_iff.2 ((hs.filterMap _).subset hb)), (c.heap.perm hp).sub hs⟩
/-- What is not told of is given up. -/
theorem Does.drop {P : Program} {f : FuncId} {as : List A} {h : Heap} {R R' : A → Heap → Prop} (hd : Does P f as h R) (hR : ∀ v h', R v h' → ∃ h2 h3, h'.Perm h2 ∧ h3.Sublist h2 ∧ R' v h3) : Does P f as h R' :=
  ⟨hd.1, fun F w vs hr hh => (hd.2 F w vs hr hh).mono fun e w' ⟨u, v, h', e1, e2, e3, e4⟩ => by
    obtain ⟨h2, h3, p1, p2, p3⟩ := hR v h' e2
    have hp : (h' ++ F).Perm (h2 ++ F) := p1.append_right F
    have hs : (h3 ++ F).Sublist (h2 ++ F) := p2.append (List.Sublist.refl F)
    exact ⟨u, v, h3, e1, p3, e3.drop hp hs, (e4.stab fun b hb => ⟨im_perm hp hb, rfl⟩).heap hs⟩⟩

/-! ### Fields of elements of own lists -/
section
variable {C : Cx} {n : Nat} {Q : Exit → Env → Heap → Prop} {e : Env} {h : Heap} {d : Bool} {l os : List Oper} {o : Oper}
theorem j_loadF (i m j : Nat) {z : Nat} {L : List (Cells z)} {T b p T' room dd : Nat} {x : Operand} {v : A} (hw : wantE l e o = some true) (ho : o.op = .load T x) (hx : evO e x = some (.op (some b) p)) (hi : h[i]? = some ⟨some b, T', room, (L.map Subtype.val).flatten⟩)
    (hp : p = m * z + j) (hm : m < L.length) (hjz : j ≤ z) (hv : ∀ rest, loadA C.ty T (L[m].1.drop j ++ rest) = some v) (hd : o.dst = some dd) (hn : Nat.blt dd n = true) (hj : J d C n l os Q ((dd, v) :: e) h) : J d C n l (o :: os) Q e h := by
  have hc2 : ∀ y : Cells z, (Subtype.val y).length = z := fun y => y.2
  refine j_mload i hw ho hx hi ?_ hd hn hj
  have h2 := L[m].2
  rw [hp, ← List.drop_drop, drop_flat hc2 L m hm, List.drop_append_of_le_length (by omega)]
  exact hv _
end
end Go.AI

/-
  Calls in statements of open order: with memory of the call's own that is read alone; that write. No condition.
-/
namespace Go.AI
open Go.RowKit
section
variable {C : Cx} {n : Nat} {Q : Exit → Env → Heap → Prop} {e : Env} {h : Heap} {l os : List Oper} {o : Oper} {f : Fl} {fs : List Fl} {B : List (Nat × Blk)}
theorem jctO (hT : Heap) {g : FuncId} {xs all : List A} {R : A → Heap → Prop} {dd : Nat} (hf : Does C.P g all [] R) (hm : f.w = true) (hB : ∀ k ∈ B, k.2 ∈ h) (hp : ∀ k ∈ hT, k ∈ h) (hz : FrzL hT xs all) (hR : ∀ v h1, R v h1 → Clo v ∧ CloH h1) (hd : o.dst = some dd) (hn : Nat.blt dd n = true)
    (hj : ∀ v h1, R v h1 → JO fs B C n l os Q ((dd, v) :: e) (h1 ++ h)) : JCO g xs f fs B C n l o os Q e h := by
  unfold JCO CallAt
  rintro ⟨x, args, ts, caps, as0, hw, ho, hx, ha, rfl⟩
  exact j_mutO hm hw (call_thaw ho hx ha hf hp hz hR) (fun v h' ⟨h1, q1, q2⟩ => by rw [q2]; exact fun k hk => List.mem_append_right _ (hB k hk)) (by rw [hd]; exact hn) fun v h' ⟨h1, q1, q2⟩ => by rw [hd, q2]; exact hj v h1 q1
theorem jcpO (F : Heap) {g : FuncId} {xs all : List A} {R : A → Heap → Prop} {h0 : Heap} {dd : Nat} (hf : Does C.P g all h0 R) (hm : f.w = true) (hp : h.Perm (h0 ++ F)) (hle : LeL xs all) (hd : o.dst = some dd) (hn : Nat.blt dd n = true)
    (hj : ∀ v h1, R v h1 → JO fs [] C n l os Q ((dd, v) :: e) (h1 ++ F)) : JCO g xs f fs [] C n l o os Q e h := by
  unfold JCO CallAt
  rintro ⟨x, args, ts, caps, as0, hw, ho, hx, ha, rfl⟩
  exact j_mutO hm hw ((call_step ho hx ha hf hle).perm hp) (fun _ _ _ k hk => nomatch hk) (by rw [hd]; exact hn) fun v h' ⟨h1, q1, q2⟩ => by rw [hd, q2]; exact hj v h1 q1
end
end Go.AI

/-
  What came in, read as plain data. No condition.
-/
namespace Go.AI
open Go.RowKit

section
variable {H : Type} {enc : TypeId × Value → H} {P : Program} {W : World}

/-- Cells of type t that are read as data are data by f. -/
def Rd (enc : TypeId × Value → H) (P : Program) (W : World) (t : TypeId) {α : Type} (f : α → List A) : Prop :=
  ∀ fuel cs x, DataW.trod enc P W 0 (fun _ => true) true fuel t cs = some x → ∃ a : α, RelL (Im W []) W (f a) cs

theorem im_nil {b : Nat} (h : b < W.heap.size) : Im W [] b := ⟨h, by simp [keys]⟩

def encI (n : Int) : List A := [.int n]
def encB (b : Bool) : List A := [.raw (.bool b)]
def encS {α : Type} (f : α → List A) (l : List α) : List A := [.sl (l.map f)]

theorem mapM_some_get {α β : Type} {f : α → Option β} : ∀ {l : List α} {r : List β}, l.mapM f = some r → r.length = l.length ∧ ∀ i (hi : i < l.length) (hi' : i < r.length), f l[i] = some r[i]
  | [], r, h => by simp at h; subst h; exact ⟨rfl, fun i hi => absurd hi (Nat.not_lt_zero _)⟩
  | a :: l, r, h => by
    rw [List.mapM_cons] at h
    cases ha : f a with
    | none => rw [ha] at h; simp at h
    | some b =>
      cases hl : l.mapM f with
      | none => rw [ha, hl] at h; simp at h
      | some bs =>
        rw [ha, hl] at h
        simp at h
        subst h
        obtain ⟨h1, h2⟩ := mapM_some_get hl
        refine ⟨by simp [h1], fun i hi hi' => ?_⟩
        cases i with
        | zero => simpa using ha
        | succ i => simpa using h2 i (by simpa using hi) (by simpa using hi')

theorem cells_get {base : Nat} {a : Addr} {n : Nat} {cs : List Value} (h : W.cells? base a n = some cs) : cs.length = n ∧ ∀ j (hj : j < n) (hj' : j < cs.length), W.cell? (a.add j) = some cs[j] := by
  unfold World.cells? at h
  split at h
  · obtain ⟨h1, h2⟩ := mapM_some_get h
    simp at h1
    exact ⟨h1, fun j hj hj' => by have := h2 j (by simpa using hj) hj'; simpa using this⟩
  · cases h

theorem cell_spot {a : Addr} {v : Value} (h : W.cell? a = some v) : a.spot = none := by
  unfold World.cell? at h
  split at h
  · split at h
    · cases h
    · rename_i hs; simpa using hs
  · cases h

theorem rd_slice {t e z : Nat} {α : Type} [Inhabited α] {f : α → List A} (ht : P.underlying t = some (.slice e)) (hz : P.cellsOf e = z) (hz0 : 0 < z) (hf : ∀ a, (f a).length = z) (he : Rd enc P W e f) : Rd enc P W t (encS f) := fun fuel cs x h => by
  rcases Deep.open_slice ht h with ⟨rfl, _⟩ | ⟨a, len, cap, m, n, D, Pl, rfl, _, hl, hm, hmm, _, hx⟩
  · exact ⟨[], RelL.cons (.nil _ _) RelL.nil⟩
  · have hlm : len ≤ m := by rw [hmm]; simp; exact hl
    obtain ⟨Y, hY⟩ := Deep.choose_lt (α := α) (n := len) (p := fun i y => ∃ cs', W.cells? 0 (a.add (i * z)) z = some cs' ∧ RelL (Im W []) W (f y) cs') (fun i hi => by
      obtain ⟨cs', h1, h2⟩ := hx i (by omega)
      obtain ⟨y, hy⟩ := he _ _ _ h2
      rw [hz] at h1
      exact ⟨y, cs', h1, hy⟩)
    by_cases h0 : len = 0
    · subst h0
      exact ⟨[], RelL.cons (.nil _ _) RelL.nil⟩
    · refine ⟨(List.range len).map Y, RelL.cons ?_ RelL.nil⟩
      obtain ⟨cs0, h1, h2⟩ := hY 0 (by omega)
      obtain ⟨h3, h4⟩ := cells_get h1
      have c0 := h4 0 hz0 (by omega)
      have hsp : a.spot = none := by
        have := cell_spot c0
        simpa [Addr.add] using this
      obtain ⟨b, off, sp⟩ := a
      simp only at hsp
      subst hsp
      have hb : b < W.heap.size := by
        have := block_lt_of_cell c0
        rw [addr_add, addr_add] at this; exact this
      obtain ⟨V, hV⟩ := Deep.choose_lt (α := List Value) (n := len) (p := fun i cs' => W.cells? 0 ((⟨b, off, none⟩ : Addr).add (i * z)) z = some cs' ∧ RelL (Im W []) W (f (Y i)) cs') (fun i hi => hY i hi)
      have key : Rel (Im W []) W (.sl (((List.range len).map Y).map f)) (.slice (some ⟨b, off, none⟩) (((List.range len).map Y).map f).length cap) := by
        refine .sl _ b off cap z (fun i j => (V i).getD j undef) (im_nil hb) ?_ ?_ ?_ ?_ ?_
        · simp; unfold maxLn; unfold maxLen at hm; omega
        · simpa using hl
        · intro i hi; simpa using hf _
        · intro i j hi hj
          simp at hi
          obtain ⟨q1, q2⟩ := hV i hi
          obtain ⟨q3, q4⟩ := cells_get q1
          have := q4 j hj (by omega)
          rw [addr_add, addr_add] at this
          rw [← Nat.add_assoc, this]
          simp [show j < (V i).length by omega]
        · intro i j hi hj
          simp at hi hj
          obtain ⟨q1, q2⟩ := hV i hi
          have hjv : j < (V i).length := by rw [q2.1]; exact hj
          have := q2.2 j hj hjv
          simpa [hjv] using this
      simpa using key

/-! Structs, field by field. -/
/-- An argument of any other type. -/
theorem open_sc {t : TypeId} {α : Type} {f : α → A} {v : Value} {d : DataW H} {p : List MemPlace} (hr : Rd enc P W t (fun a => [f a])) (h1 : v.cells = #[v]) (h : DataW.Trod enc P W 0 (fun _ => true) true t v d p) : ∃ a : α, Rel (Im W []) W (f a) v := by
  obtain ⟨fuel, hf⟩ := h
  obtain ⟨a, ra⟩ := hr _ _ _ hf
  rw [h1] at ra
  obtain ⟨u, us, e1, r1, _⟩ := ra.uncons
  simp only [List.cons.injEq] at e1
  rw [e1.1]
  exact ⟨a, r1⟩

end
end Go.AI

/-
  Plain facts on copies in memory of the call's own. No condition.
-/
namespace Go.AI
open Go.RowKit
theorem sing_flat : ∀ (l : List A), (l.map fun a => [a]).flatten = l
  | [] => rfl
  | x :: l => by simp only [List.map_cons, List.flatten_cons, sing_flat l]; rfl
theorem OwnSl.clo {α : Type} {E : α → List A → Heap → Prop} {T z : Nat} {xs : List α} {a : A} {h : Heap} (hE : ∀ x cs h, E x cs h → CloL cs ∧ CloH h) (o : OwnSl E T z xs a h) : Clo a ∧ CloH h := by
  obtain ⟨b, css, hs, l1, l2, hall, rfl, rfl⟩ := o
  refine ⟨Clo.os _ _ _, CloH.cons (CloL.flat fun cs hc => ?_) (CloH.flat fun x hx => ?_)⟩
  · obtain ⟨c, hc1, rfl⟩ := List.mem_map.1 hc
    obtain ⟨i, hi, rfl⟩ := List.mem_iff_getElem.1 hc1
    exact (hE _ _ _ (hall i (by omega) hi (by omega))).1
  · obtain ⟨i, hi, rfl⟩ := List.mem_iff_getElem.1 hx
    exact (hE _ _ _ (hall i (by omega) (by omega) hi)).2
/-- .. read only from here on. -/
def FrzF (h1 : Heap) (a a' : A) : Prop := ∀ (F : Heap) (w : World) (v : Value), HeapOk (h1 ++ F) w → Rel (Im w (h1 ++ F)) w a v → Rel (Im w F) w a' v
theorem FrzF.tup2 {h1 : Heap} {a a' c : A} (H : FrzF h1 a a') (hc : Clo c) : FrzF h1 (.tup [a, c]) (.tup [a', c]) := fun F w v ho r => by
  obtain ⟨vs, rfl, rl⟩ := r.tup_inv
  obtain ⟨v1, us, rfl, h1, h2⟩ := rl.uncons
  have := RelL.cons (H F w v1 ho h1) ((CloL.cons hc CloL.nil).rel h2)
  exact .tup _ _ this.1 this.2
theorem FrzF.flat {α : Type} {g : α → List A} {ys : List α} {z n : Nat} {b : Option Nat} {T room cap : Nat} {cs : List A} (hn : n = ys.length) (hcs : cs = (ys.map g).flatten) (hz : ∀ y, (g y).length = z) (hroom : room = cap * z) (hz0 : Nat.blt 0 z = true) : FrzF [⟨b, T, room, cs⟩] (.os b n cap) (.sl (ys.map g)) := fun F w v ho r => by
  have q := Frz.flat (g := g) (z := z) (T := T) hn hcs hz hroom hz0 ([⟨b, T, room, cs⟩] ++ F) w v (fun k hk => List.mem_append_left _ hk) ho r
  subst hn
  cases b with
  | none =>
    obtain ⟨h1, h2, p, h3⟩ := r.osn_inv
    have : ys = [] := List.eq_nil_of_length_eq_zero h1
    subst this
    rw [h3]; exact .nil _ _
  | some b =>
    obtain ⟨e1, hlen⟩ := r.os_inv
    rw [e1]
    have hmem : (⟨some b, T, room, cs⟩ : Blk) ∈ [⟨some b, T, room, cs⟩] ++ F := by simp
    obtain ⟨vs, rest, hb, hr, hrm⟩ := ho.at hmem
    rw [hcs] at hr
    have hlt := ho.lt (mem_keys hmem rfl)
    have hvl : vs.length = ys.length * z := by rw [hr.1, flat_len hz]
    have hzp : 0 < z := Nat.le_of_ble_eq_true hz0
    have hsub : F.Sublist ([⟨some b, T, room, cs⟩] ++ F) := List.sublist_append_right _ _
    have hnm : b ∉ keys F := by
      have := ho.nodup
      have e2 : keys ([⟨some b, T, room, cs⟩] ++ F) = b :: keys F := by simp [keys]
      rw [e2] at this
      exact (List.nodup_cons.1 this).1
    have hcap : ys.length ≤ cap := by
      have : ys.length * z ≤ cap * z := by rw [← hroom, hrm, ← hvl]; simp
      exact Nat.le_of_mul_le_mul_right this hzp
    have bound : ∀ i j, i < ys.length → j < z → i * z + j < ys.length * z := fun i j h1 h2 => by
      have : (i + 1) * z ≤ ys.length * z := Nat.mul_le_mul_right z h1
      rw [Nat.succ_mul] at this; omega
    have key : Rel (Im w F) w (.sl (ys.map g)) (.slice (some ⟨b, 0, none⟩) (ys.map g).length cap) := by
      refine .sl _ b 0 cap z (fun i j => vs.getD (i * z + j) undef) ⟨hlt, hnm⟩ (by simpa using hlen) (by simpa using hcap) (fun i hi => by simpa using hz _) (fun i j hi hj => ?_) (fun i j hi hj => ?_)
      · simp at hi
        have hv : i * z + j < vs.length := by rw [hvl]; exact bound i j hi hj
        rw [Nat.zero_add, cell_of_vs hb _ hv]; simp [hv]
      · simp at hi hj
        have hj' : j < z := by rw [← hz ys[i]]; exact hj
        have hv : i * z + j < vs.length := by rw [hvl]; exact bound i j hi hj'
        obtain ⟨u, hu1, hu2⟩ := hr.get (flat_get ys i j hi hj hz)
        have : vs.getD (i * z + j) undef = u := by simp [hu1]
        rw [this]
        simpa using hu2.heap hsub
    simpa using key
theorem Does.frozen {P : Program} {f : FuncId} {as : List A} {R : A → Heap → Prop} {v' : A} (hd : Does P f as [] R) (hR : ∀ v h1, R v h1 → FrzF h1 v v') : Gives P f as v' :=
  ⟨hd.1, fun h w vs hr hh => (hd.2 h w vs hr hh).mono fun e w' ⟨u, v, h1, e1, e2, e3, e4⟩ => ⟨u, e1, e3.drop (List.Perm.refl _) (List.sublist_append_right h1 h), hR v h1 e2 h w' u e3.heap e4⟩⟩
section
variable {C : Cx} {n : Nat} {Q : Exit → Env → Heap → Prop} {e : Env} {h : Heap} {d : Bool} {l os : List Oper} {o : Oper}
end
end Go.AI

/-
  slices.Grow of a list that is nil: its capacity, zeros behind it, and slices of lists of the call's own. No condition.
-/
namespace Go.AI
open Go.RowKit

section
variable {C : Cx} {n : Nat} {Q : Exit → Env → Heap → Prop} {e : Env} {h h' : Heap} {d : Bool} {l os : List Oper} {o : Oper} {f : Fl} {fs : List Fl} {B : List (Nat × Blk)}
theorem cap0_quiet {t sz E z : Nat} {x : Operand} (ho : o.op = .call ⟨.builtin .cap, #[x], #[t]⟩) (hT : C.ty t = some ⟨sz, .slice E z⟩) (hx : evO e x = some (.os none 0 0)) : Quiet C.P o e h (.int 0) := by
  apply Quiet.of_same
  intro a w hs
  have hops := hs.ops
  rw [ho] at hops
  have hti := C.ok _ _ hT
  simp only [TIok, Bool.and_eq_true] at hti
  obtain ⟨hu, hes⟩ := und_slice hti.2
  obtain ⟨_, _, p, ex⟩ := (hops x (by simp [Op.operands, Call.operands]) _ hx).osn_inv
  refine ⟨goInt 0, ?_, Rel.int _ (by unfold InR; omega)⟩
  simp [execOp, ho, resolve, invoke, builtin, Builtin.cap_, run_underlying hu, ex]
theorem sl0_quiet {T E z sz m c : Nat} {b : Option Nat} {x q : Operand} (ho : o.op = .slice T x none (some q) none) (hT : C.ty T = some ⟨sz, .slice E z⟩) (hx : evO e x = some (.os b m c)) (hq : evO e q = some (.int 0)) : Quiet C.P o e h (.os b 0 c) := by
  apply Quiet.of_same
  intro a w hs
  have hops := hs.ops
  rw [ho] at hops
  have hti := C.ok _ _ hT
  simp only [TIok, Bool.and_eq_true] at hti
  obtain ⟨hu, hes⟩ := und_slice hti.2
  have hsz := run_sizeOf hes w
  have r := hops x (by simp [Op.operands]) _ hx
  obtain ⟨e3, _⟩ := (hops q (by simp [Op.operands]) _ hq).int_inv
  cases b with
  | none =>
    obtain ⟨rfl, rfl, p, ex⟩ := r.osn_inv
    refine ⟨.slice p 0 0, ?_, .osn _⟩
    simp [execOp, ho, Instr.slice, Instr.sliceAt, run_underlying hu, ex, Instr.sliceBounds, Instr.sliceBound, asIntOf, e3, hsz]
  | some b =>
    obtain ⟨ex, _⟩ := r.os_inv
    refine ⟨.slice (some ⟨b, 0, none⟩) 0 c, ?_, .os b 0 c (Nat.zero_le _)⟩
    simp [execOp, ho, Instr.slice, Instr.sliceAt, run_underlying hu, ex, Instr.sliceBounds, Instr.sliceBound, asIntOf, e3, hsz, addr_add]
theorem j_cap0 {t sz E z dd : Nat} {x : Operand} (hw : wantE l e o = some true) (ho : o.op = .call ⟨.builtin .cap, #[x], #[t]⟩) (hT : C.ty t = some ⟨sz, .slice E z⟩) (hx : evO e x = some (.os none 0 0)) (hd : o.dst = some dd) (hn : Nat.blt dd n = true)
    (hj : J d C n l os Q ((dd, .int 0) :: e) h) : J d C n l (o :: os) Q e h := j_quiet hw (fun _ => cap0_quiet ho hT hx) hd hn hj
theorem j_sl0 {T E z sz m c dd : Nat} {b : Option Nat} {x q : Operand} (hw : wantE l e o = some true) (ho : o.op = .slice T x none (some q) none) (hT : C.ty T = some ⟨sz, .slice E z⟩) (hx : evO e x = some (.os b m c)) (hq : evO e q = some (.int 0)) (hd : o.dst = some dd) (hn : Nat.blt dd n = true)
    (hj : J d C n l os Q ((dd, .os b 0 c) :: e) h) : J d C n l (o :: os) Q e h := j_quiet hw (fun _ => sl0_quiet ho hT hx hq) hd hn hj
/-- 'append(nil, make([]E, m)...)': memory of the call's own, of whose contents nothing is told. -/
theorem appendz_step {T U E z sz sz2 bytes m : Nat} {zk : List ZK} {x y : Operand} (ho : o.op = .call ⟨.builtin .append, #[x, y], #[T, U]⟩) (hT : C.ty T = some ⟨sz, .slice E z⟩) (hU : C.ty U = some ⟨sz2, .ik .i64⟩) (hz : C.zt E = some (zk, bytes)) (hzl : zk.length = z) (hz0 : 0 < z)
    (hx : evO e x = some (.os none 0 0)) (hy : evO e y = some (.int (m : Int))) (hm0 : 0 < m) (hsize : m * bytes ≤ 140737488355328) (hlen : m ≤ maxLn) :
    MStep C.P o e h fun v h' => ∃ b' cap', v = .os (some b') m cap' ∧ h' = ⟨some b', E, cap' * z, []⟩ :: h := by
  intro a w hs
  have hti := C.ok _ _ hT
  simp only [TIok, Bool.and_eq_true] at hti
  obtain ⟨hu, hes⟩ := und_slice hti.2
  have htu := C.ok _ _ hU
  simp only [TIok, Bool.and_eq_true] at htu
  have huu := und_ik htu.2
  have hsz := run_sizeOf hes
  obtain ⟨zv, hz1, hz2⟩ := C.zok _ _ _ hz
  obtain ⟨_, _, p, ex⟩ := (hs.ops x (by simp [ho, Op.operands, Call.operands]) _ hx).osn_inv
  obtain ⟨ey, hwr⟩ := (hs.ops y (by simp [ho, Op.operands, Call.operands]) _ hy).int_inv
  obtain ⟨ti, hti1, hti2⟩ := info_of_size hes
  have hexec : (execOp a.eval o).run C.P w = ((Builtin.append_ #[T, U] o.type #[a.eval x, a.eval y]).run C.P w).andThen fun v w => .ok (Next.value v) w := by
    simp only [execOp, ho, resolve, invoke, builtin, Sem.run_bind, Sem.run_pure, Result.andThen_ok, List.map_toArray, List.map_cons, List.map_nil]
  have hbytes : ti.bytes = bytes := by
    have := hz1
    unfold ZeroOk at this
    rw [hti1] at this
    simp at this
    exact this.2
  have hzero : ti.zero = some zv := by
    have := hz1
    unfold ZeroOk at this
    rw [hti1] at this
    simp at this
    exact this.1
  have hcapge := grownCap_ge w m 0 E
  have hzc : zv.cells.size = z := by rw [hz2]; simp [hzl]
  have hfit : ¬ (281474976710656 < Builtin.nextslicecap m 0 * ti.bytes) := by
    have := growslice_fits (need := m) (old := 0) (bytes := ti.bytes) (by omega) (by rw [hbytes]; exact hsize)
    omega
  have hmax : IntKind.i64.max = 9223372036854775807 := by decide
  have hw64 : IntKind.i64.wrap (m : Int) = (m : Int) := wrap64_in hwr
  have hn : ¬ (m ≤ 0) := by omega
  have hmz : ¬ (m * z = 0) := fun q => by rcases Nat.mul_eq_zero.1 q with q | q <;> omega
  have hml : ((m * bytes : Nat) : Int) = (m : Int) * (bytes : Int) := Int.natCast_mul m bytes
  have hby : ¬ (281474976710656 < (m : Int) * (ti.bytes : Int)) := by rw [hbytes, ← hml]; omega
  have h63 : ¬ ((9223372036854775807 : Int) < (m : Int)) := by unfold maxLn at hlen; omega
  have hneg : ¬ ((m : Int) < 0) := by omega
  have hrun : (Builtin.append_ #[T, U] o.type #[a.eval x, a.eval y]).run C.P w =
      .ok (.slice (some ⟨w.heap.size, 0, none⟩) m (grownCap w m 0 E)) (w.drew.alloc (.cells ([] ++ ((Builtin.zeroCells zv.cells m).toList ++ (Builtin.zeroCells zv.cells (grownCap w m 0 E - m)).toList)).toArray E)) := by
    rw [ex, ey]
    have hf : (Builtin.firstCells z 0 (.slice p 0 0)).run C.P w.drew = .ok #[] w.drew := by
      cases p with
      | none => simp [Builtin.firstCells]
      | some pa => have := run_firstCells_some (P := C.P) w.drew z 0 pa 0 0 [] (by simp) (by simp); simpa using this
    simp [Builtin.append_, run_underlying hu, run_underlying huu, hsz, typeInfo, zeroValue, hti1, hzero, hn, hm0, hw64, hby, hneg, h63, hfit, hmax, hmz, Question.forced, hf, newRow, grownCap, asInt, asIntOf]
    rw [if_neg (by omega)]
    congr 4
    apply Array.ext'
    simp
  suffices hsuff : ∃ u w', (Builtin.append_ #[T, U] o.type #[a.eval x, a.eval y]).run C.P w = .ok u w' ∧ ∃ v h', (∃ b' cap', v = .os (some b') m cap' ∧ h' = ⟨some b', E, cap' * z, []⟩ :: h) ∧ Chg h h' w w' ∧ Rel (Im w' h') w' v u by
    obtain ⟨u, w', h1, h2⟩ := hsuff
    unfold Yields
    rw [hexec, h1]
    exact h2
  have hx1 : Ext [] w (w.drew.alloc (.cells ([] ++ ((Builtin.zeroCells zv.cells m).toList ++ (Builtin.zeroCells zv.cells (grownCap w m 0 E - m)).toList)).toArray E)) := (Ext.drew w).trans (Ext.alloc w.drew _)
  have hroom' : grownCap w m 0 E * z = ([] ++ ((Builtin.zeroCells zv.cells m).toList ++ (Builtin.zeroCells zv.cells (grownCap w m 0 E - m)).toList)).length := by
    simp only [List.length_append, List.nil_append, Array.length_toList, size_zeroCells, hzc]
    rw [← Nat.add_mul]
    congr 1; omega
  have hcg := chg_new (h := h) (w := w) (T := E) (vs := []) (rest := (Builtin.zeroCells zv.cells m).toList ++ (Builtin.zeroCells zv.cells (grownCap w m 0 E - m)).toList) (cs := []) hs.heap hx1
    (by have := heap_new w.drew (.cells ([] ++ ((Builtin.zeroCells zv.cells m).toList ++ (Builtin.zeroCells zv.cells (grownCap w m 0 E - m)).toList)).toArray E); exact this) RelL.nil hroom'
  exact ⟨_, _, hrun, _, _, ⟨w.heap.size, _, rfl, rfl⟩, hcg, .os _ _ _ hlen⟩
theorem j_appendz {T U E z sz sz2 bytes m dd : Nat} {zk : List ZK} {x y : Operand} (hw : wantE l e o = some true) (ho : o.op = .call ⟨.builtin .append, #[x, y], #[T, U]⟩) (hT : C.ty T = some ⟨sz, .slice E z⟩) (hU : C.ty U = some ⟨sz2, .ik .i64⟩) (hz : C.zt E = some (zk, bytes)) (hzl : zk.length = z) (hz0 : Nat.blt 0 z = true)
    (hx : evO e x = some (.os none 0 0)) (hy : evO e y = some (.int (m : Int))) (hm0 : 0 < m) (hsize : m * bytes ≤ 140737488355328 ∧ m ≤ 9223372036854775807) (hd : o.dst = some dd) (hn : Nat.blt dd n = true)
    (hj : ∀ b' cap', J false C n l os Q ((dd, .os (some b') m cap') :: e) (⟨some b', E, cap' * z, []⟩ :: h)) : J false C n l (o :: os) Q e h :=
  j_mut hw (appendz_step ho hT hU hz hzl (Nat.le_of_ble_eq_true hz0) hx hy hm0 hsize.1 hsize.2) (by rw [hd]; exact hn) fun v h' ⟨b', cap', h1, h2⟩ => by rw [hd, h1, h2]; exact hj b' cap'
end
end Go.AI

/-
  Results in memory of the call's own, with room or without a block: what is told of them. No condition.
-/
namespace Go.AI
open Go.RowKit
/-- A list whose elements' cells and memory are told by E, in memory of the call's own, with room behind it. -/
def OwnC {α : Type} (E : α → List A → Heap → Prop) (T z : Nat) (xs : List α) (a : A) (h : Heap) : Prop :=
  ∃ (b : Option Nat) (cap : Nat) (css : List (Cells z)) (hs : List Heap), css.length = xs.length ∧ hs.length = xs.length ∧ (∀ i (hi : i < xs.length) (h1 : i < css.length) (h2 : i < hs.length), E xs[i] css[i].1 hs[i]) ∧
    a = .os b xs.length cap ∧ h = ⟨b, T, cap * z, (css.map Subtype.val).flatten⟩ :: hs.flatten
theorem OwnC.frz {α : Type} {E : α → List A → Heap → Prop} {enc : α → List A} {T z : Nat} {xs : List α} {a : A} {h : Heap} (hz : ∀ x, (enc x).length = z) (hz0 : Nat.blt 0 z = true) (hE : ∀ x cs h, E x cs h → FrzL h cs (enc x)) (o : OwnC E T z xs a h) : Frz h a (.sl (xs.map enc)) := by
  obtain ⟨b, cap, css, hs, l1, l2, hall, rfl, rfl⟩ := o
  intro F w v hm ho r
  cases b with
  | none =>
    obtain ⟨h1, h2, p, h3⟩ := r.osn_inv
    have : xs = [] := List.eq_nil_of_length_eq_zero h1
    subst this
    rw [h3]; exact .nil _ _
  | some b =>
  obtain ⟨e1, hlen⟩ := r.os_inv
  rw [e1]
  have hmem := hm (⟨some b, T, cap * z, (css.map Subtype.val).flatten⟩ : Blk) (List.mem_cons_self ..)
  obtain ⟨vs, rest, hb, hr, hrm⟩ := ho.at hmem
  have hlt := ho.lt (mem_keys hmem rfl)
  have hc2 : ∀ y : Cells z, (Subtype.val y).length = z := fun y => y.2
  have hvl : vs.length = xs.length * z := by rw [hr.1, flat_len hc2, l1]
  have hzp : 0 < z := Nat.le_of_ble_eq_true hz0
  have hcap : xs.length ≤ cap := by
    have : xs.length * z ≤ cap * z := by rw [hrm, ← hvl]; simp
    exact Nat.le_of_mul_le_mul_right this hzp
  have bound : ∀ i j, i < xs.length → j < z → i * z + j < xs.length * z := fun i j h1 h2 => by
    have : (i + 1) * z ≤ xs.length * z := Nat.mul_le_mul_right z h1
    rw [Nat.succ_mul] at this; omega
  have key : Rel (Im w []) w (.sl (xs.map enc)) (.slice (some ⟨b, 0, none⟩) (xs.map enc).length cap) := by
    refine .sl _ b 0 cap z (fun i j => vs.getD (i * z + j) undef) ⟨hlt, by simp [keys]⟩ (by simpa using hlen) (by simpa using hcap) (fun i hi => by simpa using hz _) (fun i j hi hj => ?_) (fun i j hi hj => ?_)
    · simp at hi
      have hv : i * z + j < vs.length := by rw [hvl]; exact bound i j hi hj
      rw [Nat.zero_add, cell_of_vs hb _ hv]; simp [hv]
    · simp only [List.length_map] at hi
      have hj' : j < z := by
        have := hz xs[i]
        simp only [List.getElem_map] at hj; omega
      have hi1 : i < css.length := by omega
      have hi2 : i < hs.length := by omega
      have seg : RelL (Im w F) w css[i].1 ((List.range z).map fun j => vs.getD (i * z + j) undef) := by
        refine ⟨by simp [css[i].2], fun q hq hq' => ?_⟩
        have hqz : q < z := by have := css[i].2; omega
        obtain ⟨u, hu1, hu2⟩ := hr.get (flat_get (f := Subtype.val) css i q hi1 hq hc2)
        have e3 : vs.getD (i * z + q) undef = u := by simp [hu1]
        simp only [List.getElem_map, List.getElem_range, e3]
        exact hu2
      have := (hE _ _ _ (hall i hi hi1 hi2)) F w _ (fun k hk => hm k (List.mem_cons_of_mem _ (List.mem_flatten.2 ⟨_, List.getElem_mem hi2, hk⟩))) ho seg
      have h3 := this.2 j (by rw [hz]; exact hj') (by simpa using hj')
      simpa using h3
  simpa using key
theorem OwnC.clo {α : Type} {E : α → List A → Heap → Prop} {T z : Nat} {xs : List α} {a : A} {h : Heap} (hE : ∀ x cs h, E x cs h → CloL cs ∧ CloH h) (o : OwnC E T z xs a h) : Clo a ∧ CloH h := by
  obtain ⟨b, cap, css, hs, l1, l2, hall, rfl, rfl⟩ := o
  refine ⟨Clo.os _ _ _, CloH.cons (CloL.flat fun cs hc => ?_) (CloH.flat fun x hx => ?_)⟩
  · obtain ⟨c, hc1, rfl⟩ := List.mem_map.1 hc
    obtain ⟨i, hi, rfl⟩ := List.mem_iff_getElem.1 hc1
    exact (hE _ _ _ (hall i (by omega) hi (by omega))).1
  · obtain ⟨i, hi, rfl⟩ := List.mem_iff_getElem.1 hx
    exact (hE _ _ _ (hall i (by omega) (by omega) hi)).2
theorem Clo.nil : Clo (.sl []) := fun S S' w w' v r => by
  cases r with
  | nil a c => exact .nil a c
  | sl xs b off cap sz V hS hlen hcap hsz hc hr => exact .nil _ _
/-- A flat list in memory of the call's own. -/
def OwnF {α : Type} (g : α → List A) (T z : Nat) (l : List α) (a : A) (h : Heap) : Prop := (∃ b cap, a = .os b l.length cap ∧ h = [⟨b, T, cap * z, (l.map g).flatten⟩]) ∨ (l = [] ∧ a = .sl [] ∧ h = [])
theorem OwnF.frz {α : Type} {g : α → List A} {T z : Nat} {l : List α} {a : A} {h : Heap} (hz : ∀ x, (g x).length = z) (hz0 : Nat.blt 0 z = true) (o : OwnF g T z l a h) : Frz h a (.sl (l.map g)) := by
  rcases o with ⟨b, cap, rfl, rfl⟩ | ⟨rfl, rfl, rfl⟩
  · exact Frz.flat rfl rfl hz rfl hz0
  · exact Frz.same _ _
theorem OwnF.clo {α : Type} {g : α → List A} {T z : Nat} {l : List α} {a : A} {h : Heap} (hc : ∀ x, CloL (g x)) (o : OwnF g T z l a h) : Clo a ∧ CloH h := by
  rcases o with ⟨b, cap, rfl, rfl⟩ | ⟨rfl, rfl, rfl⟩
  · refine ⟨Clo.os _ _ _, CloH.cons (CloL.flat fun cs hcs => ?_) CloH.nil⟩
    obtain ⟨x, _, rfl⟩ := List.mem_map.1 hcs
    exact hc x
  · exact ⟨Clo.nil, CloH.nil⟩
/-- A list of lists of the call's own. -/
def OwnLL {β : Type} (O : β → A → Heap → Prop) (T : Nat) (L : List β) (a : A) (h : Heap) : Prop :=
  (∃ (b : Option Nat) (cap : Nat) (vs : List A) (hs : List Heap), vs.length = L.length ∧ hs.length = L.length ∧ (∀ i (h0 : i < L.length) (h1 : i < vs.length) (h2 : i < hs.length), O L[i] vs[i] hs[i]) ∧
    a = .os b L.length cap ∧ h = ⟨b, T, cap * 1, (vs.map fun a => [a]).flatten⟩ :: hs.flatten) ∨ (L = [] ∧ a = .sl [] ∧ h = [])
theorem ownLL_c {β : Type} {O : β → A → Heap → Prop} {T : Nat} {L : List β} {a : A} {h : Heap} (o : ∃ (b : Option Nat) (cap : Nat) (vs : List A) (hs : List Heap), vs.length = L.length ∧ hs.length = L.length ∧ (∀ i (h0 : i < L.length) (h1 : i < vs.length) (h2 : i < hs.length), O L[i] vs[i] hs[i]) ∧
    a = .os b L.length cap ∧ h = ⟨b, T, cap * 1, (vs.map fun a => [a]).flatten⟩ :: hs.flatten) : OwnC (fun x cs h => ∃ a, cs = [a] ∧ O x a h) T 1 L a h := by
  obtain ⟨b, cap, vs, hs, l1, l2, hall, rfl, rfl⟩ := o
  refine ⟨b, cap, vs.map fun a => ⟨[a], rfl⟩, hs, by simpa using l1, l2, fun i hi h1 h2 => ⟨vs[i]'(by omega), by simp, hall i hi (by omega) h2⟩, rfl, ?_⟩
  congr 2
  rw [List.map_map]
  rfl
theorem OwnLL.frz {β : Type} {O : β → A → Heap → Prop} {enc : β → List (List A)} {T : Nat} {L : List β} {a : A} {h : Heap} (hO : ∀ x a h, O x a h → Frz h a (.sl (enc x))) (o : OwnLL O T L a h) {e : β → List A} (he : ∀ x, e x = [.sl (enc x)]) : Frz h a (.sl (L.map e)) := by
  rcases o with o | ⟨rfl, rfl, rfl⟩
  · exact (ownLL_c o).frz (fun x => by rw [he]; rfl) rfl (fun x cs h ⟨a, e1, q⟩ => by rw [he, e1]; exact FrzL.cons (hO x a h q) (FrzL.nil _))
  · exact Frz.same _ _
theorem OwnLL.clo {β : Type} {O : β → A → Heap → Prop} {T : Nat} {L : List β} {a : A} {h : Heap} (hO : ∀ x a h, O x a h → Clo a ∧ CloH h) (o : OwnLL O T L a h) : Clo a ∧ CloH h := by
  rcases o with o | ⟨rfl, rfl, rfl⟩
  · exact (ownLL_c o).clo (fun x cs h ⟨a, e1, q⟩ => by rw [e1]; exact ⟨CloL.cons (hO x a h q).1 CloL.nil, (hO x a h q).2⟩)
  · exact ⟨Clo.nil, CloH.nil⟩
end Go.AI
