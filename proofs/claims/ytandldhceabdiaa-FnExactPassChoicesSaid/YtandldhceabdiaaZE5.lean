/-
  Plain facts on copies in memory of the call's own. No condition.
-/
import Derived.Test.YtandldhceabdiaaZOwn
import Derived.Test.YtandldhceabdiaaZEnd
namespace Go.AI
open Go.RowKit
def mcnt {α : Type} (f : α → Nat) (l : List α) : Nat := (l.map f).sum
theorem mcnt_take {α : Type} {f : α → Nat} {l : List α} {k : Nat} (hk : k < l.length) : mcnt f (l.take (k + 1)) = mcnt f (l.take k) + f l[k] := by
  unfold mcnt
  rw [List.take_succ_eq_append_getElem hk, List.map_append, List.sum_append]
  simp
theorem mcnt_take_le {α : Type} {f : α → Nat} : ∀ (k : Nat) (l : List α), mcnt f (l.take k) ≤ mcnt f l
  | 0, l => by simp [mcnt]
  | k + 1, [] => by simp
  | k + 1, x :: l => by
    have := mcnt_take_le (f := f) k l
    simp only [mcnt, List.take_succ_cons, List.map_cons, List.sum_cons] at this ⊢
    omega
theorem mcnt_le {α : Type} {f : α → Nat} {M : Nat} : ∀ {l : List α}, (∀ x ∈ l, f x ≤ M) → mcnt f l ≤ l.length * M
  | [], _ => by simp [mcnt]
  | x :: l, h => by
    have h1 := mcnt_le (f := f) (M := M) (l := l) fun y hy => h y (List.mem_cons_of_mem _ hy)
    have h2 := h x (List.mem_cons_self ..)
    simp only [mcnt, List.map_cons, List.sum_cons, List.length_cons] at h1 ⊢
    rw [Nat.succ_mul]; omega
theorem mcnt_le2 {α : Type} {f : α → Nat} {M N : Nat} {l : List α} (hn : l.length ≤ N) (h : ∀ x ∈ l, f x ≤ M) : mcnt f l ≤ N * M := Nat.le_trans (mcnt_le h) (Nat.mul_le_mul_right _ hn)
theorem sing_flat : ∀ (l : List A), (l.map fun a => [a]).flatten = l
  | [] => rfl
  | x :: l => by simp only [List.map_cons, List.flatten_cons, sing_flat l]; rfl
theorem range_set {f : Nat → A} {cs : List A} {i : Nat} (v : A) (hv : v = f i) (hi : i < cs.length) : (((List.range i).map f) ++ cs.drop i).set i v = ((List.range (i + 1)).map f) ++ cs.drop (i + 1) := by
  rw [List.set_append_right _ _ (by simp)]
  rw [List.drop_eq_getElem_cons hi]
  have : i - ((List.range i).map f).length = 0 := by simp
  rw [this, List.set_cons_zero, List.range_succ, hv]
  simp
theorem own_flat {α : Type} {g : α → List A} {T z b : Nat} {l : List α} (hz : ∀ x, (g x).length = z) : OwnSl (fun x cs h => cs = g x ∧ h = []) T z l (.os (some b) l.length l.length) [⟨some b, T, l.length * z, (l.map g).flatten⟩] :=
  ⟨b, l.map fun x => ⟨g x, hz x⟩, l.map fun _ => [], by simp, by simp, fun i hi h1 h2 => ⟨by simp, by simp⟩, rfl, by
    have e1 : ((l.map fun x => (⟨g x, hz x⟩ : Cells z)).map Subtype.val) = l.map g := by simp [Function.comp_def]
    have e2 : (l.map fun _ => ([] : Heap)).flatten = [] := by
      induction l with
      | nil => rfl
      | cons x l ih => simp
    rw [e1, e2]⟩
theorem own_unflat {α : Type} {g : α → List A} {T : Nat} {l : List α} {a : A} {h : Heap} (hg : ∀ x, ∃ u, g x = [u]) (ho : OwnSl (fun x cs h => cs = g x ∧ h = []) T 1 l a h) :
    ∃ (b : Nat) (cs : List A), a = .os (some b) l.length l.length ∧ cs.length = l.length ∧ h = [⟨some b, T, l.length * 1, (cs.map fun a => [a]).flatten⟩] := by
  obtain ⟨b, css, hs, l1, l2, hall, rfl, rfl⟩ := ho
  have hc2 : ∀ y : Cells 1, (Subtype.val y).length = 1 := fun y => y.2
  refine ⟨b, (css.map Subtype.val).flatten, rfl, by rw [flat_len hc2, l1]; omega, ?_⟩
  rw [sing_flat]
  have : hs.flatten = [] := List.flatten_eq_nil_iff.2 fun x hx => by
    obtain ⟨i, hi, rfl⟩ := List.mem_iff_getElem.1 hx
    exact (hall i (by omega) (by omega) hi).2
  rw [this]
theorem app_rep_set {α : Type} {css : List α} {k n : Nat} {x c : α} (g : css.length = k) (hk : k < n) : (css ++ List.replicate (n - k) x).set k c = css ++ [c] ++ List.replicate (n - (k + 1)) x := by
  rw [List.set_append_right _ _ (by omega), g, Nat.sub_self]
  have : n - k = (n - (k + 1)) + 1 := by omega
  rw [this, List.replicate_succ, List.set_cons_zero]
  simp
theorem own_snoc {α : Type} {E : α → List A → Heap → Prop} {z : Nat} {l : List α} {k : Nat} {css : List (Cells z)} {c : Cells z} {hs : List Heap} {h1 : Heap} (g2 : css.length = k) (g3 : hs.length = k) {hl : k < l.length}
    (g4 : ∀ i (hi : i < l.length) (h1 : i < css.length) (h2 : i < hs.length), E l[i] css[i].1 hs[i]) (hE : E l[k] c.1 h1) : ∀ i (hi : i < l.length) (h1' : i < (css ++ [c]).length) (h2' : i < (hs ++ [h1]).length), E l[i] (css ++ [c])[i].1 (hs ++ [h1])[i] := fun i hi h1' h2' => by
  by_cases hik : i < k
  · rw [List.getElem_append_left (by omega), List.getElem_append_left (by omega)]
    exact g4 i hi (by omega) (by omega)
  · have : i = k := by simp at h1'; omega
    subst this
    have e1 : (css ++ [c])[i] = c := by rw [List.getElem_append_right (by omega)]; simp [g2]
    have e2 : (hs ++ [h1])[i] = h1 := by rw [List.getElem_append_right (by omega)]; simp [g3]
    rw [e1, e2]; exact hE
theorem OwnSl.clo {α : Type} {E : α → List A → Heap → Prop} {T z : Nat} {xs : List α} {a : A} {h : Heap} (hE : ∀ x cs h, E x cs h → CloL cs ∧ CloH h) (o : OwnSl E T z xs a h) : Clo a ∧ CloH h := by
  obtain ⟨b, css, hs, l1, l2, hall, rfl, rfl⟩ := o
  refine ⟨Clo.os _ _ _, CloH.cons (CloL.flat fun cs hc => ?_) (CloH.flat fun x hx => ?_)⟩
  · obtain ⟨c, hc1, rfl⟩ := List.mem_map.1 hc
    obtain ⟨i, hi, rfl⟩ := List.mem_iff_getElem.1 hc1
    exact (hE _ _ _ (hall i (by omega) hi (by omega))).1
  · obtain ⟨i, hi, rfl⟩ := List.mem_iff_getElem.1 hx
    exact (hE _ _ _ (hall i (by omega) (by omega) hi)).2
/-- .. read only from here on. -/
def FrzF (h1 : Heap) (a a' : A) : Prop := ∀ (F : Heap) (w : World) (v : Value), HeapOk (h1 ++ F) w → Rel (Im w (h1 ++ F)) w a v → Rel (Im w F) w a' v
theorem FrzF.tup2 {h1 : Heap} {a a' c : A} (H : FrzF h1 a a') (hc : Clo c) : FrzF h1 (.tup [a, c]) (.tup [a', c]) := fun F w v ho r => by
  obtain ⟨vs, rfl, rl⟩ := r.tup_inv
  obtain ⟨v1, us, rfl, h1, h2⟩ := rl.uncons
  have := RelL.cons (H F w v1 ho h1) ((CloL.cons hc CloL.nil).rel h2)
  exact .tup _ _ this.1 this.2
theorem FrzF.flat {α : Type} {g : α → List A} {ys : List α} {z n : Nat} {b : Option Nat} {T room cap : Nat} {cs : List A} (hn : n = ys.length) (hcs : cs = (ys.map g).flatten) (hz : ∀ y, (g y).length = z) (hroom : room = cap * z) (hz0 : Nat.blt 0 z = true) : FrzF [⟨b, T, room, cs⟩] (.os b n cap) (.sl (ys.map g)) := fun F w v ho r => by
  have q := Frz.flat (g := g) (z := z) (T := T) hn hcs hz hroom hz0 ([⟨b, T, room, cs⟩] ++ F) w v (fun k hk => List.mem_append_left _ hk) ho r
  subst hn
  cases b with
  | none =>
    obtain ⟨h1, h2, p, h3⟩ := r.osn_inv
    have : ys = [] := List.eq_nil_of_length_eq_zero h1
    subst this
    rw [h3]; exact .nil _ _
  | some b =>
    obtain ⟨e1, hlen⟩ := r.os_inv
    rw [e1]
    have hmem : (⟨some b, T, room, cs⟩ : Blk) ∈ [⟨some b, T, room, cs⟩] ++ F := by simp
    obtain ⟨vs, rest, hb, hr, hrm⟩ := ho.at hmem
    rw [hcs] at hr
    have hlt := ho.lt (mem_keys hmem rfl)
    have hvl : vs.length = ys.length * z := by rw [hr.1, flat_len hz]
    have hzp : 0 < z := Nat.le_of_ble_eq_true hz0
    have hsub : F.Sublist ([⟨some b, T, room, cs⟩] ++ F) := List.sublist_append_right _ _
    have hnm : b ∉ keys F := by
      have := ho.nodup
      have e2 : keys ([⟨some b, T, room, cs⟩] ++ F) = b :: keys F := by simp [keys]
      rw [e2] at this
      exact (List.nodup_cons.1 this).1
    have hcap : ys.length ≤ cap := by
      have : ys.length * z ≤ cap * z := by rw [← hroom, hrm, ← hvl]; simp
      exact Nat.le_of_mul_le_mul_right this hzp
    have bound : ∀ i j, i < ys.length → j < z → i * z + j < ys.length * z := fun i j h1 h2 => by
      have : (i + 1) * z ≤ ys.length * z := Nat.mul_le_mul_right z h1
      rw [Nat.succ_mul] at this; omega
    have key : Rel (Im w F) w (.sl (ys.map g)) (.slice (some ⟨b, 0, none⟩) (ys.map g).length cap) := by
      refine .sl _ b 0 cap z (fun i j => vs.getD (i * z + j) undef) ⟨hlt, hnm⟩ (by simpa using hlen) (by simpa using hcap) (fun i hi => by simpa using hz _) (fun i j hi hj => ?_) (fun i j hi hj => ?_)
      · simp at hi
        have hv : i * z + j < vs.length := by rw [hvl]; exact bound i j hi hj
        rw [Nat.zero_add, cell_of_vs hb _ hv]; simp [hv]
      · simp at hi hj
        have hj' : j < z := by rw [← hz ys[i]]; exact hj
        have hv : i * z + j < vs.length := by rw [hvl]; exact bound i j hi hj'
        obtain ⟨u, hu1, hu2⟩ := hr.get (flat_get ys i j hi hj hz)
        have : vs.getD (i * z + j) undef = u := by simp [hu1]
        rw [this]
        simpa using hu2.heap hsub
    simpa using key
theorem Does.frozen {P : Program} {f : FuncId} {as : List A} {R : A → Heap → Prop} {v' : A} (hd : Does P f as [] R) (hR : ∀ v h1, R v h1 → FrzF h1 v v') : Gives P f as v' :=
  ⟨hd.1, fun h w vs hr hh => (hd.2 h w vs hr hh).mono fun e w' ⟨u, v, h1, e1, e2, e3, e4⟩ => ⟨u, e1, e3.drop (List.Perm.refl _) (List.sublist_append_right h1 h), hR v h1 e2 h w' u e3.heap e4⟩⟩
theorem OwnSl.isos {α : Type} {E : α → List A → Heap → Prop} {T z : Nat} {xs : List α} {a : A} {h : Heap} (o : OwnSl E T z xs a h) : ∃ b, a = .os (some b) xs.length xs.length := by
  obtain ⟨b, css, hs, l1, l2, hall, h1, h2⟩ := o
  exact ⟨b, h1⟩
theorem ani {a b : Nat} (h : a = b) : A.int (a : Int) = A.int (b : Int) := by rw [h]
theorem run_heq {C : Cx} {n : Nat} {c : Code} {Q : Exit → Env → Heap → Prop} {e : Env} {h h' : Heap} (q : h = h') (hr : Run C n c Q e h') : Run C n c Q e h := by rw [q]; exact hr
theorem put1 {x y z l1 : Heap} : (y ++ (l1 ++ (x ++ z))).Perm (l1 ++ (x ++ (y ++ z))) := by classical exact List.perm_iff_count.2 fun _ => by simp only [List.count_append]; omega
theorem pmid0 {x l1 l2 : Heap} : (l1 ++ (x ++ l2)).Perm (x ++ (l1 ++ l2)) := by classical exact List.perm_iff_count.2 fun _ => by simp only [List.count_append]; omega
theorem perm2 {a b : Blk} {x y : Heap} : (x ++ a :: b :: y).Perm (a :: b :: (x ++ y)) := List.perm_middle.trans (.cons _ List.perm_middle)
theorem set_own {z : Nat} {cc : List (Cells z)} {k : Nat} {c : Cells z} (hk : k < cc.length) (h : cc[k].1 = c.1) : cc = cc.set k c := by
  have : c = cc[k] := Subtype.ext h.symm
  rw [this, List.set_getElem_self]
section
variable {C : Cx} {n : Nat} {Q : Exit → Env → Heap → Prop} {e : Env} {h : Heap} {d : Bool} {l os : List Oper} {o : Oper}
theorem loopQ_nextS {z : Nat} {I : Nat × Nat × List (Cells z) → Env} {H : Nat × Nat × List (Cells z) → Heap} {G : Nat × Nat × List (Cells z) → Prop} {μ : Nat × Nat × List (Cells z) → Nat} {s : Nat × Nat × List (Cells z)} {c : Cells z} (k' kv' : Nat) (cc : List (Cells z)) (k : Nat) (h1 : G (k', kv', cc.set k c)) (h2 : μ (k', kv', cc.set k c) < μ s) (h3 : h = H (k', kv', cc.set k c)) (h4 : EnvLe e (I (k', kv', cc.set k c))) : loopQ I H G μ s Q .normal e h := loopQ_next _ h1 h2 h3 h4
theorem j_storeS (i m j : Nat) {z : Nat} {L : List (Cells z)} {c : Cells z} {u : A} {T b p T' room sz : Nat} {k : TK} {x y : Operand} {v : A} (hw : wantE l e o = some true) (ho : o.op = .store T x y) (hd : o.dst = none) (hT : C.ty T = some ⟨sz, k⟩) (hx : evO e x = some (.op (some b) p))
    (hi : h[i]? = some ⟨some b, T', room, ((L.set m c).map Subtype.val).flatten⟩) (hy : evO e y = some v) (hc : cellsA v = some [u]) (hok : okCell u = true) (hs : sz = 1) (hp : p = m * z + j) (hm : m < L.length) (hjz : Nat.blt j z = true)
    (hj : J false C n l os Q e (h.set i ⟨some b, T', room, ((L.set m ⟨c.1.set j u, by rw [List.length_set]; exact c.2⟩).map Subtype.val).flatten⟩)) : J false C n l (o :: os) Q e h := by
  refine j_storeF i m j hw ho hd hT hx hi hy hc hok hs hp (by simpa using hm) (Nat.le_of_ble_eq_true hjz) ?_
  have : (⟨((L.set m c)[m]'(by simpa using hm)).1.set j u, by rw [List.length_set]; exact ((L.set m c)[m]'(by simpa using hm)).2⟩ : Cells z) = ⟨c.1.set j u, by rw [List.length_set]; exact c.2⟩ := Subtype.ext (by simp)
  rw [this, List.set_set]
  exact hj
theorem j_loadS (i m j : Nat) {z : Nat} {L : List (Cells z)} {c : Cells z} {T b p T' room dd : Nat} {x : Operand} {v : A} (hw : wantE l e o = some true) (ho : o.op = .load T x) (hx : evO e x = some (.op (some b) p)) (hi : h[i]? = some ⟨some b, T', room, ((L.set m c).map Subtype.val).flatten⟩)
    (hp : p = m * z + j) (hm : m < L.length) (hjz : Nat.ble j z = true) (hv : ∀ rest, loadA C.ty T (c.1.drop j ++ rest) = some v) (hd : o.dst = some dd) (hn : Nat.blt dd n = true) (hj : J d C n l os Q ((dd, v) :: e) h) : J d C n l (o :: os) Q e h :=
  j_loadF i m j hw ho hx hi hp (by simpa using hm) (Nat.le_of_ble_eq_true hjz) (fun rest => by simp only [List.getElem_set_self]; exact hv rest) hd hn hj
end
end Go.AI

/-
  Results in memory of the call's own, with room or without a block: what is told of them. No condition.
-/
namespace Go.AI
open Go.RowKit
/-- A list whose elements' cells and memory are told by E, in memory of the call's own, with room behind it. -/
def OwnC {α : Type} (E : α → List A → Heap → Prop) (T z : Nat) (xs : List α) (a : A) (h : Heap) : Prop :=
  ∃ (b : Option Nat) (cap : Nat) (css : List (Cells z)) (hs : List Heap), css.length = xs.length ∧ hs.length = xs.length ∧ (∀ i (hi : i < xs.length) (h1 : i < css.length) (h2 : i < hs.length), E xs[i] css[i].1 hs[i]) ∧
    a = .os b xs.length cap ∧ h = ⟨b, T, cap * z, (css.map Subtype.val).flatten⟩ :: hs.flatten
theorem OwnC.frz {α : Type} {E : α → List A → Heap → Prop} {enc : α → List A} {T z : Nat} {xs : List α} {a : A} {h : Heap} (hz : ∀ x, (enc x).length = z) (hz0 : Nat.blt 0 z = true) (hE : ∀ x cs h, E x cs h → FrzL h cs (enc x)) (o : OwnC E T z xs a h) : Frz h a (.sl (xs.map enc)) := by
  obtain ⟨b, cap, css, hs, l1, l2, hall, rfl, rfl⟩ := o
  intro F w v hm ho r
  cases b with
  | none =>
    obtain ⟨h1, h2, p, h3⟩ := r.osn_inv
    have : xs = [] := List.eq_nil_of_length_eq_zero h1
    subst this
    rw [h3]; exact .nil _ _
  | some b =>
  obtain ⟨e1, hlen⟩ := r.os_inv
  rw [e1]
  have hmem := hm (⟨some b, T, cap * z, (css.map Subtype.val).flatten⟩ : Blk) (List.mem_cons_self ..)
  obtain ⟨vs, rest, hb, hr, hrm⟩ := ho.at hmem
  have hlt := ho.lt (mem_keys hmem rfl)
  have hc2 : ∀ y : Cells z, (Subtype.val y).length = z := fun y => y.2
  have hvl : vs.length = xs.length * z := by rw [hr.1, flat_len hc2, l1]
  have hzp : 0 < z := Nat.le_of_ble_eq_true hz0
  have hcap : xs.length ≤ cap := by
    have : xs.length * z ≤ cap * z := by rw [hrm, ← hvl]; simp
    exact Nat.le_of_mul_le_mul_right this hzp
  have bound : ∀ i j, i < xs.length → j < z → i * z + j < xs.length * z := fun i j h1 h2 => by
    have : (i + 1) * z ≤ xs.length * z := Nat.mul_le_mul_right z h1
    rw [Nat.succ_mul] at this; omega
  have key : Rel (Im w []) w (.sl (xs.map enc)) (.slice (some ⟨b, 0, none⟩) (xs.map enc).length cap) := by
    refine .sl _ b 0 cap z (fun i j => vs.getD (i * z + j) undef) ⟨hlt, by simp [keys]⟩ (by simpa using hlen) (by simpa using hcap) (fun i hi => by simpa using hz _) (fun i j hi hj => ?_) (fun i j hi hj => ?_)
    · simp at hi
      have hv : i * z + j < vs.length := by rw [hvl]; exact bound i j hi hj
      rw [Nat.zero_add, cell_of_vs hb _ hv]; simp [hv]
    · simp only [List.length_map] at hi
      have hj' : j < z := by
        have := hz xs[i]
        simp only [List.getElem_map] at hj; omega
      have hi1 : i < css.length := by omega
      have hi2 : i < hs.length := by omega
      have seg : RelL (Im w F) w css[i].1 ((List.range z).map fun j => vs.getD (i * z + j) undef) := by
        refine ⟨by simp [css[i].2], fun q hq hq' => ?_⟩
        have hqz : q < z := by have := css[i].2; omega
        obtain ⟨u, hu1, hu2⟩ := hr.get (flat_get (f := Subtype.val) css i q hi1 hq hc2)
        have e3 : vs.getD (i * z + q) undef = u := by simp [hu1]
        simp only [List.getElem_map, List.getElem_range, e3]
        exact hu2
      have := (hE _ _ _ (hall i hi hi1 hi2)) F w _ (fun k hk => hm k (List.mem_cons_of_mem _ (List.mem_flatten.2 ⟨_, List.getElem_mem hi2, hk⟩))) ho seg
      have h3 := this.2 j (by rw [hz]; exact hj') (by simpa using hj')
      simpa using h3
  simpa using key
theorem OwnC.clo {α : Type} {E : α → List A → Heap → Prop} {T z : Nat} {xs : List α} {a : A} {h : Heap} (hE : ∀ x cs h, E x cs h → CloL cs ∧ CloH h) (o : OwnC E T z xs a h) : Clo a ∧ CloH h := by
  obtain ⟨b, cap, css, hs, l1, l2, hall, rfl, rfl⟩ := o
  refine ⟨Clo.os _ _ _, CloH.cons (CloL.flat fun cs hc => ?_) (CloH.flat fun x hx => ?_)⟩
  · obtain ⟨c, hc1, rfl⟩ := List.mem_map.1 hc
    obtain ⟨i, hi, rfl⟩ := List.mem_iff_getElem.1 hc1
    exact (hE _ _ _ (hall i (by omega) hi (by omega))).1
  · obtain ⟨i, hi, rfl⟩ := List.mem_iff_getElem.1 hx
    exact (hE _ _ _ (hall i (by omega) (by omega) hi)).2
theorem Clo.nil : Clo (.sl []) := fun S S' w w' v r => by
  cases r with
  | nil a c => exact .nil a c
  | sl xs b off cap sz V hS hlen hcap hsz hc hr => exact .nil _ _
/-- A flat list in memory of the call's own. -/
def OwnF {α : Type} (g : α → List A) (T z : Nat) (l : List α) (a : A) (h : Heap) : Prop := (∃ b cap, a = .os b l.length cap ∧ h = [⟨b, T, cap * z, (l.map g).flatten⟩]) ∨ (l = [] ∧ a = .sl [] ∧ h = [])
theorem OwnF.frz {α : Type} {g : α → List A} {T z : Nat} {l : List α} {a : A} {h : Heap} (hz : ∀ x, (g x).length = z) (hz0 : Nat.blt 0 z = true) (o : OwnF g T z l a h) : Frz h a (.sl (l.map g)) := by
  rcases o with ⟨b, cap, rfl, rfl⟩ | ⟨rfl, rfl, rfl⟩
  · exact Frz.flat rfl rfl hz rfl hz0
  · exact Frz.same _ _
theorem OwnF.clo {α : Type} {g : α → List A} {T z : Nat} {l : List α} {a : A} {h : Heap} (hc : ∀ x, CloL (g x)) (o : OwnF g T z l a h) : Clo a ∧ CloH h := by
  rcases o with ⟨b, cap, rfl, rfl⟩ | ⟨rfl, rfl, rfl⟩
  · refine ⟨Clo.os _ _ _, CloH.cons (CloL.flat fun cs hcs => ?_) CloH.nil⟩
    obtain ⟨x, _, rfl⟩ := List.mem_map.1 hcs
    exact hc x
  · exact ⟨Clo.nil, CloH.nil⟩
/-- A list of lists of the call's own. -/
def OwnLL {β : Type} (O : β → A → Heap → Prop) (T : Nat) (L : List β) (a : A) (h : Heap) : Prop :=
  (∃ (b : Option Nat) (cap : Nat) (vs : List A) (hs : List Heap), vs.length = L.length ∧ hs.length = L.length ∧ (∀ i (h0 : i < L.length) (h1 : i < vs.length) (h2 : i < hs.length), O L[i] vs[i] hs[i]) ∧
    a = .os b L.length cap ∧ h = ⟨b, T, cap * 1, (vs.map fun a => [a]).flatten⟩ :: hs.flatten) ∨ (L = [] ∧ a = .sl [] ∧ h = [])
theorem ownLL_c {β : Type} {O : β → A → Heap → Prop} {T : Nat} {L : List β} {a : A} {h : Heap} (o : ∃ (b : Option Nat) (cap : Nat) (vs : List A) (hs : List Heap), vs.length = L.length ∧ hs.length = L.length ∧ (∀ i (h0 : i < L.length) (h1 : i < vs.length) (h2 : i < hs.length), O L[i] vs[i] hs[i]) ∧
    a = .os b L.length cap ∧ h = ⟨b, T, cap * 1, (vs.map fun a => [a]).flatten⟩ :: hs.flatten) : OwnC (fun x cs h => ∃ a, cs = [a] ∧ O x a h) T 1 L a h := by
  obtain ⟨b, cap, vs, hs, l1, l2, hall, rfl, rfl⟩ := o
  refine ⟨b, cap, vs.map fun a => ⟨[a], rfl⟩, hs, by simpa using l1, l2, fun i hi h1 h2 => ⟨vs[i]'(by omega), by simp, hall i hi (by omega) h2⟩, rfl, ?_⟩
  congr 2
  rw [List.map_map]
  rfl
theorem OwnLL.frz {β : Type} {O : β → A → Heap → Prop} {enc : β → List (List A)} {T : Nat} {L : List β} {a : A} {h : Heap} (hO : ∀ x a h, O x a h → Frz h a (.sl (enc x))) (o : OwnLL O T L a h) {e : β → List A} (he : ∀ x, e x = [.sl (enc x)]) : Frz h a (.sl (L.map e)) := by
  rcases o with o | ⟨rfl, rfl, rfl⟩
  · exact (ownLL_c o).frz (fun x => by rw [he]; rfl) rfl (fun x cs h ⟨a, e1, q⟩ => by rw [he, e1]; exact FrzL.cons (hO x a h q) (FrzL.nil _))
  · exact Frz.same _ _
theorem OwnLL.clo {β : Type} {O : β → A → Heap → Prop} {T : Nat} {L : List β} {a : A} {h : Heap} (hO : ∀ x a h, O x a h → Clo a ∧ CloH h) (o : OwnLL O T L a h) : Clo a ∧ CloH h := by
  rcases o with o | ⟨rfl, rfl, rfl⟩
  · exact (ownLL_c o).clo (fun x cs h ⟨a, e1, q⟩ => by rw [e1]; exact ⟨CloL.cons (hO x a h q).1 CloL.nil, (hO x a h q).2⟩)
  · exact ⟨Clo.nil, CloH.nil⟩
/-- What stands in lists that were marked one behind the other. -/
def markedI (k n : Nat) : List Int := (List.range n).map fun i => ((k + i : Nat) : Int)
def markedII : Nat → List (List Int) → List (List Int)
  | _, [] => []
  | k, x :: L => markedI k x.length :: markedII (k + x.length) L
theorem markedI_len {k n : Nat} : (markedI k n).length = n := by simp [markedI]
theorem markedI_get {k n i : Nat} (h : i < (markedI k n).length) : (markedI k n)[i] = ((k + i : Nat) : Int) := by simp [markedI]
theorem markedII_len : ∀ (L : List (List Int)) (k : Nat), (markedII k L).length = L.length
  | [], _ => rfl
  | x :: L, k => by simp [markedII, markedII_len L]
theorem markedII_get : ∀ (L : List (List Int)) (k i : Nat) (h : i < L.length), (markedII k L)[i]'(by rw [markedII_len]; exact h) = markedI (k + mcnt List.length (L.take i)) L[i].length
  | [], _, i, h => absurd h (Nat.not_lt_zero _)
  | x :: L, k, 0, h => by simp [markedII, mcnt]
  | x :: L, k, i + 1, h => by
    have := markedII_get L (k + x.length) i (by simpa using h)
    simp only [markedII, List.getElem_cons_succ, this, List.take_succ_cons, mcnt, List.map_cons, List.sum_cons]
    rw [Nat.add_assoc]
theorem pmid2 {x l1 l2 y : Heap} : (l1 ++ (l2 ++ (x ++ y))).Perm (x ++ (l1 ++ (l2 ++ y))) := by classical exact List.perm_iff_count.2 fun _ => by simp only [List.count_append]; omega
end Go.AI

/-
  Results in memory of the call's own, read as data that nobody writes any more. No condition.
-/
namespace Go.AI
open Go.RowKit
def FrzLF (h1 : Heap) (cs cs' : List A) : Prop := ∀ (F : Heap) (w : World) (vs : List Value), HeapOk (h1 ++ F) w → RelL (Im w (h1 ++ F)) w cs vs → RelL (Im w F) w cs' vs
theorem RelL.heapS {w : World} {h h0 : Heap} {cs : List A} {vs : List Value} (r : RelL (Im w h) w cs vs) (hs : h0.Sublist h) : RelL (Im w h0) w cs vs := ⟨r.1, fun j hj hj' => (r.2 j hj hj').heap hs⟩
theorem RelL.permS {w : World} {h h0 : Heap} {cs : List A} {vs : List Value} (r : RelL (Im w h) w cs vs) (hp : h.Perm h0) : RelL (Im w h0) w cs vs := r.stab fun _ hb => ⟨im_perm hp hb, rfl⟩
theorem FrzLF.nil {h : Heap} : FrzLF h [] [] := fun _ _ _ _ r => ⟨r.1, fun j hj => absurd hj (Nat.not_lt_zero _)⟩
theorem FrzF.same (h : Heap) (a : A) : FrzF h a a := fun F _ _ _ r => r.heap (List.sublist_append_right h F)
theorem FrzLF.cons {h1 h2 : Heap} {a a' : A} {cs cs' : List A} (H : FrzF h1 a a') (T : FrzLF h2 cs cs') : FrzLF (h1 ++ h2) (a :: cs) (a' :: cs') := fun F w vs ho r => by
  obtain ⟨v, us, rfl, r1, r2⟩ := r.uncons
  have p1 : (h1 ++ h2 ++ F).Perm (h1 ++ (h2 ++ F)) := by rw [List.append_assoc]
  have p2 : (h1 ++ h2 ++ F).Perm (h2 ++ (h1 ++ F)) := by classical exact List.perm_iff_count.2 fun _ => by simp only [List.count_append]; omega
  have q1 := H (h2 ++ F) w v (ho.perm p1) (by rw [← List.append_assoc]; exact r1)
  have q2 := T (h1 ++ F) w us (ho.perm p2) (r2.permS p2)
  exact RelL.cons (q1.heap (List.sublist_append_right _ _)) (q2.heapS (List.sublist_append_right _ _))
theorem FrzF.agg {h : Heap} {cs cs' : List A} (H : FrzLF h cs cs') : FrzF h (.agg cs) (.agg cs') := fun F w v ho r => by
  obtain ⟨vs, rfl, rl⟩ := r.agg_inv
  have q := H F w vs ho rl
  exact .agg _ _ q.1 q.2
theorem OwnC.frzF {α : Type} {E : α → List A → Heap → Prop} {enc : α → List A} {T z : Nat} {xs : List α} {a : A} {h : Heap} (hz : ∀ x, (enc x).length = z) (hz0 : Nat.blt 0 z = true) (hE : ∀ x cs h, E x cs h → FrzLF h cs (enc x)) (o : OwnC E T z xs a h) : FrzF h a (.sl (xs.map enc)) := by
  obtain ⟨b, cap, css, hs, l1, l2, hall, rfl, rfl⟩ := o
  intro F w v ho r
  cases b with
  | none =>
    obtain ⟨h1, h2, p, h3⟩ := r.osn_inv
    have : xs = [] := List.eq_nil_of_length_eq_zero h1
    subst this
    rw [h3]; exact .nil _ _
  | some b =>
  obtain ⟨e1, hlen⟩ := r.os_inv
  rw [e1]
  have hmem : (⟨some b, T, cap * z, (css.map Subtype.val).flatten⟩ : Blk) ∈ (⟨some b, T, cap * z, (css.map Subtype.val).flatten⟩ : Blk) :: hs.flatten ++ F := by simp
  obtain ⟨vs, rest, hb, hr, hrm⟩ := ho.at hmem
  have hlt := ho.lt (mem_keys hmem rfl)
  have hnm : b ∉ keys F := by
    have := ho.nodup
    have e2 : keys ((⟨some b, T, cap * z, (css.map Subtype.val).flatten⟩ : Blk) :: hs.flatten ++ F) = b :: (keys hs.flatten ++ keys F) := by simp [keys]
    rw [e2] at this
    exact fun q => (List.nodup_cons.1 this).1 (List.mem_append_right _ q)
  have hc2 : ∀ y : Cells z, (Subtype.val y).length = z := fun y => y.2
  have hvl : vs.length = xs.length * z := by rw [hr.1, flat_len hc2, l1]
  have hzp : 0 < z := Nat.le_of_ble_eq_true hz0
  have hcap : xs.length ≤ cap := by
    have : xs.length * z ≤ cap * z := by rw [hrm, ← hvl]; simp
    exact Nat.le_of_mul_le_mul_right this hzp
  have bound : ∀ i j, i < xs.length → j < z → i * z + j < xs.length * z := fun i j h1 h2 => by
    have : (i + 1) * z ≤ xs.length * z := Nat.mul_le_mul_right z h1
    rw [Nat.succ_mul] at this; omega
  have key : Rel (Im w F) w (.sl (xs.map enc)) (.slice (some ⟨b, 0, none⟩) (xs.map enc).length cap) := by
    refine .sl _ b 0 cap z (fun i j => vs.getD (i * z + j) undef) ⟨hlt, hnm⟩ (by simpa using hlen) (by simpa using hcap) (fun i hi => by simpa using hz _) (fun i j hi hj => ?_) (fun i j hi hj => ?_)
    · simp at hi
      have hv : i * z + j < vs.length := by rw [hvl]; exact bound i j hi hj
      rw [Nat.zero_add, cell_of_vs hb _ hv]; simp [hv]
    · simp only [List.length_map] at hi
      have hj' : j < z := by
        have := hz xs[i]
        simp only [List.getElem_map] at hj; omega
      have hi1 : i < css.length := by omega
      have hi2 : i < hs.length := by omega
      have seg : RelL (Im w ((⟨some b, T, cap * z, (css.map Subtype.val).flatten⟩ : Blk) :: hs.flatten ++ F)) w css[i].1 ((List.range z).map fun j => vs.getD (i * z + j) undef) := by
        refine ⟨by simp [css[i].2], fun q hq hq' => ?_⟩
        have hqz : q < z := by have := css[i].2; omega
        obtain ⟨u, hu1, hu2⟩ := hr.get (flat_get (f := Subtype.val) css i q hi1 hq hc2)
        have e3 : vs.getD (i * z + q) undef = u := by simp [hu1]
        simp only [List.getElem_map, List.getElem_range, e3]
        exact hu2
      have pf : hs.flatten.Perm (hs[i] ++ (hs.eraseIdx i).flatten) := by
        have := (perm_at (List.getElem?_eq_getElem hi2)).flatten
        simpa using this
      have pp : ((⟨some b, T, cap * z, (css.map Subtype.val).flatten⟩ : Blk) :: hs.flatten ++ F).Perm (hs[i] ++ ((⟨some b, T, cap * z, (css.map Subtype.val).flatten⟩ : Blk) :: ((hs.eraseIdx i).flatten ++ F))) := by
        classical
        refine List.perm_iff_count.2 fun x => ?_
        have q := List.perm_iff_count.1 pf x
        simp only [List.count_append, List.count_cons, List.cons_append] at q ⊢
        omega
      have := (hE _ _ _ (hall i hi hi1 hi2)) ((⟨some b, T, cap * z, (css.map Subtype.val).flatten⟩ : Blk) :: ((hs.eraseIdx i).flatten ++ F)) w _ (ho.perm pp) (seg.permS pp)
      have h3 := (this.heapS (h0 := F) (List.Sublist.cons _ (List.sublist_append_right _ _))).2 j (by rw [hz]; exact hj') (by simpa using hj')
      simpa using h3
  simpa using key
theorem OwnF.frzF {α : Type} {g : α → List A} {T z : Nat} {l : List α} {a : A} {h : Heap} (hz : ∀ y, (g y).length = z) (hz0 : Nat.blt 0 z = true) (o : OwnF g T z l a h) : FrzF h a (.sl (l.map g)) := by
  rcases o with ⟨b, cap, rfl, rfl⟩ | ⟨rfl, rfl, rfl⟩
  · exact FrzF.flat rfl rfl hz rfl hz0
  · exact FrzF.same _ _
theorem OwnLL.frzF {β : Type} {O : β → A → Heap → Prop} {enc : β → List (List A)} {T : Nat} {L : List β} {a : A} {h : Heap} (hO : ∀ x a h, O x a h → FrzF h a (.sl (enc x))) (o : OwnLL O T L a h) {e : β → List A} (he : ∀ x, e x = [.sl (enc x)]) : FrzF h a (.sl (L.map e)) := by
  rcases o with o | ⟨rfl, rfl, rfl⟩
  · exact (ownLL_c o).frzF (fun x => by rw [he]; rfl) rfl (fun x cs h ⟨a, e1, q⟩ => by
      rw [he, e1]
      have := FrzLF.cons (hO x a h q) (FrzLF.nil (h := []))
      rw [List.append_nil] at this; exact this)
  · exact FrzF.same _ _
end Go.AI

/-
  Calls in statements of open order: with memory of the call's own that is read alone; that write. No condition.
-/
namespace Go.AI
open Go.RowKit
section
variable {C : Cx} {n : Nat} {Q : Exit → Env → Heap → Prop} {e : Env} {h : Heap} {l os : List Oper} {o : Oper} {f : Fl} {fs : List Fl} {B : List (Nat × Blk)}
theorem jctO (hT : Heap) {g : FuncId} {xs all : List A} {R : A → Heap → Prop} {dd : Nat} (hf : Does C.P g all [] R) (hm : f.w = true) (hB : ∀ k ∈ B, k.2 ∈ h) (hp : ∀ k ∈ hT, k ∈ h) (hz : FrzL hT xs all) (hR : ∀ v h1, R v h1 → Clo v ∧ CloH h1) (hd : o.dst = some dd) (hn : Nat.blt dd n = true)
    (hj : ∀ v h1, R v h1 → JO fs B C n l os Q ((dd, v) :: e) (h1 ++ h)) : JCO g xs f fs B C n l o os Q e h := by
  unfold JCO CallAt
  rintro ⟨x, args, ts, caps, as0, hw, ho, hx, ha, rfl⟩
  exact j_mutO hm hw (call_thaw ho hx ha hf hp hz hR) (fun v h' ⟨h1, q1, q2⟩ => by rw [q2]; exact fun k hk => List.mem_append_right _ (hB k hk)) (by rw [hd]; exact hn) fun v h' ⟨h1, q1, q2⟩ => by rw [hd, q2]; exact hj v h1 q1
theorem jcpO (F : Heap) {g : FuncId} {xs all : List A} {R : A → Heap → Prop} {h0 : Heap} {dd : Nat} (hf : Does C.P g all h0 R) (hm : f.w = true) (hp : h.Perm (h0 ++ F)) (hle : LeL xs all) (hd : o.dst = some dd) (hn : Nat.blt dd n = true)
    (hj : ∀ v h1, R v h1 → JO fs [] C n l os Q ((dd, v) :: e) (h1 ++ F)) : JCO g xs f fs [] C n l o os Q e h := by
  unfold JCO CallAt
  rintro ⟨x, args, ts, caps, as0, hw, ho, hx, ha, rfl⟩
  exact j_mutO hm hw ((call_step ho hx ha hf hle).perm hp) (fun _ _ _ k hk => nomatch hk) (by rw [hd]; exact hn) fun v h' ⟨h1, q1, q2⟩ => by rw [hd, q2]; exact hj v h1 q1
end
end Go.AI

/-
  A cell of a variable of the call's own: the memory that it tells of is written no more. No condition.
-/
namespace Go.AI
open Go.RowKit
section
variable {e : Env} {h : Heap}
end
section
variable {C : Cx} {n : Nat} {Q : Exit → Env → Heap → Prop} {e : Env} {h : Heap}

/-- A slice of the call's own that holds something has a block. -/
theorem j_some {l os : List Oper} (i : Nat) {b : Option Nat} {T room : Nat} {cs : List A} (hi : h[i]? = some ⟨b, T, room, cs⟩) (hne : cs ≠ []) (hr : ∀ b', b = some b' → J false C n l os Q e h) : J false C n l os Q e h := by
  unfold J at *
  intro a w hc
  cases b with
  | some b' => exact hr b' rfl a w hc
  | none =>
    have := hc.heap.blk _ (List.mem_of_getElem? hi)
    exact absurd this.1 hne
end
theorem Frz.ptr {hT : Heap} {b T room : Nat} {cs cs' : List A} (hm0 : (⟨some b, T, room, cs⟩ : Blk) ∈ hT) (hl : FrzL hT cs cs') : Frz hT (.op (some b) 0) (.ip cs') := fun F w v hm ho r => by
  have e := r.op_inv
  simp only [Option.map_some] at e
  rw [e]
  obtain ⟨vs, rest, hb, hr, hrm⟩ := ho.at (hm _ hm0)
  have hlt := ho.lt (mem_keys (hm _ hm0) rfl)
  have q := hl F w vs hm ho hr
  refine .ip cs' b 0 (fun j => vs.getD j undef) ⟨hlt, by simp [keys]⟩ (fun j hj => ?_) (fun j hj => ?_)
  · have hv : j < vs.length := by rw [q.1]; exact hj
    rw [Nat.zero_add, cell_of_vs hb _ hv]; simp [hv]
  · have hv : j < vs.length := by rw [q.1]; exact hj
    have := q.2 j hj hv
    simpa [hv] using this
end Go.AI

/-
  A statement of open order whose writing operations come in any order: the walk over all that is done. No condition.
-/
namespace Go.AI
open Go.RowKit

section
variable {C : Cx} {n : Nat} {l : List Oper} {Q : Exit → Env → Heap → Prop} {e e' : Env} {h h' : Heap} {o : Oper}
/-- 'box': a new variable with a content, of the call's own. -/
theorem boxM_step {T : Nat} {x : Operand} {v : A} {cs : List A} (ho : o.op = .box T x) (hx : evO e x = some v) (hc : cellsA v = some cs) : MStep C.P o e h fun u h' => ∃ b, u = .op (some b) 0 ∧ h' = ⟨some b, T, cs.length, cs⟩ :: h := by
  intro a w hs
  have hops := hs.ops
  rw [ho] at hops
  have r := hops x (by simp [Op.operands]) _ hx
  obtain ⟨vs, e1, rl⟩ := cellsA_rel hc r
  have hrun : (execOp a.eval o).run C.P w = .ok (.value (.pointer (some ⟨w.heap.size, 0, none⟩))) (w.alloc (.cells vs.toArray T)) := by
    simp [execOp, ho, Instr.box, newVar, newRow, e1]
  unfold Yields
  rw [hrun]
  exact ⟨_, _, ⟨w.heap.size, rfl, rfl⟩, chg_new hs.heap (vs := vs) (rest := []) (Ext.alloc w _) (by rw [heap_new]; simp) rl (by rw [List.append_nil]; exact rl.1.symm), .op (some w.heap.size) 0⟩
theorem j_boxM {os : List Oper} {T dd : Nat} {x : Operand} {v : A} {cs : List A} (hw : wantE l e o = some true) (ho : o.op = .box T x) (hx : evO e x = some v) (hc : cellsA v = some cs) (hd : o.dst = some dd) (hn : Nat.blt dd n = true)
    (hj : ∀ b, J false C n l os Q ((dd, .op (some b) 0) :: e) (⟨some b, T, cs.length, cs⟩ :: h)) : J false C n l (o :: os) Q e h :=
  j_mut hw (boxM_step ho hx hc) (by rw [hd]; exact hn) fun v h' ⟨b, h1, h2⟩ => by rw [hd, h1, h2]; exact hj b
end
end Go.AI

/-
  One more rule of the walk: is a list without elements nil? Either answer. No condition.
-/
namespace Go.AI
open Go.RowKit

section
variable {C : Cx} {n : Nat} {Q : Exit → Env → Heap → Prop} {e : Env} {h : Heap} {l os : List Oper} {o : Oper}
theorem slnilE_step {t t2 sz E z : Nat} {x : Operand} (ho : o.op = .binOp .eql t x (.const (.slice none 0 0)) t2) (hT : C.ty t = some ⟨sz, .slice E z⟩) (hx : evO e x = some (.sl [])) : MStep C.P o e h fun v h' => ∃ b, v = .raw (.bool b) ∧ h' = h := by
  intro a w hst
  have hops := hst.ops
  rw [ho] at hops
  have h1 := C.ok _ _ hT
  simp only [TIok, Bool.and_eq_true] at h1
  have hu := (und_slice h1.2).1
  have rx := hops x (by simp [Op.operands]) _ hx
  have e1 : Op.maxDepth = 9999 + 1 := rfl
  obtain ⟨p, cap, hv⟩ : ∃ p cap, a.eval x = .slice p 0 cap := by
    generalize a.eval x = v at rx
    cases rx with
    | nil p cap => exact ⟨p, cap, rfl⟩
    | sl _ b off cap => exact ⟨_, cap, rfl⟩
  have hy : a.eval (.const (.slice none 0 0)) = .slice none 0 0 := rfl
  have key : ∃ q, (execOp a.eval o).run C.P w = .ok (.value (.bool q)) w := by
    cases p with
    | none =>
      refine ⟨true, ?_⟩
      have heq : (Op.equal t (a.eval x) (.slice none 0 0)).run C.P w = .ok true w := by
        unfold Op.equal
        rw [e1, hv]
        unfold Op.equalIn
        simp [underlying, hu]
      have hg : (eqGuard .eql t x (.const (.slice none 0 0)) (a.eval x) (.slice none 0 0)).run C.P w = .ok () w := by
        rw [hv]; simp [eqGuard]
      rw [hv] at heq hg
      simp [execOp, ho, hy, hv, hg, binOp, heq]
    | some p =>
      refine ⟨false, ?_⟩
      have heq : (Op.equal t (a.eval x) (.slice none 0 0)).run C.P w = .ok false w := by
        unfold Op.equal
        rw [e1, hv]
        unfold Op.equalIn
        simp [underlying, hu]
      have hg : (eqGuard .eql t x (.const (.slice none 0 0)) (a.eval x) (.slice none 0 0)).run C.P w = .ok () w := by
        rw [hv]; simp [eqGuard]
      rw [hv] at heq hg
      simp [execOp, ho, hy, hv, hg, binOp, heq]
  obtain ⟨q, hq⟩ := key
  unfold Yields
  rw [hq]
  exact ⟨_, _, ⟨q, rfl, rfl⟩, Chg.refl hst.heap, .raw _⟩
theorem j_slnilE {t t2 sz E z dd : Nat} {x : Operand} (hw : wantE l e o = some true) (ho : o.op = .binOp .eql t x (.const (.slice none 0 0)) t2) (hT : C.ty t = some ⟨sz, .slice E z⟩) (hx : evO e x = some (.sl [])) (hd : o.dst = some dd) (hn : Nat.blt dd n = true)
    (hj : ∀ b, J false C n l os Q ((dd, .raw (.bool b)) :: e) h) : J false C n l (o :: os) Q e h :=
  j_mut hw (slnilE_step ho hT hx) (by rw [hd]; exact hn) fun v h' ⟨b, h1, h2⟩ => by rw [hd, h1, h2]; exact hj b
end
end Go.AI
