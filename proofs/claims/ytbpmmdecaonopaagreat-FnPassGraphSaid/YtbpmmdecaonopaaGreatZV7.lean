/-
  Contracts of slices.Sort and slices.Compact at this translation, laid by the kit's tool in plain words. No condition.
-/
import Derived.Shelf.SlicesG.CompactI
import Derived.Shelf.SortM.Plain
import Derived.Shelf.SortM.SortNone
import Derived.Test.YtbpmmdecaonopaaGreatProg
import Derived.Test.YtbpmmdecaonopaaGreatZV2
import Derived.Test.YtbpmmdecaonopaaGreatZS5f
import Derived.Sort.OwnSortedInts
import Derived.Lib.SlicesCompact
import Derived.Test.YtbpmmdecaonopaaGreatZS3f
import Derived.Test.YtbpmmdecaonopaaGreatZQ3
import Derived.Test.YtbpmmdecaonopaaGreatZJN
namespace Go.Proofs
open Go.Shelf
def Tryz.compI_ren : Go.Shelf.Ren := ⟨fun | 43 => 56 | n => n, fun | 22 => 24 | 23 => 2 | 3 => 3 | 4 => 4 | 0 => 0 | n => n, fun | n => n⟩
theorem Tryz.compI : Go.Proofs.SlLaysN.n43 Tryz.prog Tryz.compI_ren := {
  mixed := by kernel_rfl
  f43 := ⟨Tryz.f56.name, by decide, Tryz.func56.trans (congrArg some (by kernel_rfl))⟩
  t0 := Tryz.underlying0
  a0 := Tryz.isAgg0
  z0 := Tryz.sizeOf0
  v0 := Tryz.zeroValue0
  t3 := Tryz.underlying3
  a3 := Tryz.isAgg3
  z3 := Tryz.sizeOf3
  v3 := Tryz.zeroValue3
  t4 := Tryz.underlying4
  a4 := Tryz.isAgg4
  z4 := Tryz.sizeOf4
  v4 := Tryz.zeroValue4
  t22 := Tryz.underlying24
  a22 := Tryz.isAgg24
  z22 := Tryz.sizeOf24
  v22 := Tryz.zeroValue24
  t23 := Tryz.underlying2
  a23 := Tryz.isAgg2
  z23 := Tryz.sizeOf2
  v23 := Tryz.zeroValue2
  i23 := by kernel_rfl }
def Tryz.sortI_ren : Go.Shelf.Ren := ⟨fun | 5 => 55 | 8 => 79 | 7 => 78 | 19 => 105 | 20 => 106 | 10 => 96 | 11 => 97 | 12 => 98 | 13 => 99 | 14 => 100 | 15 => 101 | 16 => 102 | 17 => 103 | 18 => 104 | 30 => 111 | 31 => 112 | 32 => 113 | 33 => 114 | 34 => 115 | 35 => 116 | 40 => 119 | n => n, fun | 23 => 24 | 25 => 2 | 3 => 3 | 32 => 101 | 22 => 24 | 0 => 0 | 44 => 135 | 46 => 75 | 4 => 4 | 36 => 127 | 35 => 126 | 41 => 132 | 5 => 5 | 9 => 9 | 53 => 141 | 57 => 145 | 63 => 149 | 64 => 150 | n => n, fun | n => n⟩
theorem Tryz.sortI : Go.Proofs.SlLaysM.n5 Tryz.prog Tryz.sortI_ren := {
  mixed := by kernel_rfl
  f5 := ⟨Tryz.f55.name, by decide, Tryz.func55.trans (congrArg some (by kernel_rfl))⟩
  f7 := ⟨Tryz.f78.name, by decide, Tryz.func78.trans (congrArg some (by kernel_rfl))⟩
  f8 := Tryz.func79.trans (congrArg some (by kernel_rfl))
  f10 := ⟨Tryz.f96.name, by decide, Tryz.func96.trans (congrArg some (by kernel_rfl))⟩
  f11 := ⟨Tryz.f97.name, by decide, Tryz.func97.trans (congrArg some (by kernel_rfl))⟩
  f12 := ⟨Tryz.f98.name, by decide, Tryz.func98.trans (congrArg some (by kernel_rfl))⟩
  f13 := ⟨Tryz.f99.name, by decide, Tryz.func99.trans (congrArg some (by kernel_rfl))⟩
  f14 := ⟨Tryz.f100.name, by decide, Tryz.func100.trans (congrArg some (by kernel_rfl))⟩
  f15 := ⟨Tryz.f101.name, by decide, Tryz.func101.trans (congrArg some (by kernel_rfl))⟩
  f16 := ⟨Tryz.f102.name, by decide, Tryz.func102.trans (congrArg some (by kernel_rfl))⟩
  f17 := ⟨Tryz.f103.name, by decide, Tryz.func103.trans (congrArg some (by kernel_rfl))⟩
  f18 := ⟨Tryz.f104.name, by decide, Tryz.func104.trans (congrArg some (by kernel_rfl))⟩
  f19 := Tryz.func105.trans (congrArg some (by kernel_rfl))
  f20 := Tryz.func106.trans (congrArg some (by kernel_rfl))
  f30 := ⟨Tryz.f111.name, by decide, Tryz.func111.trans (congrArg some (by kernel_rfl))⟩
  f31 := Tryz.func112.trans (congrArg some (by kernel_rfl))
  f32 := Tryz.func113.trans (congrArg some (by kernel_rfl))
  f33 := ⟨Tryz.f114.name, by decide, Tryz.func114.trans (congrArg some (by kernel_rfl))⟩
  f34 := ⟨Tryz.f115.name, by decide, Tryz.func115.trans (congrArg some (by kernel_rfl))⟩
  f35 := ⟨Tryz.f116.name, by decide, Tryz.func116.trans (congrArg some (by kernel_rfl))⟩
  f40 := ⟨Tryz.f119.name, by decide, Tryz.func119.trans (congrArg some (by kernel_rfl))⟩
  t0 := Tryz.underlying0
  a0 := Tryz.isAgg0
  z0 := Tryz.sizeOf0
  v0 := Tryz.zeroValue0
  t3 := Tryz.underlying3
  a3 := Tryz.isAgg3
  z3 := Tryz.sizeOf3
  v3 := Tryz.zeroValue3
  t4 := Tryz.underlying4
  a4 := Tryz.isAgg4
  z4 := Tryz.sizeOf4
  v4 := Tryz.zeroValue4
  t5 := Tryz.underlying5
  a5 := Tryz.isAgg5
  z5 := Tryz.sizeOf5
  v5 := Tryz.zeroValue5
  t9 := Tryz.underlying9
  a9 := Tryz.isAgg9
  z9 := Tryz.sizeOf9
  v9 := Tryz.zeroValue9
  t22 := Tryz.underlying24
  a22 := Tryz.isAgg24
  z22 := Tryz.sizeOf24
  v22 := Tryz.zeroValue24
  t23 := Tryz.underlying24
  a23 := Tryz.isAgg24
  z23 := Tryz.sizeOf24
  v23 := Tryz.zeroValue24
  t25 := Tryz.underlying2
  a25 := Tryz.isAgg2
  z25 := Tryz.sizeOf2
  v25 := Tryz.zeroValue2
  t32 := Tryz.underlying101
  a32 := Tryz.isAgg101
  z32 := Tryz.sizeOf101
  v32 := Tryz.zeroValue101
  t35 := Tryz.underlying126
  a35 := Tryz.isAgg126
  z35 := Tryz.sizeOf126
  v35 := Tryz.zeroValue126
  t36 := Tryz.underlying127
  a36 := Tryz.isAgg127
  z36 := Tryz.sizeOf127
  v36 := Tryz.zeroValue127
  t41 := Tryz.underlying132
  a41 := Tryz.isAgg132
  z41 := Tryz.sizeOf132
  v41 := Tryz.zeroValue132
  t44 := Tryz.underlying135
  a44 := Tryz.isAgg135
  z44 := Tryz.sizeOf135
  v44 := Tryz.zeroValue135
  t46 := Tryz.underlying75
  a46 := Tryz.isAgg75
  z46 := Tryz.sizeOf75
  v46 := Tryz.zeroValue75
  t53 := Tryz.underlying141
  a53 := Tryz.isAgg141
  z53 := Tryz.sizeOf141
  v53 := Tryz.zeroValue141
  t57 := Tryz.underlying145
  a57 := Tryz.isAgg145
  z57 := Tryz.sizeOf145
  v57 := Tryz.zeroValue145
  t63 := Tryz.underlying149
  a63 := Tryz.isAgg149
  z63 := Tryz.sizeOf149
  v63 := Tryz.zeroValue149
  t64 := Tryz.underlying150
  a64 := Tryz.isAgg150
  z64 := Tryz.sizeOf150
  v64 := Tryz.zeroValue150 }
end Go.Proofs

/-
  Rising numbers, each once: slices.Sort, slices.Compact and the program's sorted, as calls over data. No condition.
-/
namespace Go.Proofs.YtbpmmdecaonopaaGreat
open Go.AI Go.RowKit
set_option maxRecDepth 8000
set_option maxHeartbeats 1600000

theorem flat_encI : ∀ l : List Int, (l.map Go.AI.encI).flatten = l.map A.int
  | [] => rfl
  | x :: l => by rw [List.map_cons, List.flatten_cons, flat_encI l]; rfl
theorem relL_ints {S : Nat → Prop} {w : World} {l : List Int} (h : ∀ x ∈ l, InR x) : RelL S w ((l.map Go.AI.encI).flatten) (l.map (Value.int .i64)) := by
  rw [flat_encI]
  refine ⟨by simp, fun j hj hj' => ?_⟩
  simp only [List.getElem_map]
  exact .int _ (h _ (List.getElem_mem _))
theorem relL_ints_inv {S : Nat → Prop} {w : World} : ∀ {l : List Int} {vs : List Value}, RelL S w ((l.map Go.AI.encI).flatten) vs → vs = l.map (Value.int .i64) ∧ ∀ x ∈ l, InR x
  | [], vs, r => ⟨List.eq_nil_of_length_eq_zero r.1, fun _ h => by simp at h⟩
  | x :: l, vs, r => by
    obtain ⟨v, us, rfl, h1, h2⟩ := r.uncons
    obtain ⟨rfl, hx⟩ := h1.int_inv
    obtain ⟨rfl, ht⟩ := relL_ints_inv (l := l) h2
    exact ⟨rfl, fun y hy => by
      rcases List.mem_cons.1 hy with rfl | hy
      · exact hx
      · exact ht y hy⟩
/-- A block is written. -/
theorem chg_write {F : Heap} {w w' : World} {b T room : Nat} {cs cs' : List A} {vs rest : List Value} (H : HeapOk (⟨some b, T, room, cs⟩ :: F) w) (hg : w.grownBy w' (some b)) (hw : w'.heap[b]? = some (.cells (vs ++ rest).toArray T (0, 0))) (hr : RelL (Im w (⟨some b, T, room, cs⟩ :: F)) w cs' vs) (hroom : room = (vs ++ rest).length) :
    Chg (⟨some b, T, room, cs⟩ :: F) (⟨some b, T, room, cs'⟩ :: F) w w' := by
  obtain ⟨g1, g2, g3, g4, g5⟩ := hg
  have hk : keys (⟨some b, T, room, cs⟩ :: F) = b :: keys F := by simp [keys]
  have hk' : keys (⟨some b, T, room, cs'⟩ :: F) = b :: keys F := by simp [keys]
  have im : ∀ k, Im w (⟨some b, T, room, cs⟩ :: F) k → Im w' (⟨some b, T, room, cs'⟩ :: F) k ∧ w'.heap[k]? = w.heap[k]? := fun k hb =>
    ⟨⟨Nat.lt_of_lt_of_le hb.1 g4, by rw [hk', ← hk]; exact hb.2⟩, g5 k hb.1 (fun e => hb.2 (by rw [hk]; cases e; exact List.mem_cons_self))⟩
  have nd := H.nodup
  rw [hk, List.nodup_cons] at nd
  refine ⟨g1, g2, g3, g4, fun k h1 h2 => g5 k h1 (fun e => h2 (by rw [hk]; cases e; exact List.mem_cons_self)), fun k h1 => .inl (by rw [hk]; rw [hk'] at h1; exact h1), ⟨by rw [hk', List.nodup_cons]; exact nd, fun k h1 => ?_, H.tab.stab im⟩⟩
  rcases List.mem_cons.1 h1 with rfl | h1
  · exact ⟨vs, rest, hw, hr.stab im, hroom⟩
  · exact (H.blk k (List.mem_cons_of_mem _ h1)).stab im fun c hc => g5 c (H.lt (mem_keys (List.mem_cons_of_mem _ h1) hc)) (fun e => nd.1 (by cases e; exact mem_keys h1 hc))
theorem compact_asc {d : List Int} (h : d.Pairwise (· ≤ ·)) : Asc (Go.Lib.compact d) ∧ ∀ x, x ∈ Go.Lib.compact d ↔ x ∈ d := by
  have key : ∀ m, m ≤ d.length → Asc (Go.Lib.compactUpTo d.toArray m) ∧ ∀ x, x ∈ Go.Lib.compactUpTo d.toArray m ↔ x ∈ d.take m := by
    intro m
    induction m with
    | zero => intro _; exact ⟨List.Pairwise.nil, fun x => by simp [Go.Lib.compactUpTo]⟩
    | succ m ih =>
      intro hm
      obtain ⟨i1, i2⟩ := ih (by omega)
      have hlt : m < d.length := by omega
      have eg : d.toArray[m]! = d[m] := by simp [hlt]
      rw [Go.Lib.compactUpTo_succ, List.take_succ_eq_append_getElem hlt]
      have hle : ∀ x ∈ d.take m, x ≤ d[m] := fun x hx => by
        obtain ⟨j, hj, rfl⟩ := List.getElem_of_mem hx
        rw [List.length_take] at hj
        rw [List.getElem_take]
        exact (List.pairwise_iff_getElem.1 h) j m (by omega) hlt (by omega)
      by_cases hk : Go.Lib.keeps d.toArray m = true
      · rw [if_pos hk, eg]
        refine ⟨List.pairwise_append.2 ⟨i1, List.pairwise_singleton _ _, fun x hx y hy => ?_⟩, fun x => by rw [List.mem_append, List.mem_append, i2]⟩
        rw [List.mem_singleton] at hy
        subst hy
        have hx2 := (i2 x).1 hx
        have h1 := hle x hx2
        by_cases hm0 : m = 0
        · subst hm0; simp at hx2
        · have hne : d.toArray[m]! ≠ d.toArray[m - 1]! := by
            unfold Go.Lib.keeps at hk
            simpa [hm0] using hk
          have ep : d.toArray[m - 1]! = d[m - 1] := by simp [show m - 1 < d.length by omega]
          rw [eg, ep] at hne
          have h2 : d[m - 1] ≤ d[m] := (List.pairwise_iff_getElem.1 h) (m - 1) m (by omega) hlt (by omega)
          obtain ⟨j, hj, rfl⟩ := List.getElem_of_mem hx2
          rw [List.length_take] at hj
          rw [List.getElem_take] at h1 ⊢
          have h3 : d[j] ≤ d[m - 1] := by
            by_cases q : j = m - 1
            · subst q; exact Int.le_refl _
            · exact (List.pairwise_iff_getElem.1 h) j (m - 1) (by omega) (by omega) (by omega)
          omega
      · rw [if_neg hk, List.append_nil]
        refine ⟨i1, fun x => ?_⟩
        rw [List.mem_append, i2, List.mem_singleton]
        constructor
        · exact .inl
        · rintro (q | rfl)
          · exact q
          · have hm0 : m ≠ 0 := fun q => hk (by subst q; unfold Go.Lib.keeps; simp)
            have he : d.toArray[m]! = d.toArray[m - 1]! := by
              unfold Go.Lib.keeps at hk
              simp only [decide_eq_true_eq, not_or] at hk
              exact Classical.not_not.1 hk.2
            have ep : d.toArray[m - 1]! = d[m - 1] := by simp [show m - 1 < d.length by omega]
            rw [eg, ep] at he
            rw [he]
            have : (d.take m)[m - 1]'(by rw [List.length_take]; omega) = d[m - 1] := List.getElem_take
            rw [← this]
            exact List.getElem_mem _
  have := key d.length (Nat.le_refl _)
  rw [List.take_length] at this
  exact this
def sortI (l : List Int) : List Int := l.mergeSort fun x y => decide (x ≤ y)
theorem o_slSort (l : List Int) (b : Option Nat) (cap : Nat) (hl : l.length ≤ 100000000) : Does Tryz.prog 55 [.os b l.length cap] [⟨b, 2, cap * 1, (l.map Go.AI.encI).flatten⟩]
    (fun v h' => v = .tup [] ∧ h' = [⟨b, 2, cap * 1, ((sortI l).map Go.AI.encI).flatten⟩]) := by
  refine ⟨⟨Tryz.f55, Tryz.func55, by decide, by rfl⟩, fun F w vs hrel hh => ?_⟩
  obtain ⟨v1, us, rfl, h1, h2⟩ := hrel.uncons
  obtain rfl : us = [] := List.eq_nil_of_length_eq_zero h2.1
  cases b with
  | none =>
    obtain ⟨h3, rfl, a, rfl⟩ := h1.osn_inv
    obtain rfl : l = [] := List.eq_nil_of_length_eq_zero h3
    refine (Go.Proofs.AnyM.slices_Sort_int_none Tryz.sortI a 0 w).mono fun e w' ⟨e1, e2⟩ => ⟨_, .tup [], _, e1, ⟨rfl, rfl⟩, ?_, .tup [] [] rfl (fun j hj => absurd hj (Nat.not_lt_zero _))⟩
    subst e2; rw [show sortI [] = [] from by simp [sortI]]; exact Chg.refl hh
  | some b =>
    obtain ⟨rfl, _⟩ := h1.os_inv
    obtain ⟨vs, rest, hb, hr, hroom⟩ := hh.at (List.mem_append_left F List.mem_cons_self)
    obtain ⟨rfl, hin⟩ := relL_ints_inv hr
    have hbl := (Array.getElem?_eq_some_iff.1 hb).1
    have hH := Go.holds_of_blockI (ss := l) hb (by rw [List.toList_toArray, List.take_append_of_le_length (by simp), List.take_of_length_le (by simp)])
    have hsl : (sortI l).length = l.length := List.length_mergeSort _
    refine (Go.Proofs.AnyM.slices_Sort_int Tryz.sortI b 0 cap l w hH hbl (by omega)).mono fun e w' ⟨e1, n, os, e2⟩ => ⟨_, .tup [], _, e1, ⟨rfl, rfl⟩, ?_, .tup [] [] rfl (fun j hj => absurd hj (Nat.not_lt_zero _))⟩
    have hg := Go.grownBy_sortedI (w := w) (g := b) (n := n) (os := os) (sortI l).toArray
    have hw' := Go.heap_sortedI (n := n) (os := os) (sortI l).toArray hb
    rw [show (Go.Sort.grow (Go.Sort.putRow (Value.int .i64) (Go.Sort.ahead w n) b 0 (sortI l).toArray) os) = w' from e2.symm] at hg hw'
    have hT := Go.take_putCellsI ((List.map (Value.int IntKind.i64) l ++ rest).toArray) (sortI l) (by simp; omega)
    have hsz : (Go.Sort.putCells (Value.int IntKind.i64) 0 (sortI l).toArray (List.map (Value.int IntKind.i64) l ++ rest).toArray).size = cap * 1 := by rw [hroom]; simp [Go.Sort.putCells]
    generalize Go.Sort.putCells (Value.int IntKind.i64) 0 (sortI l).toArray (List.map (Value.int IntKind.i64) l ++ rest).toArray = X at hT hw' hsz
    have hX : X = ((sortI l).map (Value.int .i64) ++ X.toList.drop (sortI l).length).toArray := by
      apply Array.ext'
      rw [List.toList_toArray, ← hT, List.take_append_drop]
    rw [hX] at hw'
    refine chg_write hh hg hw' (relL_ints fun x hx => hin x (List.mem_mergeSort.1 hx)) ?_
    have := congrArg Array.size hX
    simp only [List.size_toArray] at this
    omega
theorem compact_len (l : List Int) : (Go.Lib.compact l).length ≤ l.length := by
  unfold Go.Lib.compact Go.Lib.compactUpTo
  rw [List.length_map]
  exact Nat.le_trans (List.length_filter_le _ _) (by rw [List.length_range]; exact Nat.le_refl _)
theorem grow_nil (w : World) : Go.Sort.grow w #[] = w := by cases w; simp [Go.Sort.grow]
theorem o_slCompact (l : List Int) (b : Option Nat) (cap : Nat) (hl : l.length ≤ 100000000) : Does Tryz.prog 56 [.os b l.length cap] [⟨b, 2, cap * 1, (l.map Go.AI.encI).flatten⟩]
    (fun v h' => v = .os b (Go.Lib.compact l).length cap ∧ h' = [⟨b, 2, cap * 1, ((Go.Lib.compact l).map Go.AI.encI).flatten⟩]) := by
  refine ⟨⟨Tryz.f56, Tryz.func56, by decide, by rfl⟩, fun F w vs hrel hh => ?_⟩
  obtain ⟨v1, us, rfl, h1, h2⟩ := hrel.uncons
  obtain rfl : us = [] := List.eq_nil_of_length_eq_zero h2.1
  have cl := compact_len l
  cases b with
  | none =>
    obtain ⟨h3, h4, a, rfl⟩ := h1.osn_inv
    obtain rfl : l = [] := List.eq_nil_of_length_eq_zero h3
    obtain rfl : cap = 0 := h4
    refine (Go.Proofs.AnyG.slices_Compact_int_empty Tryz.compI a 0 w).mono fun e w' ⟨e1, e2⟩ => ⟨_, .os none 0 0, _, e1, ⟨rfl, rfl⟩, ?_, .osn a⟩
    subst e2; exact Chg.refl hh
  | some b =>
    obtain ⟨rfl, _⟩ := h1.os_inv
    obtain ⟨vs, rest, hb, hr, hroom⟩ := hh.at (List.mem_append_left F List.mem_cons_self)
    obtain ⟨rfl, hin⟩ := relL_ints_inv hr
    have hcap : l.length ≤ cap := by
      have : cap * 1 = (l.map (Value.int .i64) ++ rest).length := hroom
      rw [List.length_append, List.length_map] at this
      omega
    have hH := Go.holds_of_blockI (ss := l) hb (by rw [List.toList_toArray, List.take_append_of_le_length (by simp), List.take_of_length_le (by simp)])
    have mem : ∀ x ∈ Go.Lib.compact l, x ∈ l := fun x hx => by
      unfold Go.Lib.compact Go.Lib.compactUpTo at hx
      obtain ⟨j, hj, rfl⟩ := List.mem_map.1 hx
      have hlt : j < l.length := by simpa using (List.mem_filter.1 hj).1
      simp [hlt]
    refine (Go.Proofs.AnyG.slices_Compact_int Tryz.compI b 0 cap l w hH (by omega) hcap).mono fun e w' ⟨e1, n, e2⟩ => ⟨_, .os (some b) (Go.Lib.compact l).length cap, _, e1, ⟨rfl, rfl⟩, ?_, .os b _ cap (by unfold maxLn; omega)⟩
    generalize hZ : Go.Lib.compact l ++ List.replicate (l.length - (Go.Lib.compact l).length) 0 = Z at e2
    have zl : Z.length = l.length := by rw [← hZ, List.length_append, List.length_replicate]; omega
    have hg := Go.grownBy_sortedI (w := w) (g := b) (n := n) (os := #[]) Z.toArray
    have hw' := Go.heap_sortedI (n := n) (os := #[]) Z.toArray hb
    rw [grow_nil, ← e2] at hg hw'
    have hT := Go.take_putCellsI ((List.map (Value.int IntKind.i64) l ++ rest).toArray) Z (by simp; omega)
    have hsz : (Go.Sort.putCells (Value.int IntKind.i64) 0 Z.toArray (List.map (Value.int IntKind.i64) l ++ rest).toArray).size = cap * 1 := by rw [hroom]; simp [Go.Sort.putCells]
    generalize Go.Sort.putCells (Value.int IntKind.i64) 0 Z.toArray (List.map (Value.int IntKind.i64) l ++ rest).toArray = X at hT hw' hsz
    have hT2 : X.toList.take (Go.Lib.compact l).length = (Go.Lib.compact l).map (Value.int .i64) := by
      have := congrArg (List.take (Go.Lib.compact l).length) hT
      rw [List.take_take, Nat.min_eq_left (by omega), ← hZ, List.map_append, List.take_append_of_le_length (by rw [List.length_map]; exact Nat.le_refl _)] at this
      exact this.trans (List.take_of_length_le (by rw [List.length_map]; exact Nat.le_refl _))
    have hX : X = ((Go.Lib.compact l).map (Value.int .i64) ++ X.toList.drop (Go.Lib.compact l).length).toArray := by
      apply Array.ext'
      rw [List.toList_toArray, ← hT2, List.take_append_drop]
    rw [hX] at hw'
    refine chg_write hh hg hw' (relL_ints fun x hx => hin x (mem x hx)) ?_
    have := congrArg Array.size hX
    simp only [List.size_toArray] at this
    omega
theorem norm_compact (l : List Int) : Go.Lib.compact (sortI l) = normR l := by
  have hs : (sortI l).Pairwise (· ≤ ·) := by
    have := List.pairwise_mergeSort (le := fun x y : Int => decide (x ≤ y)) (fun a b c h1 h2 => by simp at *; omega) (fun a b => by simp; omega) l
    exact this.imp fun h => by simpa using h
  obtain ⟨h1, h2⟩ := compact_asc hs
  exact normR_eq h1 fun x => by rw [h2]; exact List.mem_mergeSort
theorem o_sorted (l : List Int) (b : Option Nat) (cap : Nat) (hl : l.length ≤ 100000000) : Does Tryz.prog 28 [.os b l.length cap] [⟨b, 2, cap * 1, (l.map Go.AI.encI).flatten⟩]
    (fun v h' => v = .os b (normR l).length cap ∧ h' = [⟨b, 2, cap * 1, ((normR l).map Go.AI.encI).flatten⟩]) := by
  refine fn_of_runD tyOk ztOk mix Tryz.func28 rfl (by decide) Tryz.ntmps28 (fun w0 F => ?_)
  change Run _ _ _ _ _ (_ :: F)
  have sl : (sortI l).length = l.length := List.length_mergeSort _
  repeat' (first
      | (refine j_go ?_; first
        | refine j_op0 rfl rfl rfl rfl ?_)
      | refine j_nil ?_
      | (refine r_go ?_; first | refine run_seq ?_ | refine run_region ?_)
      | refine seqQ_normal ?_)
  refine j_kCall rfl rfl rfl rfl ?_
  refine jcp F (o_slSort l b cap hl) (List.Perm.refl _) (LeL.refl _) rfl rfl (fun v h1 hR => ?_)
  obtain ⟨rfl, rfl⟩ := hR
  repeat' (first
      | (refine j_go ?_; first
        | refine j_op0 rfl rfl rfl rfl ?_)
      | refine j_nil ?_
      | (refine r_go ?_; first | refine run_seq ?_ | refine run_region ?_)
      | refine seqQ_normal ?_)
  have oc := o_slCompact (sortI l) b cap (by omega)
  rw [sl, norm_compact] at oc
  refine j_kCall rfl rfl rfl rfl ?_
  refine jcp F oc (List.Perm.refl _) (LeL.refl _) rfl rfl (fun v h1 hR => ?_)
  obtain ⟨rfl, rfl⟩ := hR
  repeat' (first
      | (refine j_go ?_; first
        | refine j_op0 rfl rfl rfl rfl ?_)
      | refine j_nil ?_
      | (refine r_go ?_; first | refine run_ret ?_)
      | refine seqQ_normal ?_)
  exact endD_ret (h1 := [_]) rfl (.cons (.tmp rfl) .nil) (Le.refl _) ⟨rfl, rfl⟩ (.inl rfl)
end Go.Proofs.YtbpmmdecaonopaaGreat

/-
  The graph of stocks, by the program. No condition.
-/
namespace Go.Proofs.YtbpmmdecaonopaaGreat
open Go.AI
set_option maxRecDepth 8000
set_option maxHeartbeats 3200000
theorem Frz.fn {h : Heap} {f : FuncId} {cs cs' : List A} (H : FrzL h cs cs') : Frz h (.fn f cs) (.fn f cs') := fun F w v hm ho r => by
  obtain ⟨vs, rfl, rl⟩ := r.fn_inv
  have q := H F w vs hm ho rl
  exact .fn f _ _ q.1 q.2
theorem sL_load {L : List Stock} {k off : Nat} (hk : k < L.length) (ho : off = k * 2) : loadA ty 31 (((L.map encStock).flatten).drop off) = some (.agg (encStock L[k])) := by
  rw [ho, drop_flat (g := encStock) (z := 2) (fun _ => rfl) L k hk]
  exact loadSt rfl rfl
theorem c_choicesF {p : Passing} {m : Int} {s : Stock} (hv : p.Ok) (hs : p.StockOk s) (h15 : (p.allC s).length ≤ 1500) : Gives Tryz.prog 24 [.agg (encPassing p), .agg (encStock s), .int m] (.tup [.sl ((p.chS m s).map (Go.AI.encS Go.AI.encI)), .int 0]) :=
  (o_pcChoices p s m hv hs).frozen fun v h1 ⟨q, _⟩ => by
    obtain ⟨a, rfl, o⟩ := q h15
    exact FrzF.tup2 o.frzF (Clo.int _)
theorem c_choicesN {p : Passing} {m : Int} {s : Stock} (hv : p.Ok) (hs : p.StockOk s) (h15 : ¬ (p.allC s).length ≤ 1500) : Gives Tryz.prog 24 [.agg (encPassing p), .agg (encStock s), .int m] (.tup [.sl [], .int 3]) :=
  (o_pcChoices p s m hv hs).frozen fun v h1 ⟨_, q⟩ => by
    obtain ⟨rfl, rfl⟩ := q h15
    exact FrzF.same _ _
theorem c_stepF {p : Passing} {s : Stock} {cs : List Int} (hv : p.Ok) (hs : p.StockOk s) (hc : p.Cnts cs) (hok : p.StockOk (p.after s cs)) : Gives Tryz.prog 23 [.agg (encPassing p), .agg (encStock s), .sl (cs.map Go.AI.encI)] (.tup [.agg (encStock (p.after s cs)), .int 0]) :=
  (o_step p s cs hv hs hc).frozen fun v h1 ⟨q, _⟩ => by
    obtain ⟨a, rfl, o⟩ := q hok
    exact FrzF.tup2 o.frzF (Clo.int _)
theorem c_stepN {p : Passing} {s : Stock} {cs : List Int} (hv : p.Ok) (hs : p.StockOk s) (hc : p.Cnts cs) (hok : ¬ p.StockOk (p.after s cs)) : Gives Tryz.prog 23 [.agg (encPassing p), .agg (encStock s), .sl (cs.map Go.AI.encI)] (.tup [.agg (encStock ⟨[], []⟩), .int 3]) :=
  (o_step p s cs hv hs hc).frozen fun v h1 ⟨_, q⟩ => by
    obtain ⟨a, rfl, o⟩ := q hok
    exact FrzF.tup2 o.frzF (Clo.int _)
theorem c_iPassGraph (p : Passing) (m : Int) (s : Stock) (hv : p.Ok) (hs : p.StockOk s) (hm : 1 ≤ m ∧ m ≤ 3) : Gives Tryz.prog 7 [.agg (encPassing p), .agg (encStock s), .int m] (.tup [.sl ((resPassGraph p m s).1.map encStock), .sl ((resPassGraph p m s).2.map (Go.AI.encS Go.AI.encI)), .int (codePassGraph p m s)]) := by
  refine fn_of_run tyOk ztOk mix Tryz.func7 rfl (by decide) Tryz.ntmps7 (fun w0 h => ?_)
  have cM := c_modeOf p s m
  rw [cd2_o hv ⟨hs, hm⟩] at cM
  have h8 := hv.1.2.2.2.2.1
  have c0 := c_stepF hv hs (zero_cnts p) (by rw [after_zero hv hs]; exact hs)
  rw [after_zero hv hs] at c0
  have none_ : grF p m s = none → ∀ (e : Env) (h1 : Heap), lk e 6 = some (.os none 0 0) → lk e 7 = some (.os none 0 0) → lk e 8 = some (.int 3) → h.Sublist h1 → endQ ty Tryz.f7.results (.tup [.sl ((resPassGraph p m s).1.map encStock), .sl ((resPassGraph p m s).2.map (Go.AI.encS Go.AI.encI)), .int (codePassGraph p m s)]) h .ret e h1 := fun hn e h1 q1 q2 q3 q4 => by
    rw [(pg_none hn).1, (pg_none hn).2]
    exact end_le q4 (vs := [_, _, _]) (.cons (.tmp q1) (.cons (.tmp q2) (.cons (.tmp q3) .nil))) (Le.tup (LeL.cons (Le.nil 0) (LeL.cons (Le.nil 0) (LeL.cons (Le.refl _) LeL.nil)))) (.inl rfl)
  repeat' (first
      | (refine j_go ?_; first
        | refine j_op0 rfl rfl rfl rfl ?_ | (refine j_kCall rfl rfl rfl rfl ?_; first | refine jc (cM) (LeL.refl _) rfl rfl ?_) | refine j_box rfl rfl rfl rfl rfl rfl ?_)
      | refine j_nil ?_
      | (refine j_goO ?_; first
        | refine j_op0O rfl rfl rfl rfl ?_ | (refine j_kLenO rfl ?_; first | refine j_lenO rfl rfl rfl rfl rfl rfl ?_))
      | (refine r_go ?_; first | refine run_seq ?_ | refine run_region ?_ | (refine (run_ifn rfl (fun hb => ?_) (fun hb => ?_)) <;> first | (exfalso; omega) | skip) | refine run_skip ?_ | refine run_opn 4 [⟨0, false, false, 0⟩, ⟨1, false, false, 0⟩, ⟨2, false, false, 0⟩, ⟨3, false, false, 0⟩, ⟨4, false, false, 0⟩, ⟨5, false, false, 0⟩, ⟨6, false, false, 0⟩, ⟨7, false, false, 0⟩, ⟨8, false, false, 0⟩, ⟨9, false, false, 0⟩, ⟨10, false, true, 0⟩, ⟨11, false, true, 0⟩, ⟨12, true, false, 0⟩] rfl rfl (by kernel_rfl) ?_)
      | refine seqQ_normal ?_)
  all_goals try exact absurd rfl hb
  refine j_makeQO p.rules.length rfl rfl rfl rfl rfl rfl (by omega) rfl rfl ?_
  repeat' (first
      | (refine j_go ?_; first
        | (refine j_kLoad rfl ?_; first | refine j_mload 0 rfl rfl rfl rfl rfl rfl rfl ?_))
      | (refine j_goO ?_; first
        | refine j_op0O rfl rfl rfl rfl ?_ | (refine j_kCallO rfl rfl rfl rfl ?_; first | refine jcO (c0) (LeL.refl _) rfl rfl ?_) | (refine j_kStoreO rfl ?_; first | refine j_storeNO 0 rfl rfl rfl rfl rfl rfl rfl rfl rfl rfl rfl rfl (by first | (intro _ hk; exact absurd hk List.not_mem_nil) | (intro k hk; simp at hk ⊢; try simp [hk])) ?_) | refine j_allocO rfl (by first | (intro _ hk; exact absurd hk List.not_mem_nil) | (intro k hk; simp at hk ⊢; try simp [hk])) rfl rfl rfl rfl rfl (fun _ => ?_))
      | refine j_nilO ?_
      | (refine r_go ?_; first | refine run_seq ?_ | refine run_region ?_)
      | refine seqQ_normal ?_)
  refine j_bslM rfl rfl rfl rfl rfl rfl rfl rfl rfl rfl rfl (fun b1 => ?_)
  repeat' (first
      | (refine j_go ?_; first
        | refine j_op0 rfl rfl rfl rfl ?_ | (refine j_kBsl rfl ?_; first | refine j_bs0 rfl rfl rfl rfl rfl rfl ?_))
      | refine j_nil ?_
      | (refine r_go ?_; first | refine run_seq ?_ | refine run_region ?_ | refine run_block ?_)
      | refine seqQ_normal ?_)
  refine run_view (view_none 24 (0 * 1) rfl) ?_
  refine run_view (view_perm (List.Perm.swap _ _ _)) ?_
  refine run_view (view_erase 2) ?_
  refine run_loop (fun x : (List Stock × List (List Int)) × (Option Nat × Nat) × (Option Nat × Nat) => [(2, .int m), (3, .ip (encPassing p)), (12, .os x.2.1.1 x.1.1.length x.2.1.2), (13, .os x.2.2.1 x.1.2.length x.2.2.2), (14, .int (x.1.2.length : Int))])
    (fun x => sLB x.2.1.1 x.2.1.2 x.1.1 :: nLB x.2.2.1 x.2.2.2 x.1.2 :: h)
    (fun x => grI p m s x.1.2.length = some (x.1.1, x.1.2)) (fun x => 201 - x.1.2.length) (([s], []), (some b1, 1), (none, 0)) ⟨rfl, rfl, rfl, rfl, rfl, trivial⟩ rfl rfl (fun ⟨⟨L, nx⟩, ⟨ob, cp⟩, ⟨on, cn⟩⟩ hg => ?_)
  dsimp only at hg ⊢
  obtain ⟨G, _⟩ := grI_ok hs _ hg
  have gn := G.nl
  have gl := G.le
  by_cases hk : nx.length < L.length
  case neg =>
    have hd := grF_done (by omega) hg (by omega)
    rw [(pg_some hd).1, (pg_some hd).2]
    repeat' (first
      | (refine j_go ?_; first
        | refine j_op0 rfl rfl rfl rfl ?_ | (refine j_kLen rfl ?_; first | refine j_op rfl rfl rfl rfl ?_))
      | refine j_nil ?_
      | (refine r_go ?_; first | refine run_seq ?_ | refine run_region ?_ | (refine (run_if rfl (fun hb => ?_) (fun hb => ?_)) <;> first | (exfalso; omega) | skip) | refine run_ret ?_ | refine run_exit ?_)
      | refine seqQ_normal ?_ | refine seqQ_exit ?_ | refine blockQ_eq ?_ | refine loopQ_exit ?_)
    refine end_view (view_freeze (g := encStock) (z := 2) (ys := L) 0 6 rfl rfl rfl (fun _ => rfl) rfl rfl) ?_
    refine end_view (view_freeze (g := Go.AI.encS Go.AI.encI) (z := 1) (ys := nx) 0 7 rfl rfl rfl (fun _ => rfl) rfl rfl) ?_
    exact end_le (List.Sublist.refl _) (vs := [_, _, _]) (.cons (.tmp rfl) (.cons (.tmp rfl) (.cons (.tmp rfl) .nil))) (Le.refl _) (.inl rfl)
  have hsk := G.ok _ (List.getElem_mem hk)
  have gs := grI_step hg hk
  refine run_some 0 rfl (sL_ne (by omega)) (fun bq hbq => ?_)
  subst hbq
  repeat' (first
      | (refine j_go ?_; first
        | refine j_op0 rfl rfl rfl rfl ?_ | (refine j_kIdx rfl ?_; first | refine j_midx rfl rfl rfl rfl rfl (by first | omega | (simp only [List.length_append, List.length_cons, List.length_nil]; omega)) rfl rfl ?_) | (refine j_kLen rfl ?_; first | refine j_op rfl rfl rfl rfl ?_))
      | refine j_nil ?_
      | (refine r_go ?_; first | refine run_seq ?_ | refine run_region ?_ | (refine (run_if rfl (fun hb => ?_) (fun hb => ?_)) <;> first | (exfalso; omega) | skip) | refine run_block ?_ | refine run_skip ?_ | refine run_regionD (by kernel_rfl) ?_)
      | refine seqQ_normal ?_)
  refine j_mload 0 rfl rfl rfl rfl (sL_load hk (by first | rfl | omega)) rfl rfl ?_
  by_cases h15 : (p.allC L[nx.length]).length ≤ 1500
  case neg =>
    rw [if_neg h15] at gs
    repeat' (first
      | (refine j_go ?_; first
        | refine j_op0 rfl rfl rfl rfl ?_ | (refine j_kCall rfl rfl rfl rfl ?_; first | refine jc (c_choicesN hv hsk h15) (LeL.refl _) rfl rfl ?_))
      | refine j_nil ?_
      | (refine r_go ?_; first | refine run_seq ?_ | refine run_region ?_ | (refine (run_ifn rfl (fun hb => ?_) (fun hb => ?_)) <;> first | (exfalso; omega) | skip) | refine run_ret ?_)
      | refine seqQ_normal ?_ | refine seqQ_ret ?_ | refine blockQ_ret ?_ | refine loopQ_ret ?_)
    all_goals first
      | exact absurd hb (by decide)
      | exact none_ (grF_none (by omega) gs) _ _ rfl rfl rfl (List.Sublist.cons _ (List.Sublist.cons _ (List.Sublist.refl _)))
  rw [if_pos h15] at gs
  have cC := c_choicesF (m := m) hv hsk h15
  have cok : ∀ c ∈ p.chS m L[nx.length], p.Cnts c ∧ Nn (p.left L[nx.length] c) := fun c hc => chS_ok hv hsk hc
  have c15 : (p.chS m L[nx.length]).length ≤ 1500 := Nat.le_trans (pick_len _ _ _ _) h15
  generalize p.chS m L[nx.length] = cs at gs cok c15 cC
  repeat' (first
      | (refine j_go ?_; first
        | refine j_op0 rfl rfl rfl rfl ?_ | (refine j_kLen rfl ?_; first | refine j_len rfl rfl rfl rfl rfl rfl ?_) | (refine j_kCall rfl rfl rfl rfl ?_; first | refine jc (cC) (LeL.refl _) rfl rfl ?_) | (refine j_kBsl rfl ?_; first | refine j_bs0 rfl rfl rfl rfl rfl rfl ?_))
      | refine j_nil ?_
      | (refine r_go ?_; first | refine run_seq ?_ | refine run_region ?_ | (refine (run_ifn rfl (fun hb => ?_) (fun hb => ?_)) <;> first | (exfalso; omega) | skip) | refine run_block ?_ | refine run_skip ?_)
      | refine seqQ_normal ?_)
  all_goals try exact absurd rfl hb
  refine run_view (view_none 2 (0 * 1) rfl) ?_
  refine run_view (view_perm (List.Perm.swap _ _ _)) ?_
  refine run_loop (fun x : (Nat × List Stock × List Int) × (Option Nat × Nat) × (Option Nat × Nat) => [(2, .int m), (3, .ip (encPassing p)), (13, .os on nx.length cn), (14, .int (nx.length : Int)), (63, .sl (cs.map (Go.AI.encS Go.AI.encI))), (64, .int cs.length), (12, .os x.2.1.1 x.1.2.1.length x.2.1.2), (17, .os x.2.2.1 x.1.2.2.length x.2.2.2), (65, .int (x.1.1 : Int))])
    (fun x => sLB x.2.1.1 x.2.1.2 x.1.2.1 :: ⟨x.2.2.1, 2, x.2.2.2 * 1, (x.1.2.2.map Go.AI.encI).flatten⟩ :: nLB on cn nx :: h) (fun x => RowAt p L[nx.length] cs L x.1.1 x.1.2.1 x.1.2.2) (fun x => cs.length - x.1.1) ((0, L, []), (some bq, cp), (none, 0)) ⟨rfl, rfl, rfl, rfl, rfl, rfl, rfl, rfl, rfl, trivial⟩ rfl (RowAt.start G.nd G.le G.ok) (fun ⟨⟨c, L2, own⟩, ⟨ob2, cp2⟩, ⟨oo, co⟩⟩ R => ?_)
  dsimp only at R ⊢
  have rl := R.pre.length_le
  have r2 := R.le
  have ol := R.ol
  have rc := R.cl
  have nl := normR_len own
  by_cases hc : c < cs.length
  case neg =>
    have hce : c = cs.length := by omega
    rw [R.done hce] at gs
    repeat' (first
      | (refine j_go ?_; first
        | refine j_op0 rfl rfl rfl rfl ?_)
      | refine j_nil ?_
      | (refine r_go ?_; first | refine run_seq ?_ | refine run_region ?_ | (refine (run_if rfl (fun hb => ?_) (fun hb => ?_)) <;> first | (exfalso; omega) | skip) | refine run_exit ?_)
      | refine seqQ_normal ?_ | refine seqQ_exit ?_ | refine blockQ_eq ?_ | refine loopQ_exit ?_)
    refine j_kCall rfl rfl rfl rfl ?_
    refine jcp _ (o_sorted own oo co (by omega)) (List.Perm.swap _ _ _) (LeL.refl _) rfl rfl (fun v h1 hR => ?_)
    obtain ⟨rfl, rfl⟩ := hR
    refine j_view (view_freeze (g := Go.AI.encI) (z := 1) (ys := normR own) 0 103 rfl rfl rfl (fun _ => rfl) rfl rfl) ?_
    repeat' (first
      | (refine j_go ?_; first
        | (refine j_kBsl rfl ?_; first | refine j_bsl rfl rfl rfl rfl rfl rfl rfl rfl rfl rfl rfl ?_)))
    refine j_append 1 (g := Go.AI.encS Go.AI.encI) (ys := nx) [normR own] rfl rfl rfl rfl rfl rfl rfl rfl rfl rfl rfl rfl (fun _ => rfl) (fun _ hy => by simp only [List.mem_singleton] at hy; subst hy; rfl) ⟨by simp only [List.length_cons, List.length_nil]; omega, by simp only [List.length_cons, List.length_nil]; omega⟩ rfl rfl (fun on' cn' => ?_)
    repeat' (first
      | (refine j_go ?_; first
        | refine j_op0 rfl rfl rfl rfl ?_ | (refine j_kBin rfl ?_; first | refine j_in rfl rfl ⟨by omega, by omega⟩ rfl rfl ?_))
      | refine j_nil ?_
      | (refine r_go ?_; first | refine run_region ?_)
      | refine seqQ_normal ?_ | refine blockQ_normal ?_)
    exact loopQ_next ((L2, nx ++ [normR own]), (ob2, cp2), (on', cn')) (by dsimp only; rw [List.length_append]; exact gs) (by dsimp only; rw [List.length_append, List.length_singleton]; omega) rfl ⟨rfl, rfl, rfl, rfl, si (by dsimp only; rw [List.length_append, List.length_singleton]; omega), trivial⟩
  have hkc := cok _ (List.getElem_mem hc)
  have eL : L2[nx.length]'(by omega) = L[nx.length] := pre_get R.pre hk (by omega)
  refine run_some 0 rfl (sL_ne (by omega)) (fun bq2 hbq => ?_)
  subst hbq
  have ld := sL_load (L := L2) (k := nx.length) (off := nx.length * 2) (by omega) rfl
  rw [eL] at ld
  by_cases hok : p.StockOk (p.after L[nx.length] cs[c])
  case neg =>
    rw [R.bad hc hok] at gs
    repeat' (first
      | (refine j_go ?_; first
        | refine j_op0 rfl rfl rfl rfl ?_ | (refine j_kIdx rfl ?_; first | refine j_idx rfl rfl rfl rfl rfl (by omega) rfl rfl rfl ?_))
      | refine j_nil ?_
      | (refine j_goO ?_; first
        | refine j_op0O rfl rfl rfl rfl ?_ | (refine j_kIdxO rfl ?_; first | refine j_midxO rfl rfl rfl rfl rfl (by first | omega | (simp only [List.length_append, List.length_cons, List.length_nil]; omega)) rfl rfl ?_))
      | (refine r_go ?_; first | refine run_seq ?_ | refine run_region ?_ | (refine (run_if rfl (fun hb => ?_) (fun hb => ?_)) <;> first | (exfalso; omega) | skip) | refine run_block ?_ | refine run_skip ?_ | refine run_opn 16 [⟨0, false, false, 0⟩, ⟨1, false, false, 0⟩, ⟨2, false, false, 0⟩, ⟨3, false, false, 0⟩, ⟨4, false, false, 0⟩, ⟨5, false, false, 0⟩, ⟨6, false, false, 0⟩, ⟨7, false, false, 0⟩, ⟨8, false, false, 0⟩, ⟨9, false, false, 0⟩, ⟨10, false, true, 0⟩, ⟨11, false, true, 0⟩, ⟨12, true, false, 0⟩] rfl rfl (by kernel_rfl) ?_)
      | refine seqQ_normal ?_)
    refine j_mloadS 0 rfl rfl rfl rfl ld rfl rfl ?_
    repeat' (first
      | (refine j_go ?_; first
        | refine j_op0 rfl rfl rfl rfl ?_)
      | refine j_nil ?_
      | (refine j_goO ?_; first
        | refine j_op0O rfl rfl rfl rfl ?_ | (refine j_kCallO rfl rfl rfl rfl ?_; first | refine jcO (c_stepN hv hsk hkc.1 hok) (LeL.refl _) rfl rfl ?_) | (refine j_kStoreO rfl ?_; first | refine j_storeNO 0 rfl rfl rfl rfl rfl rfl rfl rfl rfl rfl rfl rfl (by first | (intro _ hk; exact absurd hk List.not_mem_nil) | (intro k hk; simp at hk ⊢; try simp [hk])) ?_) | refine j_allocO rfl (by first | (intro _ hk; exact absurd hk List.not_mem_nil) | (intro k hk; simp at hk ⊢; try simp [hk])) rfl rfl rfl rfl rfl (fun _ => ?_))
      | refine j_nilO ?_
      | (refine r_go ?_; first | refine run_seq ?_ | refine run_region ?_ | (refine (run_ifn rfl (fun hb => ?_) (fun hb => ?_)) <;> first | (exfalso; omega) | skip) | refine run_ret ?_)
      | refine seqQ_normal ?_ | refine seqQ_ret ?_ | refine blockQ_ret ?_ | refine loopQ_ret ?_)
    all_goals first
      | exact absurd hb (by decide)
      | exact none_ (grF_none (by omega) gs) _ _ rfl rfl rfl (List.Sublist.cons _ (List.Sublist.cons _ (List.Sublist.cons _ (List.Sublist.cons _ (List.Sublist.refl _)))))
  have st := c_stepF hv hsk hkc.1 hok
  have Rh := R.hit hc hok
  have Rn := R.new hc hok
  have Rf := R.full hc hok
  generalize p.after L[nx.length] cs[c] = t at st Rh Rn Rf
  repeat' (first
      | (refine j_go ?_; first
        | refine j_op0 rfl rfl rfl rfl ?_ | (refine j_kIdx rfl ?_; first | refine j_idx rfl rfl rfl rfl rfl (by omega) rfl rfl rfl ?_))
      | refine j_nil ?_
      | (refine j_goO ?_; first
        | refine j_op0O rfl rfl rfl rfl ?_ | (refine j_kIdxO rfl ?_; first | refine j_midxO rfl rfl rfl rfl rfl (by first | omega | (simp only [List.length_append, List.length_cons, List.length_nil]; omega)) rfl rfl ?_))
      | (refine r_go ?_; first | refine run_seq ?_ | refine run_region ?_ | (refine (run_if rfl (fun hb => ?_) (fun hb => ?_)) <;> first | (exfalso; omega) | skip) | refine run_block ?_ | refine run_skip ?_ | refine run_opn 16 [⟨0, false, false, 0⟩, ⟨1, false, false, 0⟩, ⟨2, false, false, 0⟩, ⟨3, false, false, 0⟩, ⟨4, false, false, 0⟩, ⟨5, false, false, 0⟩, ⟨6, false, false, 0⟩, ⟨7, false, false, 0⟩, ⟨8, false, false, 0⟩, ⟨9, false, false, 0⟩, ⟨10, false, true, 0⟩, ⟨11, false, true, 0⟩, ⟨12, true, false, 0⟩] rfl rfl (by kernel_rfl) ?_)
      | refine seqQ_normal ?_)
  refine j_mloadS 0 rfl rfl rfl rfl ld rfl rfl ?_
  repeat' (first
      | (refine j_go ?_; first
        | refine j_op0 rfl rfl rfl rfl ?_)
      | refine j_nil ?_
      | (refine j_goO ?_; first
        | refine j_op0O rfl rfl rfl rfl ?_ | (refine j_kCallO rfl rfl rfl rfl ?_; first | refine jcO (st) (LeL.refl _) rfl rfl ?_) | (refine j_kStoreO rfl ?_; first | refine j_storeNO 0 rfl rfl rfl rfl rfl rfl rfl rfl rfl rfl rfl rfl (by first | (intro _ hk; exact absurd hk List.not_mem_nil) | (intro k hk; simp at hk ⊢; try simp [hk])) ?_) | refine j_allocO rfl (by first | (intro _ hk; exact absurd hk List.not_mem_nil) | (intro k hk; simp at hk ⊢; try simp [hk])) rfl rfl rfl rfl rfl (fun _ => ?_))
      | refine j_nilO ?_
      | (refine r_go ?_; first | refine run_seq ?_ | refine run_region ?_ | (refine (run_ifn rfl (fun hb => ?_) (fun hb => ?_)) <;> first | (exfalso; omega) | skip) | refine run_skip ?_)
      | refine seqQ_normal ?_)
  all_goals try exact absurd rfl hb
  rename_i b20
  have cf := c_ixfK 26 [.ip (encStock t)] (fun u => u = t) L2 (fun x _ => c_pg1 x t)
  by_cases hm : t ∈ L2
  case pos =>
    have ea : fIdx (fun u => u = t) L2 = atS L2 t := by unfold atS; rw [if_neg (mem_fIdx.1 hm)]
    rw [ea] at cf
    have an := atS_in (L := L2) (t := t)
    refine j_kCall rfl rfl rfl rfl ?_
    refine jctq [⟨some b20, 31, 2, encStock t⟩, sLB (some bq2) cp2 L2] cf (Clo.int _) (fun k hk => by simp only [List.mem_cons, List.not_mem_nil, or_false] at hk; rcases hk with rfl | rfl; exact List.mem_cons_self; exact List.mem_cons_of_mem _ List.mem_cons_self)
      (FrzL.cons (Frz.mono (fun _ hk => List.mem_cons_of_mem _ hk) (sL_frz rfl)) (FrzL.cons (Frz.fn (FrzL.cons (Frz.ptr (cs := encStock t) List.mem_cons_self (FrzL.cons (Frz.same _ _) (FrzL.cons (Frz.same _ _) (FrzL.nil _)))) (FrzL.nil _))) (FrzL.nil _))) rfl rfl ?_
    repeat' (first
      | (refine j_go ?_; first
        | refine j_op0 rfl rfl rfl rfl ?_ | (refine j_kLen rfl ?_; first | refine j_op rfl rfl rfl rfl ?_) | (refine j_kBsl rfl ?_; first | refine j_bsl rfl rfl rfl rfl rfl rfl rfl rfl rfl rfl rfl ?_))
      | refine j_nil ?_
      | (refine r_go ?_; first | refine run_seq ?_ | refine run_region ?_ | (refine (run_if rfl (fun hb => ?_) (fun hb => ?_)) <;> first | (exfalso; omega) | skip) | refine run_skip ?_)
      | refine seqQ_normal ?_)
    all_goals try (exfalso; omega)
    refine j_append 2 (g := Go.AI.encI) (ys := own) [atS L2 t] rfl rfl rfl rfl rfl rfl rfl rfl rfl rfl rfl rfl (fun _ => rfl) (fun _ _ => rfl) ⟨by simp only [List.length_cons, List.length_nil]; omega, by simp only [List.length_cons, List.length_nil]; omega⟩ rfl rfl (fun oo' co' => ?_)
    repeat' (first
      | (refine j_go ?_; first
        | refine j_op0 rfl rfl rfl rfl ?_ | (refine j_kBin rfl ?_; first | refine j_in rfl rfl ⟨by omega, by omega⟩ rfl rfl ?_))
      | refine j_nil ?_
      | (refine r_go ?_; first | refine run_region ?_)
      | refine seqQ_normal ?_ | refine blockQ_normal ?_)
    refine loopQ_view (view_erase 0) ?_
    exact loopQ_next ((c + 1, L2, own ++ [atS L2 t]), (some bq2, cp2), (oo', co')) (Rh hm) (by dsimp only; omega) rfl ⟨rfl, rfl, rfl, rfl, rfl, rfl, rfl, rfl, Go.AI.nx _, trivial⟩
  case neg =>
    rw [fIdx_new hm] at cf
    have ea := atS_new hm
    have la : (L2 ++ [t]).length = L2.length + 1 := by rw [List.length_append]; rfl
    refine j_kCall rfl rfl rfl rfl ?_
    refine jctq [⟨some b20, 31, 2, encStock t⟩, sLB (some bq2) cp2 L2] cf (Clo.int _) (fun k hk => by simp only [List.mem_cons, List.not_mem_nil, or_false] at hk; rcases hk with rfl | rfl; exact List.mem_cons_self; exact List.mem_cons_of_mem _ List.mem_cons_self)
      (FrzL.cons (Frz.mono (fun _ hk => List.mem_cons_of_mem _ hk) (sL_frz rfl)) (FrzL.cons (Frz.fn (FrzL.cons (Frz.ptr (cs := encStock t) List.mem_cons_self (FrzL.cons (Frz.same _ _) (FrzL.cons (Frz.same _ _) (FrzL.nil _)))) (FrzL.nil _))) (FrzL.nil _))) rfl rfl ?_
    repeat' (first
      | (refine j_go ?_; first
        | refine j_op0 rfl rfl rfl rfl ?_ | (refine j_kLen rfl ?_; first | refine j_op rfl rfl rfl rfl ?_) | (refine j_kLoad rfl ?_; first | refine j_mload 0 rfl rfl rfl rfl rfl rfl rfl ?_) | (refine j_kBsl rfl ?_; first | refine j_bsl rfl rfl rfl rfl rfl rfl rfl rfl rfl rfl rfl ?_))
      | refine j_nil ?_
      | (refine r_go ?_; first | refine run_seq ?_ | refine run_region ?_ | (refine (run_if rfl (fun hb => ?_) (fun hb => ?_)) <;> first | (exfalso; omega) | skip))
      | refine seqQ_normal ?_)
    all_goals try (exfalso; omega)
    refine j_append 1 (g := encStock) (ys := L2) [t] rfl rfl rfl rfl rfl rfl rfl rfl rfl rfl rfl rfl (fun _ => rfl) (fun _ hy => by simp only [List.mem_singleton] at hy; subst hy; rfl) ⟨by simp only [List.length_cons, List.length_nil]; omega, by simp only [List.length_cons, List.length_nil]; omega⟩ rfl rfl (fun ob' cp' => ?_)
    by_cases hl : L2.length < 200
    case neg =>
      rw [Rf hm hl] at gs
      repeat' (first
      | (refine j_go ?_; first
        | refine j_op0 rfl rfl rfl rfl ?_ | (refine j_kLen rfl ?_; first | refine j_op rfl rfl rfl rfl ?_))
      | refine j_nil ?_
      | (refine r_go ?_; first | refine run_seq ?_ | refine run_region ?_ | (refine (run_if rfl (fun hb => ?_) (fun hb => ?_)) <;> first | (exfalso; omega) | skip) | refine run_ret ?_)
      | refine seqQ_normal ?_ | refine seqQ_ret ?_ | refine blockQ_ret ?_ | refine loopQ_ret ?_)
      all_goals try (exfalso; omega)
      exact none_ (grF_none (by omega) gs) _ _ rfl rfl rfl (List.Sublist.cons _ (List.Sublist.cons _ (List.Sublist.cons _ (List.Sublist.cons _ (List.Sublist.refl _)))))
    repeat' (first
      | (refine j_go ?_; first
        | refine j_op0 rfl rfl rfl rfl ?_ | (refine j_kLen rfl ?_; first | refine j_op rfl rfl rfl rfl ?_) | (refine j_kBsl rfl ?_; first | refine j_bsl rfl rfl rfl rfl rfl rfl rfl rfl rfl rfl rfl ?_))
      | refine j_nil ?_
      | (refine r_go ?_; first | refine run_seq ?_ | refine run_region ?_ | (refine (run_if rfl (fun hb => ?_) (fun hb => ?_)) <;> first | (exfalso; omega) | skip) | refine run_skip ?_)
      | refine seqQ_normal ?_)
    all_goals try (exfalso; omega)
    refine j_append 2 (g := Go.AI.encI) (ys := own) [(L2.length : Int)] rfl rfl rfl rfl rfl rfl rfl rfl rfl rfl rfl rfl (fun _ => rfl) (fun _ _ => rfl) ⟨by simp only [List.length_cons, List.length_nil]; omega, by simp only [List.length_cons, List.length_nil]; omega⟩ rfl rfl (fun oo' co' => ?_)
    repeat' (first
      | (refine j_go ?_; first
        | refine j_op0 rfl rfl rfl rfl ?_ | (refine j_kBin rfl ?_; first | refine j_in rfl rfl ⟨by omega, by omega⟩ rfl rfl ?_))
      | refine j_nil ?_
      | (refine r_go ?_; first | refine run_region ?_)
      | refine seqQ_normal ?_ | refine blockQ_normal ?_)
    refine loopQ_view (view_erase 0) ?_
    exact loopQ_next ((c + 1, L2 ++ [t], own ++ [atS L2 t]), (ob', cp'), (oo', co')) (Rn hm hl) (by dsimp only; omega) (by rw [ea]; rfl) ⟨rfl, rfl, rfl, rfl, rfl, rfl, rfl, by rw [ea]; rfl, Go.AI.nx _, trivial⟩
end Go.Proofs.YtbpmmdecaonopaaGreat
