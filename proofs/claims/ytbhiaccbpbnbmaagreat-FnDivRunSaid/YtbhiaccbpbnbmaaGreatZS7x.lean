/-
  Contracts of slices.Sorted and slices.Sort at this translation, laid by the kit's tool in plain words. No condition.
-/
import Derived.Shelf.SlIterI.Sorted
import Derived.Shelf.SortM.Plain
import Derived.Shelf.SortM.SortNone
import Derived.Test.YtbhiaccbpbnbmaaGreatProg
import Derived.RangeFuncBox
import Derived.RangeFuncLeaves
import Derived.Shelf.Abstract
import Derived.WalkKit
import Derived.OwnWalkIn
import Derived.TacticsInMore
import Derived.LoopNIn
import Derived.LoopIn
import Derived.Shelf.SlIterI.Collect
import Derived.Test.YtbhiaccbpbnbmaaGreatZJA
import Derived.Test.YtbhiaccbpbnbmaaGreatZS7m
import Derived.Sort.OwnSortedInts
import Derived.Test.YtbhiaccbpbnbmaaGreatZS7o
import Derived.Test.YtbhiaccbpbnbmaaGreatZMS
namespace Go.Proofs
open Go.Shelf
def Tryz.sortedI_ren : Go.Shelf.Ren := ⟨fun | 6 => 86 | 8 => 97 | 9 => 98 | 11 => 104 | 13 => 106 | 12 => 105 | 23 => 116 | 24 => 117 | 14 => 108 | 15 => 109 | 16 => 110 | 17 => 111 | 18 => 112 | 19 => 113 | 20 => 103 | 21 => 114 | 22 => 115 | 25 => 119 | 26 => 120 | 27 => 121 | 28 => 122 | 29 => 123 | 30 => 102 | 31 => 124 | n => n, fun | 26 => 2 | 28 => 130 | 24 => 27 | 0 => 0 | 3 => 3 | 37 => 111 | 48 => 156 | 50 => 76 | 4 => 4 | 40 => 149 | 39 => 148 | 45 => 153 | 5 => 5 | 9 => 9 | 51 => 158 | 55 => 162 | 57 => 164 | 58 => 165 | 33 => 67 | n => n, fun | n => n⟩
theorem Tryz.sortedI : Go.Proofs.SlLaysZI.n6 Tryz.prog Tryz.sortedI_ren := {
  mixed := by kernel_rfl
  f6 := ⟨Tryz.f86.name, by decide, Tryz.func86.trans (congrArg some (by kernel_rfl))⟩
  f8 := ⟨Tryz.f97.name, by decide, Tryz.func97.trans (congrArg some (by kernel_rfl))⟩
  f11 := ⟨Tryz.f104.name, by decide, Tryz.func104.trans (congrArg some (by kernel_rfl))⟩
  t0 := Tryz.underlying0
  a0 := Tryz.isAgg0
  z0 := Tryz.sizeOf0
  v0 := Tryz.zeroValue0
  t24 := Tryz.underlying27
  a24 := Tryz.isAgg27
  z24 := Tryz.sizeOf27
  v24 := Tryz.zeroValue27
  t26 := Tryz.underlying2
  a26 := Tryz.isAgg2
  z26 := Tryz.sizeOf2
  v26 := Tryz.zeroValue2
  t28 := Tryz.underlying130
  a28 := Tryz.isAgg130
  z28 := Tryz.sizeOf130
  v28 := Tryz.zeroValue130
  i26 := by kernel_rfl }
def Tryz.sortI_ren : Go.Shelf.Ren := ⟨fun | 5 => 98 | 8 => 106 | 7 => 105 | 19 => 116 | 20 => 117 | 10 => 108 | 11 => 109 | 12 => 110 | 13 => 111 | 14 => 112 | 15 => 113 | 16 => 103 | 17 => 114 | 18 => 115 | 30 => 119 | 31 => 120 | 32 => 121 | 33 => 122 | 34 => 123 | 35 => 102 | 40 => 124 | n => n, fun | 23 => 27 | 25 => 2 | 3 => 3 | 32 => 111 | 22 => 27 | 0 => 0 | 44 => 156 | 46 => 76 | 4 => 4 | 36 => 149 | 35 => 148 | 41 => 153 | 5 => 5 | 9 => 9 | 53 => 158 | 57 => 162 | 63 => 164 | 64 => 165 | n => n, fun | n => n⟩
theorem Tryz.sortI : Go.Proofs.SlLaysM.n5 Tryz.prog Tryz.sortI_ren := {
  mixed := by kernel_rfl
  f5 := ⟨Tryz.f98.name, by decide, Tryz.func98.trans (congrArg some (by kernel_rfl))⟩
  f7 := ⟨Tryz.f105.name, by decide, Tryz.func105.trans (congrArg some (by kernel_rfl))⟩
  f8 := Tryz.func106.trans (congrArg some (by kernel_rfl))
  f10 := ⟨Tryz.f108.name, by decide, Tryz.func108.trans (congrArg some (by kernel_rfl))⟩
  f11 := ⟨Tryz.f109.name, by decide, Tryz.func109.trans (congrArg some (by kernel_rfl))⟩
  f12 := ⟨Tryz.f110.name, by decide, Tryz.func110.trans (congrArg some (by kernel_rfl))⟩
  f13 := ⟨Tryz.f111.name, by decide, Tryz.func111.trans (congrArg some (by kernel_rfl))⟩
  f14 := ⟨Tryz.f112.name, by decide, Tryz.func112.trans (congrArg some (by kernel_rfl))⟩
  f15 := ⟨Tryz.f113.name, by decide, Tryz.func113.trans (congrArg some (by kernel_rfl))⟩
  f16 := ⟨Tryz.f103.name, by decide, Tryz.func103.trans (congrArg some (by kernel_rfl))⟩
  f17 := ⟨Tryz.f114.name, by decide, Tryz.func114.trans (congrArg some (by kernel_rfl))⟩
  f18 := ⟨Tryz.f115.name, by decide, Tryz.func115.trans (congrArg some (by kernel_rfl))⟩
  f19 := Tryz.func116.trans (congrArg some (by kernel_rfl))
  f20 := Tryz.func117.trans (congrArg some (by kernel_rfl))
  f30 := ⟨Tryz.f119.name, by decide, Tryz.func119.trans (congrArg some (by kernel_rfl))⟩
  f31 := Tryz.func120.trans (congrArg some (by kernel_rfl))
  f32 := Tryz.func121.trans (congrArg some (by kernel_rfl))
  f33 := ⟨Tryz.f122.name, by decide, Tryz.func122.trans (congrArg some (by kernel_rfl))⟩
  f34 := ⟨Tryz.f123.name, by decide, Tryz.func123.trans (congrArg some (by kernel_rfl))⟩
  f35 := ⟨Tryz.f102.name, by decide, Tryz.func102.trans (congrArg some (by kernel_rfl))⟩
  f40 := ⟨Tryz.f124.name, by decide, Tryz.func124.trans (congrArg some (by kernel_rfl))⟩
  t0 := Tryz.underlying0
  a0 := Tryz.isAgg0
  z0 := Tryz.sizeOf0
  v0 := Tryz.zeroValue0
  t3 := Tryz.underlying3
  a3 := Tryz.isAgg3
  z3 := Tryz.sizeOf3
  v3 := Tryz.zeroValue3
  t4 := Tryz.underlying4
  a4 := Tryz.isAgg4
  z4 := Tryz.sizeOf4
  v4 := Tryz.zeroValue4
  t5 := Tryz.underlying5
  a5 := Tryz.isAgg5
  z5 := Tryz.sizeOf5
  v5 := Tryz.zeroValue5
  t9 := Tryz.underlying9
  a9 := Tryz.isAgg9
  z9 := Tryz.sizeOf9
  v9 := Tryz.zeroValue9
  t22 := Tryz.underlying27
  a22 := Tryz.isAgg27
  z22 := Tryz.sizeOf27
  v22 := Tryz.zeroValue27
  t23 := Tryz.underlying27
  a23 := Tryz.isAgg27
  z23 := Tryz.sizeOf27
  v23 := Tryz.zeroValue27
  t25 := Tryz.underlying2
  a25 := Tryz.isAgg2
  z25 := Tryz.sizeOf2
  v25 := Tryz.zeroValue2
  t32 := Tryz.underlying111
  a32 := Tryz.isAgg111
  z32 := Tryz.sizeOf111
  v32 := Tryz.zeroValue111
  t35 := Tryz.underlying148
  a35 := Tryz.isAgg148
  z35 := Tryz.sizeOf148
  v35 := Tryz.zeroValue148
  t36 := Tryz.underlying149
  a36 := Tryz.isAgg149
  z36 := Tryz.sizeOf149
  v36 := Tryz.zeroValue149
  t41 := Tryz.underlying153
  a41 := Tryz.isAgg153
  z41 := Tryz.sizeOf153
  v41 := Tryz.zeroValue153
  t44 := Tryz.underlying156
  a44 := Tryz.isAgg156
  z44 := Tryz.sizeOf156
  v44 := Tryz.zeroValue156
  t46 := Tryz.underlying76
  a46 := Tryz.isAgg76
  z46 := Tryz.sizeOf76
  v46 := Tryz.zeroValue76
  t53 := Tryz.underlying158
  a53 := Tryz.isAgg158
  z53 := Tryz.sizeOf158
  v53 := Tryz.zeroValue158
  t57 := Tryz.underlying162
  a57 := Tryz.isAgg162
  z57 := Tryz.sizeOf162
  v57 := Tryz.zeroValue162
  t63 := Tryz.underlying164
  a63 := Tryz.isAgg164
  z63 := Tryz.sizeOf164
  v63 := Tryz.zeroValue164
  t64 := Tryz.underlying165
  a64 := Tryz.isAgg165
  z64 := Tryz.sizeOf165
  v64 := Tryz.zeroValue165 }
end Go.Proofs

/-
  slices.AppendSeq over the iterator that slices.Values hands back: a new list with the same numbers. No condition.
-/
namespace Go.Proofs.YtbhiaccbpbnbmaaGreat
open Go.RowKit Go.Maps Go.Sort Go.Shelf Go.Proofs
attribute [local go_sem] Oper.semAt_some
set_option maxRecDepth 100000
set_option maxHeartbeats 2000000

/-- The iterator over a list that has elements, for rounds that leave the list alone. -/
theorem values1 (F : Fence) (n : Nat) (h7 : F.fn 99) (hro : F.round = none) (hn : 1 ≤ n) (l Bs Bo b off cap : Nat) (zs : List Int) (hreach : zs.length * 8 ≤ 140737488351232) (J : List Int → World → Prop)
    (hJc : ∀ pre W, J pre W → ∀ j (hj : j < zs.length), W.cell? ⟨b, off + j, none⟩ = some (.int .i64 zs[j]))
    (hY : ∀ pre x W, J pre W → pre.length < zs.length → YieldAt F (n - 1) Tryz.prog l #[.int .i64 x] W fun e W' => e = .returned (.bool true) ∧ J (pre ++ [x]) W' ∧ KeepsWalks W W')
    (W : World) (hBs : W.cell? ⟨Bs, Bo, none⟩ = some (.slice (some ⟨b, off, none⟩) zs.length cap)) (h0 : J [] W) :
    CallsIn F n Tryz.prog 99 #[.func (.yield l) #[] #[], .pointer (some ⟨Bs, Bo, none⟩)] W fun e W' => (∃ v, e = .returned v) ∧ J zs W' := by
  refine callsIn_of_wp Tryz.func99 rfl h7 ?_ hro
  simp only [Tryz.ntmps99, List.size_toArray, List.length_cons, List.length_nil, Nat.reduceAdd, Nat.reduceSub, Array.replicate_succ, Array.replicate_zero, List.push_toArray, List.append_toArray, List.nil_append, List.cons_append]
  gi_wp2
  gi_loopw [7] (fun i wr => ∃ k : Nat, k ≤ zs.length ∧ i = .int .i64 k ∧ J (zs.take k) wr)
    (fun i _ => zs.length - (intOf i).toNat)
  case atStart => exact ⟨0, Nat.zero_le _, rfl, h0⟩
  case round =>
    obtain ⟨k, hk, rfl, hJs⟩ := hrel
    by_cases hlt : k < zs.length
    · obtain ⟨fn, tmps, assign, body, hy, hR⟩ := hY _ (zs[k]) wr hJs (by rw [List.length_take]; omega)
      have hcx' : wr.cell? ⟨b, off + k, none⟩ = some (.int .i64 zs[k]) := hJc _ _ hJs k hlt
      gi_wp2
      refine hR.mono ?_
      rintro e W3 ⟨rfl, hJ3, hk3⟩
      gi_wp2
      go_roundw
      case rel => exact ⟨k + 1, by omega, by simp, by rw [List.take_succ_eq_append_getElem hlt]; exact hJ3⟩
      case measure => simp [intOf]; omega
    · obtain rfl : k = zs.length := by omega
      gi_wp2
      go_end0
      exact ⟨⟨_, rfl⟩, by rw [List.take_length] at hJs; exact hJs⟩
/-- .. over a list without elements: no round. -/
theorem values0 (F : Fence) (n : Nat) (h7 : F.fn 99) (hro : F.round = none) (l Bs Bo cap : Nat) (a : Option Addr) (J : List Int → World → Prop) (W : World) (hBs : W.cell? ⟨Bs, Bo, none⟩ = some (.slice a 0 cap)) (h0 : J [] W) :
    CallsIn F n Tryz.prog 99 #[.func (.yield l) #[] #[], .pointer (some ⟨Bs, Bo, none⟩)] W fun e W' => (∃ v, e = .returned v) ∧ J [] W' := by
  refine callsIn_of_wp Tryz.func99 rfl h7 ?_ hro
  simp only [Tryz.ntmps99, List.size_toArray, List.length_cons, List.length_nil, Nat.reduceAdd, Nat.reduceSub, Array.replicate_succ, Array.replicate_zero, List.push_toArray, List.append_toArray, List.nil_append, List.cons_append]
  gi_wp2
  gi_loopw [7] (fun i wr => i = .int .i64 0 ∧ J [] wr) (fun _ _ => 0)
  case atStart => exact ⟨rfl, h0⟩
  case round =>
    obtain ⟨rfl, hJs⟩ := hrel
    gi_wp2
    go_end0
    exact ⟨⟨_, rfl⟩, hJs⟩

/-- What stands in memory for a list: nothing is asked where it has no elements. -/
def CellsOf (w : World) (a : Option Addr) (zs : List Int) : Prop := zs = [] ∨ ∃ b off, a = some ⟨b, off, none⟩ ∧ b < w.heap.size ∧ ∀ j (hj : j < zs.length), w.cell? ⟨b, off + j, none⟩ = some (.int .i64 zs[j])
/-- Either way. -/
theorem valuesJ (F : Fence) (n : Nat) (h7 : F.fn 99) (hro : F.round = none) (hn : 1 ≤ n) (l Bs Bo cap : Nat) (a : Option Addr) (zs : List Int) (hreach : zs.length * 8 ≤ 140737488351232) (J : List Int → World → Prop) (w : World) (hc : CellsOf w a zs)
    (hJb : ∀ pre W, J pre W → Below w.heap.size w W)
    (hY : ∀ pre x W, J pre W → pre.length < zs.length → YieldAt F (n - 1) Tryz.prog l #[.int .i64 x] W fun e W' => e = .returned (.bool true) ∧ J (pre ++ [x]) W' ∧ KeepsWalks W W')
    (W : World) (hBs : W.cell? ⟨Bs, Bo, none⟩ = some (.slice a zs.length cap)) (h0 : J [] W) :
    CallsIn F n Tryz.prog 99 #[.func (.yield l) #[] #[], .pointer (some ⟨Bs, Bo, none⟩)] W fun e W' => (∃ v, e = .returned v) ∧ J zs W' := by
  rcases hc with rfl | ⟨b, off, rfl, hb, hcs⟩
  · exact values0 F n h7 hro l Bs Bo cap a J W hBs h0
  · exact values1 F n h7 hro hn l Bs Bo b off cap zs hreach J (fun pre W' hJ j hj => ((hJb pre W' hJ).cell (p := ⟨b, off + j, none⟩) hb).trans (hcs j hj)) hY W hBs h0

/-- slices.AppendSeq(nil, ..) of such an iterator. -/
theorem appendSeqV (a : Option Addr) (cap Bs Bo : Nat) (zs : List Int) (w : World) (hBl : Bs < w.heap.size) (hBs : w.cell? ⟨Bs, Bo, none⟩ = some (.slice a zs.length cap)) (hz : zs.length * 8 ≤ 140737488351232) (hc : CellsOf w a zs) :
    CallsIn Fence.wide 10 Tryz.prog 104 #[.slice none 0 0, .func (.func 99) #[] #[.pointer (some ⟨Bs, Bo, none⟩)]] w fun e w' =>
      ∃ v, e = .returned v ∧ w'.ownsRow w.heap.size 2 1 v zs.length (zs.map encZ) ∧ (v = .slice none 0 0 ↔ zs = []) ∧ Below w.heap.size w w' := by
  have L : SlLaysZI.n11 Tryz.prog Tryz.sortedI_ren := { Tryz.sortedI with }
  have hne : Tryz.sortedI_ren.t 24 ≠ Tryz.sortedI_ren.t 26 := fun e => by have h := L.t24; rw [e, L.t26] at h; cases h
  have eg : ∀ args w, (callFunc 99 args).run Tryz.prog w = .ok (.enter 99 args) w := enters_of Tryz.func99 (by kernel_rfl) rfl
  obtain ⟨sv, hsv⟩ : ∃ sv : Value, Value.func (.func 99) #[] #[.pointer (some ⟨Bs, Bo, none⟩)] = sv := ⟨_, rfl⟩
  rw [hsv]
  refine callsIn_of_wp_marks Tryz.func104 rfl trivial ?_ rfl
  simp only [Tryz.ntmps104, List.size_toArray, List.length_cons, List.length_nil, Nat.reduceAdd, Nat.reduceSub, Array.replicate_succ, Array.replicate_zero, List.push_toArray, List.append_toArray, List.nil_append, List.cons_append]
  gi_wp2
  refine wpIn_rangeFunc ?_
  intro fn hfn
  obtain ⟨W0, hW0⟩ : ∃ W0, w.alloc (.cells #[.slice none 0 0] 27) = W0 := ⟨_, rfl⟩
  have hs0 : W0.heap.size = w.heap.size + 1 := by rw [← hW0]; simp
  have hv0 : W0.heap[w.heap.size]? = some (.cells #[.slice none 0 0] 27 (0, 0)) := by rw [← hW0]; exact World.alloc_heap_new w _
  have hb0 : Below w.heap.size w W0 := by rw [← hW0]; exact (Below.refl _ w).alloc (Nat.le_refl _) _
  rw [hW0]
  obtain ⟨W1, hW1⟩ : ∃ W1, (W0.alloc (.deferred (some []))).alloc (.loop (AnyZI.apRec Tryz.sortedI_ren fn sv w.heap.size W0.heap.size .ready none)) = W1 := ⟨_, rfl⟩
  have hold : ∀ k, k < W0.heap.size → W1.heap[k]? = W0.heap[k]? := fun k hk => by
    rw [← hW1]; exact (Below.heap_alloc _ _ k (by simp; omega)).trans (Below.heap_alloc _ _ k hk)
  have hb1 : Below w.heap.size w W1 := by rw [← hW1]; exact (hb0.alloc hb0.size _).alloc (by have := hb0.size; simp; omega) _
  have hs1 : W1.heap.size = W0.heap.size + 2 := by rw [← hW1]; simp
  have hM : AnyZI.ApAt Tryz.sortedI_ren w fn sv w.heap.size (W0.heap.size + 1) W0.heap.size [] W1 :=
    ⟨⟨_, (hold w.heap.size (by omega)).trans hv0, ⟨rfl, .inl ⟨rfl, rfl⟩⟩, by simp⟩,
     by rw [← hW1]; have := World.alloc_heap_new (W0.alloc (.deferred (some []))) (.loop (AnyZI.apRec Tryz.sortedI_ren fn sv w.heap.size W0.heap.size .ready none)); rwa [World.size_alloc] at this,
     by rw [← hW1]; exact (Below.heap_alloc _ _ _ (by simp)).trans (World.alloc_heap_new W0 _), hb1⟩
  refine ⟨W0.heap.size + 1, [{ target := .collected W0.heap.size, args := #[] }], W1, { target := .fn (.func 99) #[.pointer (some ⟨Bs, Bo, none⟩)], args := #[.func (.yield (W0.heap.size + 1)) #[] #[]] }, W1, 99,
    #[.func (.yield (W0.heap.size + 1)) #[] #[]] ++ #[.pointer (some ⟨Bs, Bo, none⟩)], W1, ?_, ?_, ?_, ?_, fun _ => (by omega : 1 ≤ 10), ?_⟩
  · rw [← hW1]; exact run_enterLoop_outer _ _ _ _ _
  · rw [← hsv]; simp [resolve, go_sem]
  · intro f' hf'; exact trivial
  · simp [invoke, go_sem, eg]
  · have hBs1 : W1.cell? ⟨Bs, Bo, none⟩ = some (.slice a zs.length cap) := (hb1.cell (p := ⟨Bs, Bo, none⟩) hBl).trans hBs
    refine (valuesJ Fence.wide (10 - 1) trivial rfl (by omega) (W0.heap.size + 1) Bs Bo cap a zs hz (AnyZI.ApAt Tryz.sortedI_ren w fn sv w.heap.size (W0.heap.size + 1) W0.heap.size) w hc (fun pre W hJ => hJ.below)
      (fun pre x W hJ hl => AnyZI.apYield L Fence.wide (10 - 1 - 1) w fn trivial sv w.heap.size (W0.heap.size + 1) W0.heap.size (by omega) (by omega) (by omega) (Nat.le_refl _) (by omega) zs.length (by unfold maxLen; omega) (by omega) pre x W hJ hl) W1 hBs1 hM).mono ?_
    rintro e W2 ⟨⟨v0, rfl⟩, h2⟩
    obtain ⟨v, hv, hrow, hnil⟩ := h2.box
    have hend := run_endLoop (P := Tryz.prog) h2.L (by simp [AnyZI.apRec])
    obtain ⟨W3, hW3⟩ : ∃ W3, W2.putObj (W0.heap.size + 1) (.loop { AnyZI.apRec Tryz.sortedI_ren fn sv w.heap.size W0.heap.size .ready none with state := .exhausted }) = W3 := ⟨_, rfl⟩
    rw [hW3] at hend
    have hg3 : W2.grownBy W3 (some (W0.heap.size + 1)) := by rw [← hW3]; exact grownBy_putObj_a _ _ _
    have hv3 : W3.heap[w.heap.size]? = some (.cells #[v] (Tryz.sortedI_ren.t 24) (0, 0)) := by rw [← hW3]; exact (World.putObj_heap_other (by omega)).trans hv
    have hK3 : W3.heap[W0.heap.size]? = some (.deferred (some [])) := by rw [← hW3]; exact (World.putObj_heap_other (by omega)).trans h2.K
    have hrow3 := hrow.kept hg3 (ownsRow_ne_a hrow h2.L (fun cur e => by first | cases e | exact hne (Obj.cells.inj e).2.1))
    have hb3 : Below w.heap.size w W3 := h2.below.grown hg3 h2.below.size (fun k e => by cases e; omega)
    obtain ⟨hc3, hf3⟩ := cell_of_box_a hv3
    clear hW3
    refine ⟨none, W3, hend, ?_⟩
    gi_wp2
    rw [← hs0]
    refine ⟨by simp, .inl ⟨_, _, rfl, run_takeDeferred hK3, ?_⟩⟩
    exact ⟨_, results_tmp rfl _ _ _, v, rfl, hrow3.kept (grownBy_putObj_a _ _ _) (ownsRow_ne_a hrow3 hK3 (fun cur e => by first | cases e | exact hne (Obj.cells.inj e).2.1)), hnil, hb3.grown (grownBy_putObj_a _ _ _) hb3.size (fun k e => by cases e; omega)⟩
/-- slices.Collect of such an iterator. -/
theorem collectV (a : Option Addr) (cap Bs Bo : Nat) (zs : List Int) (w : World) (hBl : Bs < w.heap.size) (hBs : w.cell? ⟨Bs, Bo, none⟩ = some (.slice a zs.length cap)) (hz : zs.length * 8 ≤ 140737488351232) (hc : CellsOf w a zs) :
    Calls Tryz.prog 97 #[.func (.func 99) #[] #[.pointer (some ⟨Bs, Bo, none⟩)]] w fun e w' =>
      ∃ v, e = .returned v ∧ w'.ownsRow w.heap.size 2 1 v zs.length (zs.map encZ) ∧ (v = .slice none 0 0 ↔ zs = []) ∧ Below w.heap.size w w' := by
  refine (callsIn_wide (n := 11)).1 ?_
  have hA := appendSeqV a cap Bs Bo zs w hBl hBs hz hc
  have hF : Fence.wide.fn 104 := trivial
  refine callsIn_of_wp Tryz.func97 rfl trivial ?_ rfl
  simp only [Tryz.ntmps97, List.size_toArray, List.length_cons, List.length_nil, Nat.reduceAdd, Nat.reduceSub, Array.replicate_succ, Array.replicate_zero, List.push_toArray, List.append_toArray, List.nil_append, List.cons_append]
  gi_wp2_with (gi_at_call 104; refine hA.mono ?_; rintro e w' ⟨v, rfl, hrow, hnil, hb⟩)
  go_ret
  exact ⟨v, rfl, hrow, hnil, hb⟩
end Go.Proofs.YtbhiaccbpbnbmaaGreat

/-
  Sorted lists: slices.Collect over slices.Values, and slices.Sort, as calls over data. No condition.
-/
namespace Go.Proofs.YtbhiaccbpbnbmaaGreat
open Go.AI Go.RowKit
set_option maxRecDepth 8000
set_option maxHeartbeats 1600000

/-- A new block of the call's own, wherever beyond what stood. -/
theorem chg_at {h : Heap} {w w' : World} (H : HeapOk h w) {g T room : Nat} {vs rest : List Value} {cs : List A} (hb : Below w.heap.size w w') (hg : w.heap.size ≤ g) (hw : w'.heap[g]? = some (.cells (vs ++ rest).toArray T (0, 0))) (hr : RelL (Im w h) w cs vs) (hroom : room = (vs ++ rest).length) :
    Chg h (⟨some g, T, room, cs⟩ :: h) w w' := by
  have hx : Ext [] w w' := ⟨hb.os, hb.tape, hb.output, hb.size, fun k hk _ => hb.block k hk⟩
  have im : ∀ b, Im w h b → Im w' (⟨some g, T, room, cs⟩ :: h) b ∧ w'.heap[b]? = w.heap[b]? := fun b hb =>
    ⟨⟨Nat.lt_of_lt_of_le hb.1 hx.size, by
      simp only [keys, List.filterMap_cons, List.mem_cons, not_or]
      exact ⟨by have := hb.1; omega, hb.2⟩⟩, hx.block b hb.1 (by simp)⟩
  refine ⟨hx.os, hx.tape, hx.output, hx.size, fun k hk _ => hx.block k hk (by simp), fun b hb => ?_, ⟨?_, fun k hk => ?_, H.tab.stab im⟩⟩
  · simp only [keys, List.filterMap_cons, List.mem_cons] at hb
    rcases hb with rfl | hb
    · exact .inr hg
    · exact .inl hb
  · simp only [keys, List.filterMap_cons, List.nodup_cons]
    exact ⟨fun hm => by have := H.lt hm; omega, H.nodup⟩
  · rcases List.mem_cons.1 hk with rfl | hk
    · exact ⟨vs, rest, hw, hr.stab im, hroom⟩
    · exact (H.blk k hk).stab im fun b hb => hx.block b (H.lt (mem_keys hk hb)) (by simp)
theorem chg_none {h : Heap} {w w' : World} (c : Chg h h w w') {T room : Nat} (hr : room = 0) : Chg h (⟨none, T, room, []⟩ :: h) w w' :=
  ⟨c.os, c.tape, c.output, c.size, c.block, c.new, ⟨c.heap.nodup, fun k hk => by
    rcases List.mem_cons.1 hk with rfl | hk
    · exact ⟨rfl, RoomOk.zero hr⟩
    · exact c.heap.blk k hk, c.heap.tab.stab fun _ hb => ⟨hb, rfl⟩⟩⟩
theorem flat_encI : ∀ l : List Int, (l.map Go.AI.encI).flatten = l.map A.int
  | [] => rfl
  | x :: l => by rw [List.map_cons, List.flatten_cons, flat_encI l]; rfl
theorem relL_ints {S : Nat → Prop} {w : World} {l : List Int} (h : ∀ x ∈ l, InR x) : RelL S w ((l.map Go.AI.encI).flatten) (l.map (Value.int .i64)) := by
  rw [flat_encI]
  refine ⟨by simp, fun j hj hj' => ?_⟩
  simp only [List.getElem_map]
  exact .int _ (h _ (List.getElem_mem _))
theorem relL_ints_inv {S : Nat → Prop} {w : World} : ∀ {l : List Int} {vs : List Value}, RelL S w ((l.map Go.AI.encI).flatten) vs → vs = l.map (Value.int .i64) ∧ ∀ x ∈ l, InR x
  | [], vs, r => ⟨List.eq_nil_of_length_eq_zero r.1, fun _ h => by simp at h⟩
  | x :: l, vs, r => by
    obtain ⟨v, us, rfl, h1, h2⟩ := r.uncons
    obtain ⟨rfl, hx⟩ := h1.int_inv
    obtain ⟨rfl, ht⟩ := relL_ints_inv (l := l) h2
    exact ⟨rfl, fun y hy => by
      rcases List.mem_cons.1 hy with rfl | hy
      · exact hx
      · exact ht y hy⟩
/-- A block is written. -/
theorem chg_write {F : Heap} {w w' : World} {b T room : Nat} {cs cs' : List A} {vs rest : List Value} (H : HeapOk (⟨some b, T, room, cs⟩ :: F) w) (hg : w.grownBy w' (some b)) (hw : w'.heap[b]? = some (.cells (vs ++ rest).toArray T (0, 0))) (hr : RelL (Im w (⟨some b, T, room, cs⟩ :: F)) w cs' vs) (hroom : room = (vs ++ rest).length) :
    Chg (⟨some b, T, room, cs⟩ :: F) (⟨some b, T, room, cs'⟩ :: F) w w' := by
  obtain ⟨g1, g2, g3, g4, g5⟩ := hg
  have hk : keys (⟨some b, T, room, cs⟩ :: F) = b :: keys F := by simp [keys]
  have hk' : keys (⟨some b, T, room, cs'⟩ :: F) = b :: keys F := by simp [keys]
  have im : ∀ k, Im w (⟨some b, T, room, cs⟩ :: F) k → Im w' (⟨some b, T, room, cs'⟩ :: F) k ∧ w'.heap[k]? = w.heap[k]? := fun k hb =>
    ⟨⟨Nat.lt_of_lt_of_le hb.1 g4, by rw [hk', ← hk]; exact hb.2⟩, g5 k hb.1 (fun e => hb.2 (by rw [hk]; cases e; exact List.mem_cons_self))⟩
  have nd := H.nodup
  rw [hk, List.nodup_cons] at nd
  refine ⟨g1, g2, g3, g4, fun k h1 h2 => g5 k h1 (fun e => h2 (by rw [hk]; cases e; exact List.mem_cons_self)), fun k h1 => .inl (by rw [hk]; rw [hk'] at h1; exact h1), ⟨by rw [hk', List.nodup_cons]; exact nd, fun k h1 => ?_, H.tab.stab im⟩⟩
  rcases List.mem_cons.1 h1 with rfl | h1
  · exact ⟨vs, rest, hw, hr.stab im, hroom⟩
  · exact (H.blk k (List.mem_cons_of_mem _ h1)).stab im fun c hc => g5 c (H.lt (mem_keys (List.mem_cons_of_mem _ h1) hc)) (fun e => nd.1 (by cases e; exact mem_keys h1 hc))
theorem o_collectV (l : List Int) (hl : l.length ≤ 100000000) : Does Tryz.prog 97 [.fn 99 [.ip [.sl (l.map Go.AI.encI)]]] [] (OwnL l) := by
  refine ⟨⟨Tryz.f97, Tryz.func97, by decide, by rfl⟩, fun F w vs hrel hh => ?_⟩
  obtain ⟨v1, us, rfl, h1, h2⟩ := hrel.uncons
  obtain rfl : us = [] := List.eq_nil_of_length_eq_zero h2.1
  obtain ⟨cs, rfl, rc⟩ := h1.fn_inv
  obtain ⟨vp, us2, rfl, hp, h4⟩ := rc.uncons
  obtain rfl : us2 = [] := List.eq_nil_of_length_eq_zero h4.1
  obtain ⟨b, o, V, rfl, hS, hc1, hr1⟩ := hp.ip_inv
  obtain ⟨a, cap, eV, hlen, hcap, hel⟩ := (hr1 0 (by simp)).sl_inv
  have hB := hc1 0 (by simp)
  rw [eV] at hB
  rw [List.length_map] at hB
  have hcs : (∀ x ∈ l, InR x) ∧ CellsOf w a l := by
    by_cases hn : l = []
    · subst hn; exact ⟨fun _ h => by simp at h, .inl rfl⟩
    · obtain ⟨b2, off, sz, V2, rfl, hS2, hsz, hc2, hr2⟩ := hel (by simpa using hn)
      have h0 : 0 < (l.map Go.AI.encI).length := by rw [List.length_map]; exact Nat.pos_of_ne_zero (fun q => hn (List.eq_nil_of_length_eq_zero q))
      have hs1 : sz = 1 := by
        have := hsz 0 h0
        simpa [Go.AI.encI] using this.symm
      subst hs1
      have key : ∀ j (hj : j < l.length), V2 j 0 = .int .i64 l[j] ∧ InR l[j] := fun j hj => by
        have hj2 : j < (l.map Go.AI.encI).length := by simpa using hj
        have h6 := hr2 j 0 hj2 (by rw [hsz j hj2]; decide)
        simp only [List.getElem_map, Go.AI.encI, List.getElem_cons_zero] at h6
        exact h6.int_inv
      refine ⟨fun x hx => ?_, .inr ⟨b2, off, rfl, hS2.1, fun j hj => ?_⟩⟩
      · obtain ⟨i, hi, rfl⟩ := List.getElem_of_mem hx
        exact (key i hi).2
      · have h5 := hc2 j 0 (by simpa using hj) (by decide)
        rw [Nat.mul_one, Nat.add_zero] at h5
        rw [h5, (key j hj).1]
  refine (collectV a cap b (o + 0) l w hS.1 hB (by omega) hcs.2).mono fun e w' ⟨v, e1, hrow, hnil, hb⟩ => ?_
  have hx : Ext [] w w' := ⟨hb.os, hb.tape, hb.output, hb.size, fun k hk _ => hb.block k hk⟩
  rcases hrow.2 with ⟨rfl, hz⟩ | ⟨g, cp, cur, rfl, hge, hgb, h5, h6, h7, h8⟩
  · obtain rfl : l = [] := List.eq_nil_of_length_eq_zero hz
    exact ⟨_, .os none 0 0, [⟨none, 2, 0 * 1, []⟩], e1, ⟨none, 0, rfl, rfl⟩, chg_none (Chg.ofExt hh hx) rfl, .osn none⟩
  · have hcur : cur = ((l.map (Value.int .i64)) ++ cur.toList.drop l.length).toArray := by
      apply Array.ext'
      have e8 : cur.toList.take l.length = l.map (Value.int .i64) := by rw [Nat.mul_one] at h8; exact h8
      rw [List.toList_toArray, ← e8, List.take_append_drop]
    have hln : (l.map (Value.int .i64) ++ cur.toList.drop l.length).length = cp * 1 := by
      have := congrArg Array.size hcur
      simp only [List.size_toArray] at this
      omega
    rw [hcur] at hgb
    exact ⟨_, .os (some g) l.length cp, [⟨some g, 2, cp * 1, (l.map Go.AI.encI).flatten⟩], e1, ⟨some g, cp, rfl, rfl⟩, chg_at hh hb hge hgb (relL_ints hcs.1) hln.symm, .os g l.length cp (by unfold maxLn; omega)⟩
def sortI (l : List Int) : List Int := l.mergeSort fun x y => decide (x ≤ y)
theorem o_slSort (l : List Int) (b : Option Nat) (cap : Nat) (hl : l.length ≤ 100000000) : Does Tryz.prog 98 [.os b l.length cap] [⟨b, 2, cap * 1, (l.map Go.AI.encI).flatten⟩]
    (fun v h' => v = .tup [] ∧ h' = [⟨b, 2, cap * 1, ((sortI l).map Go.AI.encI).flatten⟩]) := by
  refine ⟨⟨Tryz.f98, Tryz.func98, by decide, by rfl⟩, fun F w vs hrel hh => ?_⟩
  obtain ⟨v1, us, rfl, h1, h2⟩ := hrel.uncons
  obtain rfl : us = [] := List.eq_nil_of_length_eq_zero h2.1
  cases b with
  | none =>
    obtain ⟨h3, rfl, a, rfl⟩ := h1.osn_inv
    obtain rfl : l = [] := List.eq_nil_of_length_eq_zero h3
    refine (Go.Proofs.AnyM.slices_Sort_int_none Tryz.sortI a 0 w).mono fun e w' ⟨e1, e2⟩ => ⟨_, .tup [], _, e1, ⟨rfl, rfl⟩, ?_, .tup [] [] rfl (fun j hj => absurd hj (Nat.not_lt_zero _))⟩
    subst e2; rw [show sortI [] = [] from by simp [sortI]]; exact Chg.refl hh
  | some b =>
    obtain ⟨rfl, _⟩ := h1.os_inv
    obtain ⟨vs, rest, hb, hr, hroom⟩ := hh.at (List.mem_append_left F List.mem_cons_self)
    obtain ⟨rfl, hin⟩ := relL_ints_inv hr
    have hbl := (Array.getElem?_eq_some_iff.1 hb).1
    have hH := Go.holds_of_blockI (ss := l) hb (by rw [List.toList_toArray, List.take_append_of_le_length (by simp), List.take_of_length_le (by simp)])
    have hsl : (sortI l).length = l.length := List.length_mergeSort _
    refine (Go.Proofs.AnyM.slices_Sort_int Tryz.sortI b 0 cap l w hH hbl (by omega)).mono fun e w' ⟨e1, n, os, e2⟩ => ⟨_, .tup [], _, e1, ⟨rfl, rfl⟩, ?_, .tup [] [] rfl (fun j hj => absurd hj (Nat.not_lt_zero _))⟩
    have hg := Go.grownBy_sortedI (w := w) (g := b) (n := n) (os := os) (sortI l).toArray
    have hw' := Go.heap_sortedI (n := n) (os := os) (sortI l).toArray hb
    rw [show (Go.Sort.grow (Go.Sort.putRow (Value.int .i64) (Go.Sort.ahead w n) b 0 (sortI l).toArray) os) = w' from e2.symm] at hg hw'
    have hT := Go.take_putCellsI ((List.map (Value.int IntKind.i64) l ++ rest).toArray) (sortI l) (by simp; omega)
    have hsz : (Go.Sort.putCells (Value.int IntKind.i64) 0 (sortI l).toArray (List.map (Value.int IntKind.i64) l ++ rest).toArray).size = cap * 1 := by rw [hroom]; simp [Go.Sort.putCells]
    generalize Go.Sort.putCells (Value.int IntKind.i64) 0 (sortI l).toArray (List.map (Value.int IntKind.i64) l ++ rest).toArray = X at hT hw' hsz
    have hX : X = ((sortI l).map (Value.int .i64) ++ X.toList.drop (sortI l).length).toArray := by
      apply Array.ext'
      rw [List.toList_toArray, ← hT, List.take_append_drop]
    rw [hX] at hw'
    refine chg_write hh hg hw' (relL_ints fun x hx => hin x (List.mem_mergeSort.1 hx)) ?_
    have := congrArg Array.size hX
    simp only [List.size_toArray] at this
    omega
end Go.Proofs.YtbhiaccbpbnbmaaGreat

/-
  What grows in a cell: the program's sorted lists and the reference's. No condition.
-/
namespace Go.Proofs.YtbhiaccbpbnbmaaGreat
open Go.AI
set_option maxRecDepth 8000
set_option maxHeartbeats 1600000

theorem occ_count (x : Int) : ∀ l : List Int, occ x l = ((l.count x : Nat) : Int)
  | [] => rfl
  | y :: l => by
    have ih := occ_count x l
    rw [occ_cons7, ih, List.count_cons]
    by_cases e : y = x
    · subst e; rw [if_pos rfl, if_pos (by simp)]; omega
    · rw [if_neg e, if_neg (by simpa using e)]; omega
theorem srtTo_count (l : List Int) (x : Int) : ∀ k : Nat, (srtTo l k).count x = if 0 ≤ x ∧ x < k then l.count x else 0
  | 0 => by rw [if_neg (by omega)]; simp [srtTo]
  | k + 1 => by
    rw [srtTo_succ, List.count_append, srtTo_count l x k, List.count_replicate, occ_count, Int.toNat_natCast]
    by_cases e : (k : Int) = x
    · subst e; rw [if_neg (by omega), if_pos (by simp), if_pos (by omega)]; omega
    · have e2 : ((k : Int) == x) = false := by simpa using e
      rw [e2]
      simp only [Bool.false_eq_true, if_false, Nat.add_zero]
      by_cases q : 0 ≤ x ∧ x < k
      · rw [if_pos q, if_pos (by omega)]
      · rw [if_neg q, if_neg (by omega)]
theorem srtTo_low (l : List Int) : ∀ k : Nat, ∀ x ∈ srtTo l k, x < k
  | 0, x, h => by simp [srtTo] at h
  | k + 1, x, h => by
    rw [srtTo_succ, List.mem_append] at h
    rcases h with h | h
    · have := srtTo_low l k x h; omega
    · have := List.eq_of_mem_replicate h; omega
theorem srtTo_sorted (l : List Int) : ∀ k : Nat, (srtTo l k).Pairwise (fun a b => a ≤ b)
  | 0 => by simp [srtTo]
  | k + 1 => by
    rw [srtTo_succ, List.pairwise_append]
    refine ⟨srtTo_sorted l k, List.pairwise_replicate.2 (.inr (Int.le_refl _)), fun a ha b hb => ?_⟩
    have := srtTo_low l k a ha
    have := List.eq_of_mem_replicate hb
    omega
theorem sortI_sorted (l : List Int) : (sortI l).Pairwise (fun a b => a ≤ b) := by
  have := List.pairwise_mergeSort (le := fun x y : Int => decide (x ≤ y)) (fun a b c h1 h2 => by simp at *; omega) (fun a b => by simp; omega) l
  exact this.imp fun h => by simpa using h
theorem sortI_perm (l : List Int) : (sortI l).Perm l := List.mergeSort_perm _ _
/-- Counting is sorting. -/
theorem srt_sort {o : Int} {l : List Int} (ho : 1 ≤ o) (hr : ∀ x ∈ l, 0 ≤ x ∧ x ≤ o - 1) : srtL o l = sortI l := by
  refine List.Perm.eq_of_pairwise (le := fun a b : Int => a ≤ b) (fun a b _ _ h1 h2 => by omega) (srtTo_sorted l _) (sortI_sorted l) ?_
  refine List.Perm.trans ?_ (sortI_perm l).symm
  refine List.perm_iff_count.2 fun x => ?_
  unfold srtL
  rw [srtTo_count]
  by_cases q : 0 ≤ x ∧ x < (o.toNat : Int)
  · rw [if_pos q]
  · rw [if_neg q]
    refine (List.count_eq_zero.2 fun hx => q ?_).symm
    have := hr x hx
    omega
theorem c_slValues (l : List Int) : Gives Tryz.prog 87 [.sl (l.map Go.AI.encI)] (.fn 99 [.ip [.sl (l.map Go.AI.encI)]]) := by
  refine fn_of_run tyOk ztOk mix Tryz.func87 rfl (by decide) Tryz.ntmps87 (fun w0 h => ?_)
  repeat' (first
      | (refine j_go ?_; first
        | refine j_op0 rfl rfl rfl rfl ?_ | refine j_box rfl rfl rfl rfl rfl rfl ?_)
      | refine j_nil ?_
      | (refine r_go ?_; first | refine run_seq ?_ | refine run_region ?_ | refine run_ret ?_)
      | refine seqQ_normal ?_)
  exact end1 rfl (List.Sublist.refl _) (rfl) (.inl rfl)
theorem o_slSorted (l : List Int) (hl : l.length ≤ 100000000) : Does Tryz.prog 86 [.fn 99 [.ip [.sl (l.map Go.AI.encI)]]] [] (OwnL (sortI l)) := by
  refine fn_of_runD tyOk ztOk mix Tryz.func86 rfl (by decide) Tryz.ntmps86 (fun w0 F => ?_)
  change Run _ _ _ _ _ F
  repeat' (first
      | (refine j_go ?_; first
        | refine j_op0 rfl rfl rfl rfl ?_)
      | refine j_nil ?_
      | (refine r_go ?_; first | refine run_seq ?_ | refine run_region ?_)
      | refine seqQ_normal ?_)
  refine j_kCall rfl rfl rfl rfl ?_
  refine jcp F (o_collectV l hl) (List.Perm.refl _) (LeL.refl _) rfl rfl (fun v h1 hR => ?_)
  obtain ⟨b, cp, rfl, rfl⟩ := hR
  repeat' (first
      | (refine j_go ?_; first
        | refine j_op0 rfl rfl rfl rfl ?_)
      | refine j_nil ?_
      | (refine r_go ?_; first | refine run_seq ?_ | refine run_region ?_)
      | refine seqQ_normal ?_)
  refine j_kCall rfl rfl rfl rfl ?_
  refine jcp F (o_slSort l b cp hl) (List.Perm.refl _) (LeL.refl _) rfl rfl (fun v h1 hR => ?_)
  obtain ⟨rfl, rfl⟩ := hR
  have hsl : (sortI l).length = l.length := List.length_mergeSort _
  repeat' (first
      | (refine j_go ?_; first
        | refine j_op0 rfl rfl rfl rfl ?_)
      | refine j_nil ?_
      | (refine r_go ?_; first | refine run_seq ?_ | refine run_region ?_ | refine run_ret ?_)
      | refine seqQ_normal ?_)
  exact endD_ret (h1 := [_]) rfl (.cons (.tmp rfl) .nil) (Le.refl _) ⟨b, cp, by rw [hsl]; rfl, rfl⟩ (.inl rfl)
theorem o_ordered (l : List Int) (hl : l.length ≤ 100000000) : Does Tryz.prog 62 [.sl (l.map Go.AI.encI)] [] (OwnL (sortI l)) := by
  refine fn_of_runD tyOk ztOk mix Tryz.func62 rfl (by decide) Tryz.ntmps62 (fun w0 F => ?_)
  change Run _ _ _ _ _ F
  repeat' (first
      | (refine j_go ?_; first
        | refine j_op0 rfl rfl rfl rfl ?_ | (refine j_kCall rfl rfl rfl rfl ?_; first | refine jc (c_slValues l) (LeL.refl _) rfl rfl ?_))
      | refine j_nil ?_
      | (refine r_go ?_; first | refine run_seq ?_ | refine run_region ?_)
      | refine seqQ_normal ?_)
  refine j_kCall rfl rfl rfl rfl ?_
  refine jcp F (o_slSorted l hl) (List.Perm.refl _) (LeL.refl _) rfl rfl (fun v h1 hR => ?_)
  obtain ⟨b, cp, rfl, rfl⟩ := hR
  repeat' (first
      | (refine j_go ?_; first
        | refine j_op0 rfl rfl rfl rfl ?_)
      | refine j_nil ?_
      | (refine r_go ?_; first | refine run_ret ?_)
      | refine seqQ_normal ?_)
  exact endD_ret (h1 := [_]) rfl (.cons (.tmp rfl) .nil) (Le.refl _) ⟨b, cp, rfl, rfl⟩ (.inl rfl)
theorem o_grown (d : Division) (kind charge : Int) (l : List Int) (hv : d.Valid) (hl : l.length ≤ 1100000) : Does Tryz.prog 47 [.agg (encDivision d), .int kind, .int charge, .sl (l.map Go.AI.encI)] [] (OwnL (d.grown kind charge l)) := by
  refine fn_of_runD tyOk ztOk mix Tryz.func47 rfl (by decide) Tryz.ntmps47 (fun w0 F => ?_)
  change Run _ _ _ _ _ F
  have r120 := hv.2.1
  repeat' (first
      | (refine j_go ?_; first
        | refine j_op0 rfl rfl rfl rfl ?_ | (refine j_kLen rfl ?_; first | refine j_len rfl rfl rfl rfl rfl rfl ?_) | (refine j_kBsl rfl ?_; first | refine j_bs0 rfl rfl rfl rfl rfl rfl ?_) | refine j_box rfl rfl rfl rfl rfl rfl ?_)
      | refine j_nil ?_
      | (refine r_go ?_; first | refine run_seq ?_ | refine run_region ?_ | refine run_block ?_)
      | refine seqQ_normal ?_)
  refine run_view (view_none 2 0 rfl) ?_
  refine run_loop (fun x : Nat × Option Nat × Nat => [(1, .int kind), (2, .int charge), (4, .ip (encDivision d)), (15, .sl (l.map Go.AI.encI)), (16, .int l.length), (9, .os x.2.1 (d.grown kind charge (l.take x.1)).length x.2.2), (17, .int (x.1 : Int))]) (fun x => ⟨x.2.1, 2, x.2.2 * 1, ((d.grown kind charge (l.take x.1)).map Go.AI.encI).flatten⟩ :: F)
    (fun x => x.1 ≤ l.length) (fun x => l.length - x.1) (0, none, 0) ⟨rfl, rfl, rfl, rfl, rfl, rfl, rfl, trivial⟩ rfl (Nat.zero_le _) (fun ⟨k, ob, cp⟩ kl => ?_)
  dsimp only at kl ⊢
  have gl := grown_len hv (kind := kind) (charge := charge) (l.take k)
  have tl : (l.take k).length ≤ k := List.length_take_le _ _
  by_cases hk : k < l.length
  case pos =>
    have g16 := grw_len hv (kind := kind) (charge := charge) (x := l[k])
    repeat' (first
      | (refine j_go ?_; first
        | refine j_op0 rfl rfl rfl rfl ?_ | (refine j_kIdx rfl ?_; first | refine j_idx rfl rfl rfl rfl rfl (by omega) rfl rfl rfl ?_) | (refine j_kCall rfl rfl rfl rfl ?_; first | refine jc (c_grow d kind charge l[k] r120) (LeL.refl _) rfl rfl ?_))
      | refine j_nil ?_
      | (refine r_go ?_; first | refine run_seq ?_ | refine run_region ?_ | (refine (run_if rfl (fun hb => ?_) (fun hb => ?_)) <;> first | (exfalso; omega) | skip) | refine run_block ?_ | refine run_skip ?_)
      | refine seqQ_normal ?_)
    refine j_append 0 (g := Go.AI.encI) (ys := d.grown kind charge (l.take k)) (d.grw kind charge l[k]) rfl rfl rfl rfl rfl rfl rfl rfl rfl rfl rfl rfl (fun _ => rfl) (fun _ _ => rfl) ⟨by omega, by omega⟩ rfl rfl (fun b' cap' => ?_)
    rw [← grown_succ hk]
    repeat' (first
      | (refine j_go ?_; first
        | refine j_op0 rfl rfl rfl rfl ?_ | (refine j_kBin rfl ?_; first | refine j_in rfl rfl ⟨by omega, by omega⟩ rfl rfl ?_))
      | refine j_nil ?_
      | (refine r_go ?_; first | refine run_region ?_)
      | refine seqQ_normal ?_ | refine blockQ_normal ?_)
    exact loopQ_next (k + 1, b', cap') (by dsimp only; omega) (by dsimp only; omega) rfl ⟨rfl, rfl, rfl, rfl, rfl, rfl, nx _, trivial⟩
  have hke : k = l.length := by omega
  subst hke
  rw [List.take_length] at gl ⊢
  repeat' (first
      | (refine j_go ?_; first
        | refine j_op0 rfl rfl rfl rfl ?_)
      | refine j_nil ?_
      | (refine r_go ?_; first | refine run_seq ?_ | refine run_region ?_ | (refine (run_if rfl (fun hb => ?_) (fun hb => ?_)) <;> first | (exfalso; omega) | skip) | refine run_ret ?_ | refine run_exit ?_)
      | refine seqQ_normal ?_ | refine seqQ_exit ?_ | refine blockQ_eq ?_ | refine loopQ_exit ?_)
  exact endD_ret (h1 := [_]) rfl (.cons (.tmp rfl) .nil) (Le.refl _) ⟨ob, cp, rfl, rfl⟩ (.inl rfl)
end Go.Proofs.YtbhiaccbpbnbmaaGreat

/-
  What grows in a cell: GrowContents of the reference and of the program. No condition.
-/
namespace Go.Proofs.YtbhiaccbpbnbmaaGreat
open Go.AI
set_option maxRecDepth 8000
set_option maxHeartbeats 1600000

def ObjsIn (o : Int) (l : List Int) : Prop := ∀ x ∈ l, 0 ≤ x ∧ x ≤ o - 1
open Classical in
noncomputable def cdG (p q r : Prop) : Int := if p then (if q then (if r then 0 else 3) else 2) else 1
theorem cdG_f {p q r : Prop} (h : ¬p) : cdG p q r = 1 := by unfold cdG; rw [if_neg h]
theorem cdG_r {p q r : Prop} (h : p) (h2 : ¬q) : cdG p q r = 2 := by unfold cdG; rw [if_pos h, if_neg h2]
theorem cdG_l {p q r : Prop} (h : p) (h2 : q) (h3 : ¬r) : cdG p q r = 3 := by unfold cdG; rw [if_pos h, if_pos h2, if_neg h3]
theorem cdG_o {p q r : Prop} (h : p) (h2 : q) (h3 : r) : cdG p q r = 0 := by unfold cdG; rw [if_pos h, if_pos h2, if_pos h3]
theorem objs_iff {o : Int} {l : List Int} : (¬ ∃ x ∈ l, ¬ (0 ≤ x ∧ x ≤ o - 1)) ↔ ObjsIn o l := ⟨fun h x hx => Classical.byContradiction fun q => h ⟨x, hx, q⟩, fun h ⟨x, hx, q⟩ => q (h x hx)⟩
end Go.Proofs.YtbhiaccbpbnbmaaGreat
