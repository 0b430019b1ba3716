/-
  Contract of slices.SortFunc at this translation, laid by the kit's tool in plain words. No condition.
-/
import Derived.Shelf.SlSortCmp.Whole1
import Derived.Test.YtkfmjjoalkoncaaGreatProg
import Derived.Test.YtkfmjjoalkoncaaGreatZSW
import Derived.Test.YtkfmjjoalkoncaaGreatZBase
import Derived.Shelf.RegionOpenPlain
import Derived.WalkKit
import Derived.Deep.LoopGhost
import Derived.Deep.Draws
import Derived.Lib.Walk
import Derived.Test.YtkfmjjoalkoncaaGreatZSV
namespace Go.Proofs
open Go.Shelf
def Tryz.sortF_ren : Go.Shelf.Ren := ⟨fun | 6 => 48 | 15 => 78 | 14 => 77 | 28 => 105 | 29 => 106 | 20 => 97 | 21 => 98 | 22 => 99 | 23 => 100 | 24 => 101 | 25 => 102 | 26 => 103 | 27 => 104 | 46 => 119 | 47 => 120 | 48 => 121 | 49 => 122 | 50 => 123 | 57 => 126 | n => n, fun | 22 => 29 | 24 => 24 | 25 => 89 | 3 => 3 | 39 => 117 | 0 => 0 | 53 => 142 | 55 => 67 | 4 => 4 | 46 => 135 | 45 => 134 | 50 => 139 | 5 => 5 | 9 => 9 | 66 => 152 | 70 => 156 | 76 => 159 | 77 => 160 | n => n, fun | n => n⟩
theorem Tryz.sortF : Go.Proofs.SlLaysF.n6 Tryz.prog Tryz.sortF_ren := {
  mixed := by kernel_rfl
  f6 := ⟨Tryz.f48.name, by decide, Tryz.func48.trans (congrArg some (by kernel_rfl))⟩
  f14 := ⟨Tryz.f77.name, by decide, Tryz.func77.trans (congrArg some (by kernel_rfl))⟩
  f15 := Tryz.func78.trans (congrArg some (by kernel_rfl))
  f20 := ⟨Tryz.f97.name, by decide, Tryz.func97.trans (congrArg some (by kernel_rfl))⟩
  f21 := ⟨Tryz.f98.name, by decide, Tryz.func98.trans (congrArg some (by kernel_rfl))⟩
  f22 := ⟨Tryz.f99.name, by decide, Tryz.func99.trans (congrArg some (by kernel_rfl))⟩
  f23 := ⟨Tryz.f100.name, by decide, Tryz.func100.trans (congrArg some (by kernel_rfl))⟩
  f24 := ⟨Tryz.f101.name, by decide, Tryz.func101.trans (congrArg some (by kernel_rfl))⟩
  f25 := ⟨Tryz.f102.name, by decide, Tryz.func102.trans (congrArg some (by kernel_rfl))⟩
  f26 := ⟨Tryz.f103.name, by decide, Tryz.func103.trans (congrArg some (by kernel_rfl))⟩
  f27 := ⟨Tryz.f104.name, by decide, Tryz.func104.trans (congrArg some (by kernel_rfl))⟩
  f28 := Tryz.func105.trans (congrArg some (by kernel_rfl))
  f29 := Tryz.func106.trans (congrArg some (by kernel_rfl))
  f46 := ⟨Tryz.f119.name, by decide, Tryz.func119.trans (congrArg some (by kernel_rfl))⟩
  f47 := Tryz.func120.trans (congrArg some (by kernel_rfl))
  f48 := Tryz.func121.trans (congrArg some (by kernel_rfl))
  f49 := ⟨Tryz.f122.name, by decide, Tryz.func122.trans (congrArg some (by kernel_rfl))⟩
  f50 := ⟨Tryz.f123.name, by decide, Tryz.func123.trans (congrArg some (by kernel_rfl))⟩
  f57 := ⟨Tryz.f126.name, by decide, Tryz.func126.trans (congrArg some (by kernel_rfl))⟩
  t0 := Tryz.underlying0
  a0 := Tryz.isAgg0
  z0 := Tryz.sizeOf0
  v0 := Tryz.zeroValue0
  t3 := Tryz.underlying3
  a3 := Tryz.isAgg3
  z3 := Tryz.sizeOf3
  v3 := Tryz.zeroValue3
  t4 := Tryz.underlying4
  a4 := Tryz.isAgg4
  z4 := Tryz.sizeOf4
  v4 := Tryz.zeroValue4
  t5 := Tryz.underlying5
  a5 := Tryz.isAgg5
  z5 := Tryz.sizeOf5
  v5 := Tryz.zeroValue5
  t9 := Tryz.underlying9
  a9 := Tryz.isAgg9
  z9 := Tryz.sizeOf9
  v9 := Tryz.zeroValue9
  t22 := Tryz.underlying29
  a22 := Tryz.isAgg29
  z22 := Tryz.sizeOf29
  v22 := Tryz.zeroValue29
  a24 := Tryz.isAgg24
  z24 := Tryz.sizeOf24
  t25 := Tryz.underlying89
  a25 := Tryz.isAgg89
  z25 := Tryz.sizeOf89
  v25 := Tryz.zeroValue89
  t39 := Tryz.underlying117
  a39 := Tryz.isAgg117
  z39 := Tryz.sizeOf117
  v39 := Tryz.zeroValue117
  t45 := Tryz.underlying134
  a45 := Tryz.isAgg134
  z45 := Tryz.sizeOf134
  v45 := Tryz.zeroValue134
  t46 := Tryz.underlying135
  a46 := Tryz.isAgg135
  z46 := Tryz.sizeOf135
  v46 := Tryz.zeroValue135
  t50 := Tryz.underlying139
  a50 := Tryz.isAgg139
  z50 := Tryz.sizeOf139
  v50 := Tryz.zeroValue139
  t53 := Tryz.underlying142
  a53 := Tryz.isAgg142
  z53 := Tryz.sizeOf142
  v53 := Tryz.zeroValue142
  t55 := Tryz.underlying67
  a55 := Tryz.isAgg67
  z55 := Tryz.sizeOf67
  v55 := Tryz.zeroValue67
  t66 := Tryz.underlying152
  a66 := Tryz.isAgg152
  z66 := Tryz.sizeOf152
  v66 := Tryz.zeroValue152
  t70 := Tryz.underlying156
  a70 := Tryz.isAgg156
  z70 := Tryz.sizeOf156
  v70 := Tryz.zeroValue156
  t76 := Tryz.underlying159
  a76 := Tryz.isAgg159
  z76 := Tryz.sizeOf159
  v76 := Tryz.zeroValue159
  t77 := Tryz.underlying160
  a77 := Tryz.isAgg160
  z77 := Tryz.sizeOf160
  v77 := Tryz.zeroValue160 }
end Go.Proofs

/-
  slices.Compare at lists of int64, walked once: it reads, and hands back which of two lists stands ahead. No condition.
-/
namespace Go.Proofs.YtkfmjjoalkoncaaGreat
/-- Which of two lists stands ahead. -/
def cmpL : List Int → List Int → Int
  | [], [] => 0
  | [], _ :: _ => -1
  | _ :: _, [] => 1
  | x :: a, y :: b => if x < y then -1 else if y < x then 1 else cmpL a b
theorem cmpL_less : ∀ a b : List Int, cmpL a b < 0 ↔ less a b
  | [], [] => by simp [cmpL, less]
  | [], _ :: _ => by simp [cmpL, less]
  | _ :: _, [] => by simp [cmpL, less]
  | x :: a, y :: b => by
    unfold cmpL less
    by_cases h : x < y
    · simp [h]
    · by_cases h2 : y < x
      · simp [h, h2]; omega
      · simp [h, h2, cmpL_less a b]; omega
theorem cmpL_step {a b : List Int} {k : Nat} (ha : k < a.length) (hb : k < b.length) : cmpL (a.drop k) (b.drop k) = if a.getD k 0 < b.getD k 0 then -1 else if b.getD k 0 < a.getD k 0 then 1 else cmpL (a.drop (k + 1)) (b.drop (k + 1)) := by
  rw [List.drop_eq_getElem_cons ha, List.drop_eq_getElem_cons hb]
  simp only [cmpL, List.getD_eq_getElem?_getD, List.getElem?_eq_getElem ha, List.getElem?_eq_getElem hb, Option.getD_some]
theorem cmpL_end {a b : List Int} {k : Nat} (ha : a.length ≤ k) (hb : b.length ≤ k) : cmpL (a.drop k) (b.drop k) = 0 := by
  rw [List.drop_of_length_le ha, List.drop_of_length_le hb, cmpL]
open Go.Shelf Go.RowKit Go.Lib Go.AI Go.Proofs
set_option maxRecDepth 100000
set_option maxHeartbeats 2000000
theorem isNaN_at (x : Int) (W : World) : Calls Tryz.prog 107 #[.int .i64 x] W fun e w' => e = .returned (.bool false) ∧ ∃ q, w' = W.drewN q := by
  go_enter Tryz.func107, Tryz.ntmps107
  go_wp2
  go_ret
  exact ⟨rfl, 0, rfl⟩
theorem compare_at (x y : Int) (W : World) : Calls Tryz.prog 79 #[.int .i64 x, .int .i64 y] W fun e w' => e = .returned (.int .i64 (if x < y then -1 else if y < x then 1 else 0)) ∧ ∃ q, w' = W.drewN q := by
  by_cases h : x < y
  · go_enter Tryz.func79, Tryz.ntmps79
    go_wp2_with (go_at_call 107; refine (isNaN_at _ _).mono ?_; rintro e w' ⟨rfl, n, rfl⟩)
    go_ret
    exact ⟨by simp [h], _, rfl⟩
  · by_cases h2 : y < x
    · go_enter Tryz.func79, Tryz.ntmps79
      go_wp2_with (go_at_call 107; refine (isNaN_at _ _).mono ?_; rintro e w' ⟨rfl, n, rfl⟩)
      go_ret
      exact ⟨by simp [h, h2], _, rfl⟩
    · go_enter Tryz.func79, Tryz.ntmps79
      go_wp2_with (go_at_call 107; refine (isNaN_at _ _).mono ?_; rintro e w' ⟨rfl, n, rfl⟩)
      go_ret
      exact ⟨by simp [h, h2], _, rfl⟩
theorem slCompare_nil (a1 a2 : Option Addr) (c d : Nat) (w : World) : Calls Tryz.prog 49 #[.slice a1 0 c, .slice a2 0 d] w fun e w' => e = .returned (.int .i64 0) ∧ ∃ q, w' = w.drewN q := by
  go_enter Tryz.func49, Tryz.ntmps49
  go_wp2
  go_loopg [11] 0 (fun _ s13 wr => s13 = .int .i64 0 ∧ wr = w)
  case atStart => exact ⟨rfl, rfl⟩
  case round =>
    obtain ⟨rfl, rfl⟩ := hrel
    go_wp2
    go_ret
    exact ⟨rfl, 0, rfl⟩
theorem slCompare_at (b1 o1 c1 b2 o2 c2 n : Nat) (xs ys : List Int) (w : World) (hx : xs.length = n) (hy : ys.length = n) (hbig : n ≤ 1000000)
    (hc1 : ∀ j, j < n → w.cell? ⟨b1, o1 + j, none⟩ = some (.int .i64 (xs.getD j 0))) (hc2 : ∀ j, j < n → w.cell? ⟨b2, o2 + j, none⟩ = some (.int .i64 (ys.getD j 0))) :
    Calls Tryz.prog 49 #[.slice (some ⟨b1, o1, none⟩) n c1, .slice (some ⟨b2, o2, none⟩) n c2] w fun e w' => e = .returned (.int .i64 (cmpL xs ys)) ∧ ∃ q, w' = w.drewN q := by
  go_enter Tryz.func49, Tryz.ntmps49
  go_wp2
  go_loopg [11] n (fun g s13 wr => ∃ k q : Nat, k ≤ n ∧ n - k ≤ g ∧ s13 = .int .i64 k ∧ wr = w.drewN q ∧ cmpL xs ys = cmpL (xs.drop k) (ys.drop k))
  case atStart => exact ⟨0, 0, Nat.zero_le _, by omega, rfl, rfl, rfl⟩
  case round =>
    obtain ⟨k, q, hk, hg, rfl, rfl, heq⟩ := hrel
    by_cases hlt : k < n
    · have g1 : w.cell? ⟨b1, o1 + k, none⟩ = some (.int .i64 (xs.getD k 0)) := hc1 k (by omega)
      have g2 : w.cell? ⟨b2, o2 + k, none⟩ = some (.int .i64 (ys.getD k 0)) := hc2 k (by omega)
      have hst := cmpL_step (a := xs) (b := ys) (k := k) (by omega) (by omega)
      rw [← heq] at hst
      clear heq hc1 hc2
      generalize hxk : xs.getD k 0 = x at g1 hst
      generalize hyk : ys.getD k 0 = y at g2 hst
      clear hxk hyk
      have hcon := fun W => compare_at x y W
      by_cases hxy : x < y
      · rw [if_pos hxy] at hst
        simp only [if_pos hxy] at hcon
        have A : Aside _ := hst
        clear hst
        go_wp2_with (go_at_call 79; refine (hcon _).mono ?_; rintro e w' ⟨rfl, n', rfl⟩)
        go_ret
        exact ⟨by rw [A.out]; rfl, _, rfl⟩
      · by_cases hyx : y < x
        · rw [if_neg hxy, if_pos hyx] at hst
          simp only [if_neg hxy, if_pos hyx] at hcon
          have A : Aside _ := hst
          clear hst
          go_wp2_with (go_at_call 79; refine (hcon _).mono ?_; rintro e w' ⟨rfl, n', rfl⟩)
          go_ret
          exact ⟨by rw [A.out]; rfl, _, rfl⟩
        · rw [if_neg hxy, if_neg hyx] at hst
          simp only [if_neg hxy, if_neg hyx] at hcon
          have A : Aside _ := hst
          clear hst
          go_wp2_with (go_at_call 79; refine (hcon _).mono ?_; rintro e w' ⟨rfl, n', rfl⟩)
          go_roundg (n - (k + 1))
          case measure => omega
          case rel => exact ⟨k + 1, _, by omega, by omega, by go_num, rfl, A.out⟩
    · have : k = n := by omega
      subst this
      clear hc1 hc2
      rw [cmpL_end (by omega) (by omega)] at heq
      have A : Aside _ := heq
      clear heq
      go_wp2
      go_ret
      exact ⟨by rw [A.out]; rfl, _, rfl⟩
end Go.Proofs.YtkfmjjoalkoncaaGreat

/-
  slices.SortFunc at lists of lists of int64 with slices.Compare, as a call over data. No condition.
-/
namespace Go.Proofs.YtkfmjjoalkoncaaGreat
open Go.AI Go.RowKit
set_option maxRecDepth 8000
set_option maxHeartbeats 1600000
open Go.Sort Go.Proofs
/-- A list that nobody writes, in the world as it stands: its value and what it holds. -/
abbrev Rw (S : Nat → Prop) (w : World) (n : Nat) : Type := {p : Value × List Int // Rel S w (.sl (p.2.map Go.AI.encI)) p.1 ∧ p.2.length = n}
abbrev Rw.val {S : Nat → Prop} {w : World} {n : Nat} (x : Rw S w n) : Value := x.1.1
abbrev Rw.row {S : Nat → Prop} {w : World} {n : Nat} (x : Rw S w n) : List Int := x.1.2
theorem rw_of {S : Nat → Prop} {w : World} {n : Nat} : ∀ (L : List (List Int)) (vs : List Value), (∀ x ∈ L, x.length = n) → RelL S w (L.map (encS Go.AI.encI)).flatten vs → ∃ d : List (Rw S w n), d.map Rw.val = vs ∧ d.map Rw.row = L
  | [], vs, _, hr => ⟨[], (List.eq_nil_of_length_eq_zero hr.1).symm, rfl⟩
  | x :: L, vs, hL, hr => by
    have hr2 : RelL S w (.sl (x.map Go.AI.encI) :: (L.map (encS Go.AI.encI)).flatten) vs := hr
    obtain ⟨v, us, rfl, h1, h2⟩ := hr2.uncons
    obtain ⟨d, e1, e2⟩ := rw_of L us (fun y hy => hL y (List.mem_cons_of_mem _ hy)) h2
    exact ⟨⟨(v, x), h1, hL x List.mem_cons_self⟩ :: d, by rw [List.map_cons, e1], by rw [List.map_cons, e2]⟩
theorem rw_rel {S : Nat → Prop} {w : World} {n : Nat} : ∀ d : List (Rw S w n), RelL S w ((d.map Rw.row).map (encS Go.AI.encI)).flatten (d.map Rw.val)
  | [] => RelL.nil
  | x :: d => RelL.cons (a := .sl (x.row.map Go.AI.encI)) x.2.1 (rw_rel d)
theorem rel_row {S : Nat → Prop} {w : World} {l : List Int} {v : Value} (h : Rel S w (.sl (l.map Go.AI.encI)) v) (hl : l ≠ []) : ∃ b o c, S b ∧ v = .slice (some ⟨b, o, none⟩) l.length c ∧ ∀ j, j < l.length → w.cell? ⟨b, o + j, none⟩ = some (.int .i64 (l.getD j 0)) := by
  generalize hx : l.map Go.AI.encI = xs at h
  have hlen : xs.length = l.length := by rw [← hx, List.length_map]
  cases h with
  | nil a cap => exact absurd (List.map_eq_nil_iff.1 hx) hl
  | sl xs b off cap sz V hS h1 h2 h3 h4 h5 =>
    have hpos := List.length_pos_iff.2 hl
    have e1 : sz = 1 := by
      rw [← h3 0 (by omega)]
      subst hx; simp [Go.AI.encI]
    subst e1
    refine ⟨b, off, cap, hS, by rw [hlen], fun j hj => ?_⟩
    have q := h4 j 0 (by omega) (by omega)
    rw [show off + (j * 1 + 0) = off + j by omega] at q
    rw [q]
    have r := h5 j 0 (by omega) (by rw [h3 j (by omega)]; omega)
    subst hx
    have e2 : ((l.map Go.AI.encI)[j]'(by omega))[0]'(by rw [h3 j (by omega)]; omega) = A.int (l.getD j 0) := by simp [Go.AI.encI, List.getD_eq_getElem?_getD, List.getElem?_eq_getElem hj]
    rw [e2] at r
    generalize V j 0 = v at r ⊢
    cases r
    rfl
theorem cmpL_swo {α : Type} (f : α → List Int) : SWO (ltOf fun x y : α => cmpL (f x) (f y)) := by
  have key : ∀ x y : α, ltOf (fun x y : α => cmpL (f x) (f y)) x y = true ↔ less (f x) (f y) := fun x y => by
    unfold ltOf
    rw [decide_eq_true_iff]
    exact cmpL_less _ _
  have keyf : ∀ x y : α, ltOf (fun x y : α => cmpL (f x) (f y)) x y = false ↔ ¬ less (f x) (f y) := fun x y => by
    rw [← key, Bool.not_eq_true]
  refine ⟨fun x => ?_, fun x y z h1 h2 => ?_, fun x y z h1 h2 => ?_⟩
  · rw [keyf]; exact fun h => lss_asym h h
  · rw [key] at h1 h2 ⊢
    rcases lss_neg (b := f z) h1 with h | h
    · exact h
    · exact absurd h (lss_asym h2)
  · rw [keyf] at h1 h2 ⊢
    exact fun h => (lss_neg (b := f y) h).elim h1 h2
theorem holds_rw {α : Type} [Inhabited α] {enc : α → Value} {w : World} {g : Nat} {rest : List Value} {e : TypeId} {d : List α} (hb : w.heap[g]? = some (.cells (d.map enc ++ rest).toArray e (0, 0))) : Holds enc w g 0 d.toArray := by
  intro j hj
  have hj' : j < d.length := by simpa using hj
  refine ⟨?_, by simp [World.frozen?, hb]⟩
  simp only [World.cell?, hb, Nat.zero_add]
  simp only [Option.isSome_none, Bool.false_eq_true, if_false]
  rw [← Array.getElem?_toList, List.toList_toArray, List.getElem?_append_left (by simpa using hj')]
  simp [hj']
theorem sortWorld_at {α : Type} [Inhabited α] {enc : α → Value} {w : World} {g n : Nat} {os : Array Obj} {cur : Array Value} {e : TypeId} {fr : Nat × Nat} (d : Array α) (hb : w.heap[g]? = some (.cells cur e fr)) :
    (sortWorld enc w g 0 n d os).heap[g]? = some (.cells (putCells enc 0 d cur) e fr) := by
  have hg : g < w.heap.size := (Array.getElem?_eq_some_iff.1 hb).1
  unfold sortWorld
  rw [heap_grow_old _ _ (by simpa using hg)]
  simp [putRow, mapBlock, Sort.ahead, Array.getElem?_modify, hb, onCells]
theorem sortWorld_else {α : Type} [Inhabited α] {enc : α → Value} {w : World} {g n : Nat} {os : Array Obj} (d : Array α) : w.grownBy (sortWorld enc w g 0 n d os) (some g) := by
  unfold sortWorld
  refine ⟨rfl, rfl, rfl, by simp, fun k hk hne => ?_⟩
  rw [heap_grow_old _ _ (by simpa using hk)]
  have : g ≠ k := fun e => hne (by rw [e])
  simp [putRow, mapBlock, Sort.ahead, Array.getElem?_modify, this]
theorem take_put {α : Type} [Inhabited α] (enc : α → Value) (cur : Array Value) (ts : List α) (h : ts.length ≤ cur.size) : (putCells enc 0 ts.toArray cur).toList.take ts.length = ts.map enc := by
  apply List.ext_getElem?
  intro j
  by_cases hj : j < ts.length
  · rw [List.getElem?_take_of_lt hj, Array.getElem?_toList]
    simp [putCells, hj, show j < cur.size by omega]
  · rw [List.getElem?_take_eq_none (by omega), List.getElem?_eq_none (by simp; omega)]
theorem sorted_uniq {S : Nat → Prop} {w : World} {n : Nat} [Inhabited (Rw S w n)] (d : List (Rw S w n)) (d' : Array (Rw S w n)) (hp : PermIn 0 d.toArray.size d.toArray d') (hs : SortedIn (ltOf fun x y : Rw S w n => cmpL x.row y.row) 0 d.toArray.size d') : d'.size = d.length ∧ d'.toList.map Rw.row = sortR (d.map Rw.row) := by
  obtain ⟨p1, _, p3⟩ := hp
  have hsz : d'.size = d.length := by rw [p1]; simp
  refine ⟨hsz, sortR_uniq ?_ ?_⟩
  · have e1 : (d'.extract 0 d.toArray.size).toList = d'.toList := by rw [← p1]; simp
    have e2 : (d.toArray.extract 0 d.toArray.size).toList = d := by simp
    rw [e1, e2] at p3
    exact p3.map _
  · rw [List.pairwise_map, List.pairwise_iff_getElem]
    intro i j hi hj hij q
    have h := hs i j (Nat.zero_le _) hij (by simpa [hsz] using hj)
    rw [getElem!_pos d' j (by simpa using hj), getElem!_pos d' i (by simpa using hi)] at h
    unfold ltOf at h
    rw [decide_eq_false_iff_not] at h
    exact h ((cmpL_less _ _).2 (by simpa using q))
theorem o_sortF (L : List (List Int)) (n : Nat) (hn : n ≤ 1000000) (hL : ∀ x ∈ L, x.length = n) (hl : L.length ≤ 1000000) (hne : L ≠ []) (b cap : Nat) : Does Tryz.prog 48 [.os (some b) L.length cap, .fn 49 []] [⟨some b, 24, cap * 1, (L.map (encS Go.AI.encI)).flatten⟩]
    (fun v h' => v = .tup [] ∧ h' = [⟨some b, 24, cap * 1, ((sortR L).map (encS Go.AI.encI)).flatten⟩]) := by
  refine ⟨⟨Tryz.f48, Tryz.func48, by decide, by rfl⟩, fun F w vs hrel hh => ?_⟩
  obtain ⟨v1, us1, rfl, h1, hu1⟩ := hrel.uncons
  obtain ⟨v2, us2, rfl, h2, h3⟩ := hu1.uncons
  obtain rfl : us2 = [] := List.eq_nil_of_length_eq_zero h3.1
  obtain ⟨rfl, _⟩ := h1.os_inv
  obtain ⟨cb, rfl, h4⟩ := h2.fn_inv
  obtain rfl : cb = [] := List.eq_nil_of_length_eq_zero h4.1
  obtain ⟨vs, rest, hb, hr, hroom⟩ := hh.at (List.mem_append_left F List.mem_cons_self)
  obtain ⟨d, rfl, e2⟩ := rw_of L vs hL hr
  have hdl : d.length = L.length := by have := congrArg List.length e2; simpa using this
  have hbl := (Array.getElem?_eq_some_iff.1 hb).1
  have hbk : b ∈ keys ([⟨some b, 24, cap * 1, (L.map (encS Go.AI.encI)).flatten⟩] ++ F) := mem_keys (List.mem_append_left F List.mem_cons_self) rfl
  have : Inhabited (Rw (Im w ([⟨some b, 24, cap * 1, (L.map (encS Go.AI.encI)).flatten⟩] ++ F)) w n) := by
    match d, hdl with
    | [], q => exact absurd (List.eq_nil_of_length_eq_zero q.symm) hne
    | x :: _, _ => exact ⟨x⟩
  have hH := holds_rw (enc := Rw.val) hb
  have eg : ∀ args w, (callFunc 49 args).run Tryz.prog w = .ok (.enter 49 args) w := enters_of Tryz.func49 (by kernel_rfl) rfl
  have hcmp : CmpReads Tryz.prog 49 #[] (Rw.val (S := Im w ([⟨some b, 24, cap * 1, (L.map (encS Go.AI.encI)).flatten⟩] ++ F)) (w := w) (n := n)) (fun x y => cmpL x.row y.row) b 0 d.toArray.size w := by
    intro m os dk hs x y
    by_cases hn0 : n = 0
    · have ex : x.row = [] := List.eq_nil_of_length_eq_zero (x.2.2.trans hn0)
      have ey : y.row = [] := List.eq_nil_of_length_eq_zero (y.2.2.trans hn0)
      have rx := x.2.1
      have ry := y.2.1
      obtain ⟨a1, c1, r1, _⟩ := rx.sl_inv
      obtain ⟨a2, c2, r2, _⟩ := ry.sl_inv
      have l1 : (x.row.map Go.AI.encI).length = 0 := by rw [ex]; rfl
      have l2 : (y.row.map Go.AI.encI).length = 0 := by rw [ey]; rfl
      rw [l1] at r1
      rw [l2] at r2
      show Calls _ _ (#[x.1.1, y.1.1] ++ #[]) _ _
      rw [r1, r2]
      have z0 : cmpL x.row y.row = 0 := by rw [ex, ey]; rfl
      exact (slCompare_nil a1 a2 c1 c2 _).mono fun e w' ⟨g1, g2⟩ => ⟨by rw [g1]; exact congrArg (fun z => Ending.returned (.int .i64 z)) z0.symm, g2⟩
    · have ex : x.row ≠ [] := fun q => hn0 (by rw [← x.2.2]; exact List.length_eq_zero_iff.2 q)
      have ey : y.row ≠ [] := fun q => hn0 (by rw [← y.2.2]; exact List.length_eq_zero_iff.2 q)
      obtain ⟨b1, o1, c1, S1, r1, q1⟩ := rel_row x.2.1 ex
      obtain ⟨b2, o2, c2, S2, r2, q2⟩ := rel_row y.2.1 ey
      show Calls _ _ (#[x.1.1, y.1.1] ++ #[]) _ _
      have lx : x.1.2.length = n := x.2.2
      have ly : y.1.2.length = n := y.2.2
      rw [lx] at r1 q1
      rw [ly] at r2 q2
      rw [r1, r2]
      have cl : ∀ bb, Im w ([⟨some b, 24, cap * 1, (L.map (encS Go.AI.encI)).flatten⟩] ++ F) bb → ∀ o, (sortWorld (Rw.val (S := Im w ([⟨some b, 24, cap * 1, (L.map (encS Go.AI.encI)).flatten⟩] ++ F)) (w := w) (n := n)) w b 0 m dk os).cell? ⟨bb, o, none⟩ = w.cell? ⟨bb, o, none⟩ := fun bb hbb o => by
        apply World.cell?_of_block
        have gq : w.grownBy (sortWorld (Rw.val (S := Im w ([⟨some b, 24, cap * 1, (L.map (encS Go.AI.encI)).flatten⟩] ++ F)) (w := w) (n := n)) w b 0 m dk os) (some b) := sortWorld_else dk
        obtain ⟨_, _, _, _, g5⟩ := gq
        exact g5 bb hbb.1 (fun e => hbb.2 (by cases e; exact hbk))
      exact slCompare_at b1 o1 c1 b2 o2 c2 n x.row y.row _ lx ly hn (fun j hj => by rw [cl b1 S1]; exact q1 j hj) (fun j hj => by rw [cl b2 S2]; exact q2 j hj)
  have hS := Any.slices_SortFunc Tryz.sortF Rw.val (fun x => by
    obtain ⟨a, c, r, _⟩ := x.2.1.sl_inv
    show x.1.1.oneCell' = true
    rw [r]; rfl) (fun x y => cmpL x.row y.row) (cmpL_swo _) 49 #[] b 0 cap d.toArray w eg hcmp.lays hH hbl (by simp; omega)
  rw [show d.toArray.size = L.length from by simp [hdl]] at hS
  refine hS.mono fun e w' ⟨e1, d', k, os, hp, hs, e3⟩ => ⟨_, .tup [], _, e1, ⟨rfl, rfl⟩, ?_, .tup [] [] rfl (fun j hj => absurd hj (Nat.not_lt_zero _))⟩
  rw [show L.length = d.toArray.size from by simp [hdl]] at hp hs
  obtain ⟨hsz, hso⟩ := sorted_uniq d d' hp hs
  rw [e2] at hso
  subst e3
  have hw' := sortWorld_at (enc := Rw.val) (n := k) (os := os) d' hb
  have hT := take_put Rw.val ((List.map Rw.val d ++ rest).toArray) d'.toList (by simp; omega)
  have hsz2 : (putCells Rw.val 0 d'.toList.toArray (List.map Rw.val d ++ rest).toArray).size = cap * 1 := by unfold putCells; rw [Array.size_mapIdx, List.size_toArray]; exact hroom.symm
  rw [Array.toArray_toList] at hT hsz2
  generalize putCells Rw.val 0 d' (List.map Rw.val d ++ rest).toArray = X at hT hw' hsz2
  have hX : X = (d'.toList.map Rw.val ++ X.toList.drop d'.toList.length).toArray := by
    apply Array.ext'
    rw [List.toList_toArray, ← hT, List.take_append_drop]
  rw [hX] at hw'
  have hrel2 := rw_rel d'.toList
  rw [hso] at hrel2
  refine chg_write hh (sortWorld_else d') hw' hrel2 ?_
  have := congrArg Array.size hX
  simp only [List.size_toArray] at this
  omega
end Go.Proofs.YtkfmjjoalkoncaaGreat

/-
  All maximal choices: the program. No condition.
-/
namespace Go.Proofs.YtkfmjjoalkoncaaGreat
open Go.AI
set_option maxRecDepth 8000
set_option maxHeartbeats 3200000
theorem o_choicesX (s : System) (t : State) (hv : s.Ok) (ht : s.StateOk t) : Does Tryz.prog 22 [.agg (encSystem s), .agg (encState t)] []
    (fun v h' => h' = [] ∧ (¬ (Big16 s t s.parents.length ∨ Big2 s t s.parents.length) → (allC s t).length ≤ 300 → v = .tup [.sl ((allS s t).map (encS Go.AI.encI)), .int 0]) ∧
      ((Big16 s t s.parents.length ∨ Big2 s t s.parents.length) ∨ 300 < (allC s t).length → ∃ x, v = .tup [x, .int 3])) := by
  refine fn_of_runD tyOk ztOk mix Tryz.func22 rfl (by decide) Tryz.ntmps22 (fun w0 F => ?_)
  change Run _ _ _ _ _ F
  have h6 := hv.1.2.1
  have h16 := hv.2.1
  repeat' (first
      | (refine j_go ?_; first
        | refine j_op0 rfl rfl rfl rfl ?_ | refine j_box rfl rfl rfl rfl rfl rfl ?_)
      | refine j_nil ?_
      | (refine r_go ?_; first | refine run_seq ?_ | refine run_region ?_)
      | refine seqQ_normal ?_)
  refine j_kCall rfl rfl rfl rfl ?_
  refine jcp F (o_byCellsX s t hv ht) (List.Perm.refl _) (LeL.refl _) rfl rfl (fun v h1 hR => ?_)
  obtain ⟨R1, R2⟩ := hR
  by_cases hB : Big16 s t s.parents.length ∨ Big2 s t s.parents.length
  · obtain ⟨rfl, rfl⟩ := R2 hB
    repeat' (first
      | (refine j_go ?_; first
        | refine j_op0 rfl rfl rfl rfl ?_)
      | refine j_nil ?_
      | (refine r_go ?_; first | refine run_seq ?_ | refine run_region ?_ | (refine (run_ifn rfl (fun hb => ?_) (fun hb => ?_)) <;> first | (exfalso; omega) | skip) | refine run_ret ?_)
      | refine seqQ_normal ?_ | refine seqQ_ret ?_)
    exact endD_ret (h1 := []) rfl (.cons (.tmp rfl) (.cons (.tmp rfl) .nil)) (Le.refl _) ⟨rfl, fun q => absurd hB q, fun _ => ⟨_, rfl⟩⟩ (.inl rfl)
  · obtain ⟨rfl, rfl⟩ := R1 hB
    have hok := cellsL_ok hv ht s.parents.length (Nat.le_refl _) (fun q => hB (.inr q))
    have hcl := cellsL_len s t s.parents.length
    have eA := allC_out s t
    generalize hX : cellsL s t s.parents.length = X at hok eA hcl
    have hrw := outX_rows s.rules.length X
    have hmo := fun k => outX_mono hok (k := k)
    repeat' (first
      | (refine j_go ?_; first
        | refine j_op0 rfl rfl rfl rfl ?_ | (refine j_kLen rfl ?_; first | refine j_len rfl rfl rfl rfl rfl rfl ?_))
      | refine j_nil ?_
      | (refine r_go ?_; first | refine run_seq ?_ | refine run_region ?_ | (refine (run_ifn rfl (fun hb => ?_) (fun hb => ?_)) <;> first | (exfalso; omega) | skip) | refine run_skip ?_)
      | refine seqQ_normal ?_)
    refine j_makeI (g := Go.AI.encI) (m := s.rules.length) 0 rfl rfl rfl rfl rfl rfl rfl rfl rfl (by omega) rfl rfl (fun b4 => ?_)
    refine j_view (view_freeze (g := Go.AI.encI) (z := 1) (ys := List.replicate s.rules.length 0) 0 31 (by rw [List.length_replicate]; rfl) rfl rfl (fun _ => rfl) rfl rfl) ?_
    refine j_bslM rfl rfl rfl rfl rfl rfl rfl rfl rfl rfl rfl (fun b5 => ?_)
    repeat' (first
      | (refine j_go ?_; first
        | refine j_op0 rfl rfl rfl rfl ?_ | (refine j_kLen rfl ?_; first | refine j_len rfl rfl rfl rfl rfl rfl ?_))
      | refine j_nil ?_
      | (refine r_go ?_; first | refine run_seq ?_ | refine run_region ?_ | refine run_block ?_)
      | refine seqQ_normal ?_)
    have e0 : outX s.rules.length X 0 = [List.replicate s.rules.length 0] := by unfold outX; rfl
    refine run_loop (fun x : Nat × (Option Nat × Nat) => [(33, .sl (X.map encCel)), (34, .int X.length), (8, .os x.2.1 (outX s.rules.length X x.1).length x.2.2), (35, .int (x.1 : Int))])
      (fun x => ⟨x.2.1, 24, x.2.2 * 1, ((outX s.rules.length X x.1).map (encS Go.AI.encI)).flatten⟩ :: F) (fun x => x.1 ≤ X.length ∧ (outX s.rules.length X x.1).length ≤ 300) (fun x => X.length - x.1) (0, (some b5, 1)) ⟨rfl, rfl, rfl, rfl, trivial⟩ rfl
      ⟨Nat.zero_le _, by rw [e0]; simp⟩ (fun ⟨k, bo, co⟩ ⟨kl, k3⟩ => ?_)
    dsimp only at kl k3 ⊢
    by_cases hk : k < X.length
    · have hx := hok _ (List.getElem_mem hk)
      have es := outX_succ (n := s.rules.length) hk
      generalize eo : outX s.rules.length X k = out at k3 es
      repeat' (first
      | (refine j_go ?_; first
        | refine j_op0 rfl rfl rfl rfl ?_ | (refine j_kIdx rfl ?_; first | refine j_idx rfl rfl rfl rfl rfl (by omega) rfl rfl rfl ?_) | (refine j_kLen rfl ?_; first | refine j_op rfl rfl rfl rfl ?_) | (refine j_kStore rfl ?_; first | refine j_storeN 0 rfl rfl rfl rfl rfl rfl rfl rfl rfl rfl rfl ?_) | (refine j_kBsl rfl ?_; first | refine j_bs0 rfl rfl rfl rfl rfl rfl ?_) | refine j_alloc rfl rfl rfl rfl rfl (fun _ => ?_))
      | refine j_nil ?_
      | (refine r_go ?_; first | refine run_seq ?_ | refine run_region ?_ | (refine (run_if rfl (fun hb => ?_) (fun hb => ?_)) <;> first | (exfalso; omega) | skip) | refine run_block ?_ | refine run_skip ?_)
      | refine seqQ_normal ?_)
      rename_i b9
      refine run_view (view_freezeP (cs := encCel X[k]) 0 10 rfl rfl) ?_
      refine run_view (view_freeze (g := encS Go.AI.encI) (z := 1) (ys := out) 0 40 rfl rfl rfl (fun _ => rfl) rfl rfl) ?_
      refine run_view (view_none 24 0 rfl) ?_
      have hro : ∀ j (h : j < out.length), out[j].length = s.rules.length := fun j h => hrw k (by omega) _ (by rw [eo]; exact List.getElem_mem h)
      have hmk := hmo k (k + 1) (by omega) (by omega)
      have hme := hmo (k + 1) X.length (by omega) (Nat.le_refl _)
      have hfull : (stepC out X[k]).length = out.length * X[k].2.length := stepC_len _ _
      rw [es] at hmk hme
      obtain ⟨x1, x2, x3, x4, x5, x6⟩ := hx
      refine run_loop (fun z : Nat × (Option Nat × Nat) => [(10, .ip (encCel X[k])), (33, .sl (X.map encCel)), (34, .int X.length), (35, .int (k : Int)), (40, .sl (out.map (encS Go.AI.encI))), (41, .int out.length), (11, .os z.2.1 (stepC (out.take z.1) X[k]).length z.2.2), (42, .int (z.1 : Int))])
        (fun z => ⟨z.2.1, 24, z.2.2 * 1, ((stepC (out.take z.1) X[k]).map (encS Go.AI.encI)).flatten⟩ :: F) (fun z => z.1 ≤ out.length ∧ (stepC (out.take z.1) X[k]).length ≤ 300) (fun z => out.length - z.1) (0, (none, 0)) ⟨rfl, rfl, rfl, rfl, rfl, rfl, rfl, rfl, trivial⟩ rfl
        ⟨Nat.zero_le _, by simp [stepC]⟩ (fun ⟨j, on, cn⟩ ⟨jl, j3⟩ => ?_)
      dsimp only at jl j3 ⊢
      by_cases hj : j < out.length
      · have et := stepC_take (x := X[k]) hj
        have hrj := hro j hj
        repeat' (first
      | (refine j_go ?_; first
        | refine j_op0 rfl rfl rfl rfl ?_ | (refine j_kIdx rfl ?_; first | refine j_idx rfl rfl rfl rfl rfl (by omega) rfl rfl rfl ?_) | (refine j_kLen rfl ?_; first | refine j_len rfl rfl rfl rfl rfl rfl ?_))
      | refine j_nil ?_
      | (refine r_go ?_; first | refine run_seq ?_ | refine run_region ?_ | (refine (run_if rfl (fun hb => ?_) (fun hb => ?_)) <;> first | (exfalso; omega) | skip) | refine run_block ?_ | refine run_skip ?_)
      | refine seqQ_normal ?_)
        refine run_loop (fun z : Nat × (Option Nat × Nat) => [(10, .ip (encCel X[k])), (13, .sl (out[j].map Go.AI.encI)), (33, .sl (X.map encCel)), (34, .int X.length), (35, .int (k : Int)), (40, .sl (out.map (encS Go.AI.encI))), (41, .int out.length), (42, .int (j : Int)), (47, .sl (X[k].2.map (encS Go.AI.encI))), (48, .int X[k].2.length), (11, .os z.2.1 (stepC (out.take j) X[k] ++ (X[k].2.take z.1).map (putC out[j] X[k].1)).length z.2.2), (49, .int (z.1 : Int))])
          (fun z => ⟨z.2.1, 24, z.2.2 * 1, ((stepC (out.take j) X[k] ++ (X[k].2.take z.1).map (putC out[j] X[k].1)).map (encS Go.AI.encI)).flatten⟩ :: F) (fun z => z.1 ≤ X[k].2.length) (fun z => X[k].2.length - z.1) (0, (on, cn)) ⟨rfl, rfl, rfl, rfl, rfl, rfl, rfl, rfl, rfl, rfl, (by simp only [List.take_zero, List.map_nil, List.append_nil]; rfl), rfl, trivial⟩ (by simp only [List.take_zero, List.map_nil, List.append_nil])
          (Nat.zero_le _) (fun ⟨p, on, cn⟩ pl => ?_)
        dsimp only at pl ⊢
        by_cases hp : p < X[k].2.length
        · have hns := x2 _ (List.getElem_mem hp)
          have ll : (stepC (out.take j) X[k] ++ (X[k].2.take p).map (putC out[j] X[k].1)).length ≤ 2300 := by rw [List.length_append, List.length_map, List.length_take]; omega
          have hne : out[j] ≠ [] := fun q => by
            have e := List.eq_nil_or_concat X[k].1
            obtain ⟨i, hi⟩ := List.exists_mem_of_ne_nil _ x5
            have := (x1 i hi).2
            rw [q, List.length_nil] at hrj; omega
          repeat' (first
      | (refine j_go ?_; first
        | refine j_op0 rfl rfl rfl rfl ?_ | (refine j_kIdx rfl ?_; first | refine j_idx rfl rfl rfl rfl rfl (by omega) rfl rfl rfl ?_))
      | refine j_nil ?_
      | (refine r_go ?_; first | refine run_seq ?_ | refine run_region ?_ | (refine (run_if rfl (fun hb => ?_) (fun hb => ?_)) <;> first | (exfalso; omega) | skip) | refine run_block ?_ | refine run_skip ?_)
      | refine seqQ_normal ?_)
          refine j_kCall rfl rfl rfl rfl ?_
          refine jcp _ (o_cloneI out[j] hne (by omega)) (List.Perm.refl _) (LeL.refl _) rfl rfl (fun v h1 hR => ?_)
          obtain ⟨bc, cc, rfl, rfl⟩ := hR
          have hfl := flat_len (f := Go.AI.encI) (z := 1) (fun _ => rfl) out[j]
          refine j_some 0 rfl (fun q => by rw [q, List.length_nil] at hfl; have := List.length_pos_iff.2 hne; omega) (fun bq hbq => ?_)
          subst hbq
          repeat' (first
      | (refine j_go ?_; first
        | refine j_op0 rfl rfl rfl rfl ?_ | (refine j_kLen rfl ?_; first | refine j_len rfl rfl rfl rfl rfl rfl ?_))
      | refine j_nil ?_
      | (refine r_go ?_; first | refine run_seq ?_ | refine run_region ?_ | refine run_block ?_)
      | refine seqQ_normal ?_)
          refine run_loop (fun r : Nat => [(10, .ip (encCel X[k])), (11, .os on (stepC (out.take j) X[k] ++ (X[k].2.take p).map (putC out[j] X[k].1)).length cn), (13, .sl (out[j].map Go.AI.encI)), (15, .sl (X[k].2[p].map Go.AI.encI)), (16, .os (some bq) out[j].length cc), (33, .sl (X.map encCel)), (34, .int X.length), (35, .int (k : Int)), (40, .sl (out.map (encS Go.AI.encI))), (41, .int out.length), (42, .int (j : Int)), (47, .sl (X[k].2.map (encS Go.AI.encI))), (48, .int X[k].2.length), (49, .int (p : Int)), (56, .sl (X[k].1.map Go.AI.encI)), (57, .int X[k].1.length), (58, .int (r : Int))])
            (fun r => ⟨some bq, 2, cc * 1, ((putC out[j] (X[k].1.take r) (X[k].2[p].take r)).map Go.AI.encI).flatten⟩ :: ⟨on, 24, cn * 1, ((stepC (out.take j) X[k] ++ (X[k].2.take p).map (putC out[j] X[k].1)).map (encS Go.AI.encI)).flatten⟩ :: F) (fun r => r ≤ X[k].1.length) (fun r => X[k].1.length - r) 0 ⟨rfl, rfl, rfl, rfl, rfl, rfl, rfl, rfl, rfl, rfl, rfl, rfl, rfl, rfl, rfl, rfl, rfl, trivial⟩ rfl
            (Nat.zero_le _) (fun r rl => ?_)
          have pr := putC_len out[j] (X[k].1.take r) (X[k].2[p].take r)
          by_cases hr : r < X[k].1.length
          · have hi := x1 _ (List.getElem_mem hr)
            have eS := putC_succ out[j] X[k].1 X[k].2[p] r hr (by omega)
            repeat' (first
      | (refine j_go ?_; first
        | refine j_op0 rfl rfl rfl rfl ?_ | (refine j_kIdx rfl ?_; first | refine j_idx rfl rfl rfl rfl rfl (by omega) rfl rfl rfl ?_ | refine j_midxz rfl rfl rfl rfl rfl (by first | omega | (simp only [List.length_append, List.length_cons, List.length_nil]; omega)) rfl rfl ?_))
      | refine j_nil ?_
      | (refine r_go ?_; first | refine run_seq ?_ | refine run_region ?_ | (refine (run_if rfl (fun hb => ?_) (fun hb => ?_)) <;> first | (exfalso; omega) | skip) | refine run_block ?_ | refine run_skip ?_)
      | refine seqQ_normal ?_)
            refine j_storeE 0 X[k].1[r].toNat (g := Go.AI.encI) (X[k].2[p][r]'(by omega)) rfl rfl rfl rfl rfl rfl rfl rfl rfl (fun _ => rfl) rfl (by omega) ?_
            repeat' (first
      | (refine j_go ?_; first
        | refine j_op0 rfl rfl rfl rfl ?_ | (refine j_kBin rfl ?_; first | refine j_in rfl rfl ⟨by omega, by omega⟩ rfl rfl ?_))
      | refine j_nil ?_
      | (refine r_go ?_; first | refine run_region ?_)
      | refine seqQ_normal ?_ | refine blockQ_normal ?_)
            exact loopQ_next (r + 1) (by omega) (by omega) (by rw [eS]; rfl) ⟨rfl, rfl, rfl, rfl, rfl, rfl, rfl, rfl, rfl, rfl, rfl, rfl, rfl, rfl, rfl, rfl, nx _, trivial⟩
          · have hre : r = X[k].1.length := by omega
            subst hre
            have e1 : putC out[j] (X[k].1.take X[k].1.length) (X[k].2[p].take X[k].1.length) = putC out[j] X[k].1 X[k].2[p] := by rw [List.take_length, List.take_of_length_le (by omega)]
            rw [e1] at pr ⊢
            refine run_view (view_freeze (g := Go.AI.encI) (z := 1) (ys := putC out[j] X[k].1 X[k].2[p]) 0 16 (by rw [pr]; rfl) rfl rfl (fun _ => rfl) rfl rfl) ?_
            repeat' (first
      | (refine j_go ?_; first
        | refine j_op0 rfl rfl rfl rfl ?_ | (refine j_kBsl rfl ?_; first | refine j_bsl rfl rfl rfl rfl rfl rfl rfl rfl rfl rfl rfl ?_))
      | refine j_nil ?_
      | (refine r_go ?_; first | refine run_seq ?_ | refine run_region ?_ | (refine (run_if rfl (fun hb => ?_) (fun hb => ?_)) <;> first | (exfalso; omega) | skip) | refine run_exit ?_)
      | refine seqQ_normal ?_ | refine seqQ_exit ?_ | refine blockQ_eq ?_ | refine loopQ_exit ?_)
            refine j_append 0 (g := encS Go.AI.encI) (ys := stepC (out.take j) X[k] ++ (X[k].2.take p).map (putC out[j] X[k].1)) [putC out[j] X[k].1 X[k].2[p]] rfl rfl rfl rfl rfl rfl rfl rfl rfl rfl rfl rfl (fun _ => rfl) (fun _ hy => by simp only [List.mem_singleton] at hy; subst hy; rfl) ⟨by simp only [List.length_cons, List.length_nil]; omega, by simp only [List.length_cons, List.length_nil]; omega⟩ rfl rfl (fun on' cn' => ?_)
            rw [show (stepC (out.take j) X[k] ++ (X[k].2.take p).map (putC out[j] X[k].1)) ++ [putC out[j] X[k].1 X[k].2[p]] = stepC (out.take j) X[k] ++ (X[k].2.take (p + 1)).map (putC out[j] X[k].1) from by
              rw [List.take_succ_eq_append_getElem hp, List.map_append, List.map_cons, List.map_nil, List.append_assoc]]
            repeat' (first
      | (refine j_go ?_; first
        | refine j_op0 rfl rfl rfl rfl ?_ | (refine j_kBin rfl ?_; first | refine j_in rfl rfl ⟨by omega, by omega⟩ rfl rfl ?_))
      | refine j_nil ?_
      | (refine r_go ?_; first | refine run_region ?_)
      | refine seqQ_normal ?_ | refine blockQ_normal ?_)
            exact loopQ_next (p + 1, on', cn') (by dsimp only; omega) (by dsimp only; omega) rfl ⟨rfl, rfl, rfl, rfl, rfl, rfl, rfl, rfl, rfl, rfl, rfl, nx _, trivial⟩
        · have hpe : p = X[k].2.length := by omega
          subst hpe
          rw [List.take_length, ← et]
          have ln : (stepC (out.take (j + 1)) X[k]).length ≤ (stepC out X[k]).length := by
            rw [stepC_len, stepC_len, List.length_take]
            exact Nat.mul_le_mul_right _ (Nat.min_le_right _ _)
          repeat' (first
      | (refine j_go ?_; first
        | refine j_op0 rfl rfl rfl rfl ?_ | (refine j_kBin rfl ?_; first | refine j_in rfl rfl ⟨by omega, by omega⟩ rfl rfl ?_) | (refine j_kLen rfl ?_; first | refine j_op rfl rfl rfl rfl ?_))
      | refine j_nil ?_
      | (refine r_go ?_; first | refine run_seq ?_ | refine run_region ?_ | (refine (run_if rfl (fun hb => ?_) (fun hb => ?_)) <;> first | (exfalso; omega) | skip) | refine run_ret ?_ | refine run_exit ?_ | refine run_skip ?_)
      | refine seqQ_normal ?_ | refine seqQ_ret ?_ | refine seqQ_exit ?_ | refine blockQ_normal ?_ | refine blockQ_ret ?_ | refine blockQ_eq ?_ | refine loopQ_ret ?_ | refine loopQ_exit ?_)
          · refine endD_view (view_sub (h0 := F) (List.Sublist.cons _ (List.Sublist.refl _))) ?_
            exact endD_ret (h1 := []) rfl (.cons (.tmp rfl) (.cons (.tmp rfl) .nil)) (Le.refl _) ⟨rfl, fun _ q => absurd q (by rw [eA]; omega), fun _ => ⟨_, rfl⟩⟩ (.inl rfl)
          · exact loopQ_next (j + 1, on, cn) ⟨by dsimp only; omega, by dsimp only; omega⟩ (by dsimp only; omega) rfl ⟨rfl, rfl, rfl, rfl, rfl, rfl, rfl, nx _, trivial⟩
      · have hje : j = out.length := by omega
        subst hje
        rw [List.take_length] at j3 ⊢
        repeat' (first
      | (refine j_go ?_; first
        | refine j_op0 rfl rfl rfl rfl ?_ | (refine j_kBin rfl ?_; first | refine j_in rfl rfl ⟨by omega, by omega⟩ rfl rfl ?_))
      | refine j_nil ?_
      | (refine r_go ?_; first | refine run_seq ?_ | refine run_region ?_ | (refine (run_if rfl (fun hb => ?_) (fun hb => ?_)) <;> first | (exfalso; omega) | skip) | refine run_exit ?_)
      | refine seqQ_normal ?_ | refine seqQ_exit ?_ | refine blockQ_normal ?_ | refine blockQ_eq ?_ | refine loopQ_exit ?_)
        exact loopQ_next (k + 1, on, cn) ⟨by dsimp only; omega, by dsimp only; rw [es]; omega⟩ (by dsimp only; omega) (by dsimp only; rw [es]) ⟨rfl, rfl, (by dsimp only; rw [es]; rfl), nx _, trivial⟩
    · have hke : k = X.length := by omega
      subst hke
      rw [← eA] at k3 ⊢
      have hnz : allC s t ≠ [] := by
        have q := hmo 0 X.length (Nat.zero_le _) (Nat.le_refl _)
        rw [e0, ← eA, List.length_singleton] at q
        exact fun z => by rw [z, List.length_nil] at q; omega
      have hfl := flat_len (f := encS Go.AI.encI) (z := 1) (fun _ => rfl) (allC s t)
      refine run_some 0 rfl (fun q => by rw [q, List.length_nil] at hfl; have := List.length_pos_iff.2 hnz; omega) (fun bq hbq => ?_)
      subst hbq
      have hal : (allS s t).length = (allC s t).length := (sortR_perm (allC s t)).length_eq
      repeat' (first
      | (refine j_go ?_; first
        | refine j_op0 rfl rfl rfl rfl ?_)
      | refine j_nil ?_
      | (refine r_go ?_; first | refine run_seq ?_ | refine run_region ?_ | (refine (run_if rfl (fun hb => ?_) (fun hb => ?_)) <;> first | (exfalso; omega) | skip) | refine run_exit ?_)
      | refine seqQ_normal ?_ | refine seqQ_exit ?_ | refine blockQ_eq ?_ | refine loopQ_exit ?_)
      refine j_kCall rfl rfl rfl rfl ?_
      refine jcp F (o_sortF (allC s t) s.rules.length (by omega) (fun r hr => hrw X.length (Nat.le_refl _) r (by rw [← eA]; exact hr)) (by omega) hnz bq co) (List.Perm.refl _) (LeL.refl _) rfl rfl (fun v h1 hR => ?_)
      obtain ⟨rfl, rfl⟩ := hR
      refine j_view (view_freeze (g := encS Go.AI.encI) (z := 1) (ys := allS s t) 0 8 (by rw [hal]; rfl) rfl rfl (fun _ => rfl) rfl rfl) ?_
      repeat' (first
      | (refine j_go ?_; first
        | refine j_op0 rfl rfl rfl rfl ?_)
      | refine j_nil ?_
      | (refine r_go ?_; first | refine run_seq ?_ | refine run_region ?_ | refine run_ret ?_)
      | refine seqQ_normal ?_)
      exact endD_ret (h1 := []) rfl (.cons (.tmp rfl) (.cons (.tmp rfl) .nil)) (Le.refl _) ⟨rfl, fun _ _ => rfl, fun q => by
        rcases q with q | q
        · exact absurd q hB
        · exfalso; omega⟩ (.inl rfl)
end Go.Proofs.YtkfmjjoalkoncaaGreat
