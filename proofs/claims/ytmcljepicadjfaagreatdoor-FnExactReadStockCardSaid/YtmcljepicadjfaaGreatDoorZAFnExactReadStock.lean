/-
  The law FnExactReadStock, whatever the input: it answers true and leaves its arguments as they were; its card, tied. No condition but the listed tables.
-/
import Derived.Test.YtmcljepicadjfaaGreatDoorRows
import Derived.Test.YtmcljepicadjfaaGreatDoorCards
import Derived.Test.YtmcljepicadjfaaGreatDoorTie
import Derived.Test.YtmcljepicadjfaaGreatDoorZHn
import Derived.ChangeMaps5
import Derived.Test.YtmcljepicadjfaaGreatDoorZR6
import Derived.WalkKit
import Derived.OpenShut
import Derived.ChangeOld
import Derived.Below
import Derived.Lay
import Derived.MakeChecks
import Derived.Lib.LaidTab
import Derived.Stop.LaidErr
import Derived.SevenTiedAt
import Derived.JoinedOf
namespace Go.Proofs.YtmcljepicadjfaaGreatDoor.FnExactReadStock
open Go.ChangeShapes Go.WideShapes Go.ChangeAt Go.RowKit Go.AI

set_option maxRecDepth 100000 in
theorem tabs_of {W : World} (hs : W.ShapedOpen Tryz.prog) (h : laidMetH Tryz.prog Rows.fnExactReadStockRow.laid W) : Tabs (Im W []) W := by
  rw [MakeChecks.laidMetH_plain _ _ _ (by kernel_rfl)] at h
  have im : ∀ {g : Nat} {v : Value}, W.cell? ⟨g, 0, none⟩ = some v → Im W [] g := fun q => ⟨lt_of_cell q, by simp [keys]⟩
  have h2 : laidMet Tryz.prog (("internal/strconv.uint64pow10", Lib.tabData .u64 Lib.pow10Tab) :: _) W := h.tail.tail
  obtain ⟨m, hm⟩ := cell_of_shapedOpen_int (g := 2) (t := 3) (zero := #[.int .i64 0]) (k := .i64) hs (by decide) (by kernel_rfl) rfl (by kernel_rfl) (by kernel_rfl) Tryz.underlying3
  obtain ⟨t1, u1, q1⟩ := if_of_laid (n := "strconv.ErrSyntax") (g := 0) (ti := 63) h (by exact .tail _ (.tail _ (.tail _ (.tail _ (.tail _ (.head _)))))) (by kernel_rfl) (by kernel_rfl) Tryz.underlying63
  obtain ⟨t2, u2, q2⟩ := if_of_laid (n := "strconv.ErrRange") (g := 1) (ti := 63) h (by exact .tail _ (.tail _ (.tail _ (.tail _ (.head _))))) (by kernel_rfl) (by kernel_rfl) Tryz.underlying63
  exact ⟨tab_at (by kernel_rfl) (Lib.tabIs_of_head (g := 3) (t := 176) (e := 114) (n := 20) (by kernel_rfl) rfl (by kernel_rfl) (by kernel_rfl) (by kernel_rfl) (by kernel_rfl) h2),
    ⟨im hm, m, hm⟩, ⟨im q1, _, q1, .inr ⟨_, _, rfl⟩⟩, im q2, _, q2, .inr ⟨_, _, rfl⟩⟩

set_option maxRecDepth 100000 in
theorem lifted (os : Os) (started : os.Started) (H : Type) (enc : TypeId × Value → H) :
    ReturnsInHanded {} Tryz.checked os 5 .any (fun w args => (Rows.fnExactReadStockSpec.pre enc Tryz.prog Tryz.f5 Rows.fnExactReadStockRow.domain false w args ∧ laidMetH Tryz.prog Rows.fnExactReadStockRow.laid w) ∧ sizedMet enc Tryz.prog Tryz.f5 (OpenSpec.ofChange Rows.fnExactReadStockSpec) false w args) (Rows.fnExactReadStockSpec.post enc Tryz.prog Tryz.f5 false true false false) := by
  refine handed_laid (C := Tryz.checked) (X := fun w _ => laidMetH Tryz.prog Rows.fnExactReadStockRow.laid w) (fun _ _ _ hh h => h.of_heap hh) own started (by kernel_rfl) Tryz.func5
    (ChangeSpec.witness_shaped (enc := enc) (C := Tryz.checked) (os := os) (X := fun w _ => laidMetH Tryz.prog Rows.fnExactReadStockRow.laid w) false (World.laidAll Tryz.prog os Rows.fnExactReadStockRow.laid) #[.agg #[.int .i64 0, .slice none 0 0, .slice none 0 0, .slice none 0 0], .string ⟨#[]⟩] 8 (World.laidAll_os _ _ _)
      (World.shaped_of_ZipB (by kernel_rfl) (by kernel_rfl)) (by kernel_rfl) (by kernel_rfl) (by kernel_rfl)
      (by rw [MakeChecks.laidMetH_plain _ _ _ (by kernel_rfl)]; exact laidMet_laidAll _ (by kernel_rfl) (by kernel_rfl))) ?_
  intro W base args ds gs before hval0 hW hshape hLaid
  have htab := tabs_of hshape hLaid
  have hval : ∀ (j : Nat) t v, Tryz.f5.params[j]? = some t → args[j]? = some v → Value.okWide Tryz.prog W .any base t v := hval0
  have hW' := hW
  obtain ⟨p, q, hA0, hV, rfl, hfz, hnd⟩ := hW
  have hA : DataW.TrodAll enc Tryz.prog W 0 (fun _ => true) true Tryz.f5.params.toList args.toList ds p := hA0
  rw [Tryz.params5] at hA hval
  obtain ⟨v0, vs0, d0, ds0, p0, q0, hargs, rfl, rfl, h0, r0⟩ := trodAll_cons hA
  obtain ⟨v1, vs1, d1, ds1, p1, q1, rfl, rfl, rfl, h1, r1⟩ := trodAll_cons r0
  obtain ⟨rfl, rfl, rfl⟩ := trodAll_nil r1
  obtain rfl : args = #[v0, v1] := by cases args; simp_all
  obtain ⟨rfl, rfl⟩ := trodVars_none hV
  have lt0 : ∀ x ∈ p0, x.block < W.heap.size := by obtain ⟨m, hm⟩ := h0; exact DataW.trod_lt m _ _ _ hm
  have lt1 : ∀ x ∈ p1, x.block < W.heap.size := by obtain ⟨m, hm⟩ := h1; exact DataW.trod_lt m _ _ _ hm
  obtain ⟨a0, e0⟩ := open_st Tryz.underlying48 rdPassing (hval 0 _ v0 rfl rfl) h0
  obtain ⟨s1, rfl, _, _, hl1⟩ := ChangeMaps.open_string Tryz.underlying9 (hval 1 _ v1 rfl rfl) h1
  have e1 : Rel (Im W []) W (.str s1.data.toList) (.string s1) := .str s1.data.toList (by have e : s1.data.toList.length = s1.size := rfl; unfold maxLen at hl1; unfold maxLn; omega)
  clear hA0 hval0
  refine ((c_FnExactReadStock a0 s1.data.toList).2 [] W _ (RelL.cons e0 (RelL.cons e1 RelL.nil)) ⟨by simp [keys], by simp, htab⟩).mono fun e W' ⟨u, he, hx, hr⟩ => ?_
  have hu := hr.raw_inv
  subst hu he
  have bel : Below W.heap.size W W' := hx.below
  exact ⟨_, rfl, _, _, _, [], _, [], hW', trodAll_mk1 (shut_bool Tryz.underlying4 _), (trodAll_cons_mk (Below.trod laidOut (by kernel_rfl) (of_decide_eq_true (by kernel_rfl)) h0 bel lt0) (trodAll_cons_mk (Below.trod laidOut (by kernel_rfl) (of_decide_eq_true (by kernel_rfl)) h1 bel lt1) trodAll_mk0)), rfl, bel.frame _, fun h => by cases h⟩

set_option maxRecDepth 100000 in
set_option maxHeartbeats 64000000 in
theorem closed : joinedFacts Tryz.prog 5 Tryz.f5 Rows.fnExactReadStockSpec Rows.fnExactReadStockRow = true := by
  unfold joinedFacts
  simp only [Bool.and_eq_true]
  repeat' (refine And.intro ?_ ?_)
  all_goals as_aux_lemma => kernel_rfl

theorem over : Rows.fnExactReadStockRow.holds Tryz.pinned (OpenSpec.ofChange Rows.fnExactReadStockSpec) :=
  OpenClaim.holds_of_wide 5 Tryz.f5 rfl rfl rfl rfl rfl rfl rfl ⟨rfl, rfl, rfl, rfl, rfl⟩ rfl rfl rfl rfl rfl (by kernel_rfl) Tryz.func5 closed
    (of_decide_eq_true (by kernel_rfl)) (by unfold Func.isWrapper; first | (rw [if_pos (by decide +kernel)]; kernel_rfl) | (rw [if_neg (by decide +kernel)]; exact ⟨rfl, rfl⟩))
    (fun os started H enc _ => lifted os started H enc)

set_option maxRecDepth 100000 in
theorem proved : Rows.FnExactReadStockCardSaid :=
  Claim7.holds_tied_plain_at .later [] [.data, .data, .data, .data, .sentinel, .sentinel, .pinned] true Rows.fnExactReadStockCard.stood.harness true
    over (fun _ h => by cases h) (by kernel_rfl) (fun _ h => by cases h) fnExactReadStock_row_tie rfl ⟨rfl, rfl⟩ (by kernel_rfl) rfl
    (fun f fn hf hfn => by
      obtain rfl : f = 5 := Option.some.inj ((show Tryz.prog.funcNamed "loop.example/g01116/laws.FnExactReadStock" = some 5 by kernel_rfl).symm.trans hf) |>.symm
      obtain rfl : fn = Tryz.f5 := (Option.some.inj (Tryz.func5.symm.trans hfn)).symm
      exact ⟨by kernel_rfl, fun j t ht => by
        rw [Tryz.params5] at ht
        rcases j with _ | _ | j
        all_goals first | (simp at ht; done) | (simp at ht; subst ht; kernel_rfl)⟩)
    (by kernel_rfl)
#print axioms proved
end Go.Proofs.YtmcljepicadjfaaGreatDoor.FnExactReadStock
