/-
  The law FnExactReadPassing, whatever the input: it answers true and leaves its arguments as they were; its card, tied. No condition but the listed tables.
-/
import Derived.Test.YtmcljepicadjfaaGreatDoorRows
import Derived.Test.YtmcljepicadjfaaGreatDoorCards
import Derived.Test.YtmcljepicadjfaaGreatDoorTie
import Derived.Test.YtmcljepicadjfaaGreatDoorZHn
import Derived.ChangeMaps5
import Derived.WalkKit
import Derived.OpenShut
import Derived.ChangeOld
import Derived.Below
import Derived.Lay
import Derived.MakeChecks
import Derived.Lib.LaidTab
import Derived.Stop.LaidErr
import Derived.SevenTiedAt
import Derived.JoinedOf
namespace Go.Proofs.YtmcljepicadjfaaGreatDoor.FnExactReadPassing
open Go.ChangeShapes Go.WideShapes Go.ChangeAt Go.RowKit Go.AI

theorem own : ownKnob Tryz.prog.godebug = none := by kernel_rfl
theorem laidOut : laidOutB Tryz.pinned.checked.prog = true := by kernel_rfl
set_option maxRecDepth 100000 in
theorem tabs_of {W : World} (hs : W.ShapedOpen Tryz.prog) (h : laidMetH Tryz.prog Rows.fnExactReadPassingRow.laid W) : Tabs (Im W []) W := by
  rw [MakeChecks.laidMetH_plain _ _ _ (by kernel_rfl)] at h
  have im : ∀ {g : Nat} {v : Value}, W.cell? ⟨g, 0, none⟩ = some v → Im W [] g := fun q => ⟨lt_of_cell q, by simp [keys]⟩
  have h2 : laidMet Tryz.prog (("internal/strconv.uint64pow10", Lib.tabData .u64 Lib.pow10Tab) :: _) W := h.tail.tail
  obtain ⟨m, hm⟩ := cell_of_shapedOpen_int (g := 2) (t := 3) (zero := #[.int .i64 0]) (k := .i64) hs (by decide) (by kernel_rfl) rfl (by kernel_rfl) (by kernel_rfl) Tryz.underlying3
  obtain ⟨t1, u1, q1⟩ := if_of_laid (n := "strconv.ErrSyntax") (g := 0) (ti := 63) h (by exact .tail _ (.tail _ (.tail _ (.tail _ (.tail _ (.head _)))))) (by kernel_rfl) (by kernel_rfl) Tryz.underlying63
  obtain ⟨t2, u2, q2⟩ := if_of_laid (n := "strconv.ErrRange") (g := 1) (ti := 63) h (by exact .tail _ (.tail _ (.tail _ (.tail _ (.head _))))) (by kernel_rfl) (by kernel_rfl) Tryz.underlying63
  exact ⟨tab_at (by kernel_rfl) (Lib.tabIs_of_head (g := 3) (t := 176) (e := 114) (n := 20) (by kernel_rfl) rfl (by kernel_rfl) (by kernel_rfl) (by kernel_rfl) (by kernel_rfl) h2),
    ⟨im hm, m, hm⟩, ⟨im q1, _, q1, .inr ⟨_, _, rfl⟩⟩, im q2, _, q2, .inr ⟨_, _, rfl⟩⟩

set_option maxRecDepth 100000 in
theorem lifted (os : Os) (started : os.Started) (H : Type) (enc : TypeId × Value → H) :
    ReturnsInHanded {} Tryz.checked os 4 .any (fun w args => (Rows.fnExactReadPassingSpec.pre enc Tryz.prog Tryz.f4 Rows.fnExactReadPassingRow.domain false w args ∧ laidMetH Tryz.prog Rows.fnExactReadPassingRow.laid w) ∧ sizedMet enc Tryz.prog Tryz.f4 (OpenSpec.ofChange Rows.fnExactReadPassingSpec) false w args) (Rows.fnExactReadPassingSpec.post enc Tryz.prog Tryz.f4 false true false false) := by
  refine handed_laid (C := Tryz.checked) (X := fun w _ => laidMetH Tryz.prog Rows.fnExactReadPassingRow.laid w) (fun _ _ _ hh h => h.of_heap hh) own started (by kernel_rfl) Tryz.func4
    (ChangeSpec.witness_shaped (enc := enc) (C := Tryz.checked) (os := os) (X := fun w _ => laidMetH Tryz.prog Rows.fnExactReadPassingRow.laid w) false (World.laidAll Tryz.prog os Rows.fnExactReadPassingRow.laid) #[.string ⟨#[]⟩] 8 (World.laidAll_os _ _ _)
      (World.shaped_of_ZipB (by kernel_rfl) (by kernel_rfl)) (by kernel_rfl) (by kernel_rfl) (by kernel_rfl)
      (by rw [MakeChecks.laidMetH_plain _ _ _ (by kernel_rfl)]; exact laidMet_laidAll _ (by kernel_rfl) (by kernel_rfl))) ?_
  intro W base args ds gs before hval0 hW hshape hLaid
  have htab := tabs_of hshape hLaid
  have hval : ∀ (j : Nat) t v, Tryz.f4.params[j]? = some t → args[j]? = some v → Value.okWide Tryz.prog W .any base t v := hval0
  have hW' := hW
  obtain ⟨p, q, hA0, hV, rfl, hfz, hnd⟩ := hW
  have hA : DataW.TrodAll enc Tryz.prog W 0 (fun _ => true) true Tryz.f4.params.toList args.toList ds p := hA0
  rw [Tryz.params4] at hA hval
  obtain ⟨v0, vs0, d0, ds0, p0, q0, hargs, rfl, rfl, h0, r0⟩ := trodAll_cons hA
  obtain ⟨rfl, rfl, rfl⟩ := trodAll_nil r0
  obtain rfl : args = #[v0] := by cases args; simp_all
  obtain ⟨rfl, rfl⟩ := trodVars_none hV
  have lt0 : ∀ x ∈ p0, x.block < W.heap.size := by obtain ⟨m, hm⟩ := h0; exact DataW.trod_lt m _ _ _ hm
  obtain ⟨s0, rfl, _, _, hl0⟩ := ChangeMaps.open_string Tryz.underlying9 (hval 0 _ v0 rfl rfl) h0
  have e0 : Rel (Im W []) W (.str s0.data.toList) (.string s0) := .str s0.data.toList (by have e : s0.data.toList.length = s0.size := rfl; unfold maxLen at hl0; unfold maxLn; omega)
  clear hA0 hval0
  refine ((c_FnExactReadPassing s0.data.toList).2 [] W _ (RelL.cons e0 RelL.nil) ⟨by simp [keys], by simp, htab⟩).mono fun e W' ⟨u, he, hx, hr⟩ => ?_
  have hu := hr.raw_inv
  subst hu he
  have bel : Below W.heap.size W W' := hx.below
  exact ⟨_, rfl, _, _, _, [], _, [], hW', trodAll_mk1 (shut_bool Tryz.underlying4 _), (trodAll_cons_mk (Below.trod laidOut (by kernel_rfl) (of_decide_eq_true (by kernel_rfl)) h0 bel lt0) trodAll_mk0), rfl, bel.frame _, fun h => by cases h⟩

set_option maxRecDepth 100000 in
set_option maxHeartbeats 64000000 in
theorem closed : joinedFacts Tryz.prog 4 Tryz.f4 Rows.fnExactReadPassingSpec Rows.fnExactReadPassingRow = true := by
  unfold joinedFacts
  simp only [Bool.and_eq_true]
  repeat' (refine And.intro ?_ ?_)
  all_goals as_aux_lemma => kernel_rfl

theorem over : Rows.fnExactReadPassingRow.holds Tryz.pinned (OpenSpec.ofChange Rows.fnExactReadPassingSpec) :=
  OpenClaim.holds_of_wide 4 Tryz.f4 rfl rfl rfl rfl rfl rfl rfl ⟨rfl, rfl, rfl, rfl, rfl⟩ rfl rfl rfl rfl rfl (by kernel_rfl) Tryz.func4 closed
    (of_decide_eq_true (by kernel_rfl)) (by unfold Func.isWrapper; first | (rw [if_pos (by decide +kernel)]; kernel_rfl) | (rw [if_neg (by decide +kernel)]; exact ⟨rfl, rfl⟩))
    (fun os started H enc _ => lifted os started H enc)

set_option maxRecDepth 100000 in
theorem proved : Rows.FnExactReadPassingCardSaid :=
  Claim7.holds_tied_plain_at .later [] [.data, .data, .data, .data, .sentinel, .sentinel, .pinned] true Rows.fnExactReadPassingCard.stood.harness true
    over (fun _ h => by cases h) (by kernel_rfl) (fun _ h => by cases h) fnExactReadPassing_row_tie rfl ⟨rfl, rfl⟩ (by kernel_rfl) rfl
    (fun f fn hf hfn => by
      obtain rfl : f = 4 := Option.some.inj ((show Tryz.prog.funcNamed "loop.example/g01116/laws.FnExactReadPassing" = some 4 by kernel_rfl).symm.trans hf) |>.symm
      obtain rfl : fn = Tryz.f4 := (Option.some.inj (Tryz.func4.symm.trans hfn)).symm
      exact ⟨by kernel_rfl, fun j t ht => by
        rw [Tryz.params4] at ht
        rcases j with _ | j
        all_goals first | (simp at ht; done) | (simp at ht; subst ht; kernel_rfl)⟩)
    (by kernel_rfl)
#print axioms proved
end Go.Proofs.YtmcljepicadjfaaGreatDoor.FnExactReadPassing
