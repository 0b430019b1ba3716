/-
  A passing system and a stock that are drawn: both are right, and small. No condition.
-/
import Derived.Test.YtbpmmdecaonopaaGreatZD2
import Derived.Test.YtbpmmdecaonopaaGreatZP
import Derived.KernelRfl
namespace Go.Proofs.YtbpmmdecaonopaaGreat
open Go.AI
set_option maxRecDepth 8000
set_option maxHeartbeats 1600000

def slA (l : List Int) : A := .sl (l.map Go.AI.encI)
theorem set_last (vs : List A) (x y : A) : ((vs ++ [x]).map (fun a => [a])).flatten.set vs.length y = ((vs ++ [y]).map (fun a => [a])).flatten := by
  rw [sing_flat, sing_flat]; simp
theorem get_last (vs : List A) (x : A) : ((vs ++ [x]).map (fun a => [a])).flatten[vs.length]? = some x := by
  rw [sing_flat]; simp
theorem slA_flat (cells : List (List Int)) : ((cells.map slA).map (fun a => [a])).flatten = (cells.map (encS Go.AI.encI)).flatten := by rw [List.map_map]; rfl
abbrev stkB (b : Nat) (cs : List A) : Blk := ⟨some b, 31, 2, cs⟩
abbrev clB (b : Option Nat) (cap : Nat) (vs : List A) : Blk := ⟨b, 24, cap * 1, (vs.map (fun a => [a])).flatten⟩
/-- A small system. -/
def PasSm (p : Passing) : Prop := p.Ok ∧ p.kinds ≤ 3 ∧ p.parents.length ≤ 3 ∧ p.rules.length ≤ 4 ∧ (∀ r ∈ p.rules, (∀ x ∈ r.out, 0 ≤ x ∧ x ≤ 2) ∧ ∀ x ∈ r.in_, 0 ≤ x ∧ x ≤ 2)
def StkSm (p : Passing) (s : Stock) : Prop := p.StockOk s ∧ (∀ c ∈ s.cells, ∀ x ∈ c, 0 ≤ x ∧ x ≤ 3) ∧ ∀ x ∈ s.around, 0 ≤ x ∧ x ≤ 2
def PasStR : A → Heap → Prop := fun v h' => ∃ (p : Passing) (s : Stock) (k1 k2 : Blk), PasSm p ∧ StkSm p s ∧ v = .tup [.agg (encPassing p), .agg (encStock s)] ∧ h' = [k1, k2]
theorem o_P6Passing (code : List UInt8) : Does Tryz.prog 5 [.sl (code.map encY)] [] PasStR := by
  refine fn_of_runD tyOk ztOk mix Tryz.func5 rfl (by decide) Tryz.ntmps5 (fun w0 F => ?_)
  change Run _ _ _ _ _ F
  repeat' (first
      | (refine j_go ?_; first
        | refine j_op0 rfl rfl rfl rfl ?_ | refine j_alloc rfl rfl rfl rfl rfl (fun _ => ?_))
      | refine j_nil ?_
      | (refine r_go ?_; first | refine run_seq ?_ | refine run_region ?_)
      | refine seqQ_normal ?_)
  rename_i b2 b3
  refine j_kCall rfl rfl rfl rfl ?_
  refine jcp (_ :: _ :: F) (o_from code) (List.Perm.refl _) (LeL.refl _) rfl rfl (fun v h1 hR => ?_)
  obtain ⟨s, rfl, rfl⟩ := hR
  repeat' (first
      | (refine j_go ?_; first
        | refine j_op0 rfl rfl rfl rfl ?_)
      | refine j_nil ?_
      | (refine r_go ?_; first | refine run_seq ?_ | refine run_region ?_)
      | refine seqQ_normal ?_)
  refine j_kCall rfl rfl rfl rfl ?_
  refine jcp (_ :: _ :: F) (o_l06Draw s code 0 0 (by omega)) (List.Perm.refl _) (LeL.refl _) rfl rfl (fun v h1 hR => ?_)
  obtain ⟨p, a1, sd1, k0, hp1, hp2, hp3, hp4, hp5, rfl, ha1, rfl⟩ := hR
  refine j_view (view_sub (List.sublist_cons_self _ _)) ?_
  have hf := hp1.1
  have hkin := hf.1
  have hfl := hf.2.2.2.1
  repeat' (first
      | (refine j_go ?_; first
        | refine j_op0 rfl rfl rfl rfl ?_ | (refine j_kStore rfl ?_; first | refine j_storeN 0 rfl rfl rfl rfl rfl rfl rfl rfl rfl rfl rfl ?_) | refine j_build rfl rfl rfl rfl rfl rfl rfl ?_ | refine j_alloc rfl rfl rfl rfl rfl (fun _ => ?_))
      | refine j_nil ?_
      | (refine r_go ?_; first | refine run_seq ?_ | refine run_region ?_ | refine run_block ?_)
      | refine seqQ_normal ?_)
  rename_i b5 b6
  refine run_view (view_freezeP 1 5 rfl rfl) ?_
  refine run_view (view_none 24 (0 * 1) rfl) ?_
  refine run_view (view_perm rev3) ?_
  refine run_loop (fun x : Nat × List A × List (List Int) × Option Nat × Nat × Nat × Int => [(2, .op (some b2) 0), (3, .op (some b3) 0), (4, .op (some s) 0), (5, .ip (encPassing p)), (6, .op (some b6) 0), (7, .int (x.1 : Int))])
    (fun x => srcB s code x.2.2.2.2.2.1 x.2.2.2.2.2.2 :: stkB b6 [.os x.2.2.2.1 x.2.1.length x.2.2.2.2.1, .os none 0 0] :: clB x.2.2.2.1 x.2.2.2.2.1 x.2.1 :: stkB b3 [.os none 0 0, .os none 0 0] :: pasB b2 [.int 0, .os none 0 0, .os none 0 0, .os none 0 0] :: F)
    (fun x => x.1 ≤ p.parents.length ∧ x.2.1 = x.2.2.1.map slA ∧ x.2.2.1.length = x.1 ∧ (∀ c ∈ x.2.2.1, (c.length : Int) = p.kinds ∧ ∀ y ∈ c, 0 ≤ y ∧ y ≤ 3) ∧ x.2.2.2.2.2.1 ≤ 200 + 10 * x.1) (fun x => p.parents.length - x.1) (0, [], [], none, 0, a1, sd1) ⟨rfl, rfl, rfl, rfl, rfl, rfl, trivial⟩ rfl ⟨Nat.zero_le _, rfl, rfl, by simp, by dsimp only; omega⟩ (fun ⟨k, vs, cells, b, cap, a, sd⟩ ⟨kl, hv, hc, hx, hA⟩ => ?_)
  dsimp only at kl hv hc hx hA ⊢
  have hvl : vs.length = k := by rw [hv, List.length_map, hc]
  by_cases hk : k < p.parents.length
  case pos =>
    repeat' (first
      | (refine j_go ?_; first
        | refine j_op0 rfl rfl rfl rfl ?_ | (refine j_kLen rfl ?_; first | refine j_len rfl rfl rfl rfl rfl rfl ?_))
      | refine j_nil ?_
      | (refine j_goO ?_; first
        | refine j_op0O rfl rfl rfl rfl ?_ | (refine j_kLoadO rfl ?_; first | refine j_mloadS 1 rfl rfl rfl rfl rfl rfl rfl ?_))
      | (refine r_go ?_; first | refine run_seq ?_ | refine run_region ?_ | (refine (run_if rfl (fun hb => ?_) (fun hb => ?_)) <;> first | (exfalso; omega) | skip) | refine run_block ?_ | refine run_skip ?_ | refine run_opn 7 [⟨0, false, false, 0⟩, ⟨1, false, false, 0⟩, ⟨2, true, false, 0⟩, ⟨3, true, false, 0⟩, ⟨4, true, false, 0⟩, ⟨5, false, true, 0⟩, ⟨6, true, false, 0⟩, ⟨7, false, true, 0⟩, ⟨8, true, false, 0⟩, ⟨9, false, true, 0⟩] rfl rfl (by kernel_rfl) ?_)
      | refine seqQ_normal ?_)
    refine j_kCallO rfl rfl rfl rfl ?_
    refine jcdO 0 1 rfl (fun k hk => by rw [memB1 hk]; exact List.mem_cons_self) (o_l06Objects s code a sd p.kinds 3 (by omega) (by omega) (by omega)) rfl (LeL.refl _) rfl rfl (fun v h1 hR => ?_)
    obtain ⟨l, bl, cl, a3, sd3, rfl, hl1, hl2, ha3, rfl⟩ := hR
    refine j_dropO [1] rfl (by kernel_rfl) ?_
    repeat' (first
      | (refine j_goO ?_; first
        | (refine j_kBslO rfl ?_; first | refine j_bslO rfl rfl rfl rfl rfl rfl rfl rfl rfl rfl rfl ?_)))
    refine j_appendO 3 (g := fun a => [a]) (ys := vs) [A.os bl l.length cl] rfl (fun _ hk => nomatch hk) rfl rfl rfl rfl rfl rfl rfl rfl rfl rfl rfl rfl (fun _ => rfl) (fun _ hy => by simp only [List.mem_singleton] at hy; subst hy; rfl) ⟨by simp only [List.length_cons, List.length_nil]; omega, by simp only [List.length_cons, List.length_nil]; omega⟩ rfl rfl (fun b' cap' => ?_)
    repeat' (first
      | (refine j_go ?_; first
        | refine j_op0 rfl rfl rfl rfl ?_ | (refine j_kBin rfl ?_; first | refine j_in rfl rfl ⟨by omega, by omega⟩ rfl rfl ?_))
      | refine j_nil ?_
      | (refine j_goO ?_; first
        | refine j_op0O rfl rfl rfl rfl ?_ | (refine j_kStoreO rfl ?_; first | refine j_storeO 2 rfl rfl rfl rfl rfl rfl rfl rfl rfl rfl rfl rfl (by first | (intro _ hk; exact absurd hk List.not_mem_nil) | (intro k hk; simp at hk ⊢; try simp [hk])) ?_))
      | refine j_nilO ?_
      | (refine r_go ?_; first | refine run_region ?_)
      | refine seqQ_normal ?_ | refine blockQ_normal ?_)
    have e1 : (vs ++ [A.os bl l.length cl]).length = (vs ++ [slA l]).length := by simp
    refine loopQ_view (view_cellF (k := vs.length) (b := b') (h1 := [lsB bl cl l]) (F := _ :: _ :: _ :: _ :: F) (List.perm_middle (l₁ := [_, _, _])) (get_last vs _) (FrzF.flat (g := Go.AI.encI) (ys := l) (z := 1) rfl rfl (fun _ => rfl) rfl rfl)) ?_
    refine loopQ_view (view_perm (List.perm_middle (l₁ := [_, _])).symm) ?_
    rw [show A.sl (l.map Go.AI.encI) = slA l from rfl, set_last, e1]
    exact loopQ_next (k + 1, vs ++ [slA l], cells ++ [l], b', cap', a3, sd3) ⟨by dsimp only; omega, by dsimp only; rw [hv, List.map_append]; rfl, by dsimp only; rw [List.length_append, hc]; rfl, fun c h => by
      rcases List.mem_append.1 h with h | h
      · exact hx c h
      · rw [List.mem_singleton] at h; subst h; exact ⟨hl1, hl2⟩, by dsimp only; omega⟩ (by dsimp only; omega) rfl ⟨rfl, rfl, rfl, rfl, rfl, nx _, trivial⟩
  obtain rfl : k = p.parents.length := by omega
  repeat' (first
      | (refine j_go ?_; first
        | refine j_op0 rfl rfl rfl rfl ?_ | (refine j_kLen rfl ?_; first | refine j_len rfl rfl rfl rfl rfl rfl ?_))
      | refine j_nil ?_
      | (refine r_go ?_; first | refine run_seq ?_ | refine run_region ?_ | (refine (run_if rfl (fun hb => ?_) (fun hb => ?_)) <;> first | (exfalso; omega) | skip) | refine run_exit ?_)
      | refine seqQ_normal ?_ | refine seqQ_exit ?_ | refine blockQ_eq ?_ | refine loopQ_exit ?_)
  refine j_kCall rfl rfl rfl rfl ?_
  refine jcp (_ :: _ :: _ :: _ :: F) (o_l06Objects s code a sd p.kinds 2 (by omega) (by omega) (by omega)) (List.Perm.refl _) (LeL.refl _) rfl rfl (fun v h1 hR => ?_)
  obtain ⟨l0, bl, cl, a3, sd3, rfl, hl1, hl2, ha3, rfl⟩ := hR
  repeat' (first
      | (refine j_go ?_; first
        | refine j_op0 rfl rfl rfl rfl ?_ | (refine j_kStore rfl ?_; first | refine j_store 2 rfl rfl rfl rfl rfl rfl rfl rfl rfl rfl rfl ?_))
      | refine j_nil ?_
      | (refine r_go ?_; first | refine run_seq ?_ | refine run_region ?_ | refine run_block ?_)
      | refine seqQ_normal ?_)
  refine run_some 0 rfl (fun q => by have := flat_len (f := Go.AI.encI) (z := 1) (fun _ => rfl) l0; rw [q] at this; simp at this; omega) (fun bq hbq => ?_)
  subst hbq
  refine run_loop (fun x : Nat × List Int => [(2, .op (some b2) 0), (3, .op (some b3) 0), (5, .ip (encPassing p)), (6, .op (some b6) 0), (8, .int (x.1 : Int))])
    (fun x => lsB (some bq) cl x.2 :: srcB s code a3 sd3 :: stkB b6 [.os b vs.length cap, .os (some bq) l0.length cl] :: clB b cap vs :: stkB b3 [.os none 0 0, .os none 0 0] :: pasB b2 [.int 0, .os none 0 0, .os none 0 0, .os none 0 0] :: F)
    (fun x => (x.1 : Int) ≤ p.kinds ∧ x.2.length = l0.length ∧ (∀ y ∈ x.2, 0 ≤ y ∧ y ≤ 2) ∧ ∀ j (hj : j < x.2.length), j < x.1 → p.free[j]? = some true → x.2[j] = 0) (fun x => p.kinds.toNat - x.1) (0, l0) ⟨rfl, rfl, rfl, rfl, rfl, trivial⟩ rfl ⟨by dsimp only; omega, rfl, hl2, fun j _ q => absurd q (Nat.not_lt_zero _)⟩ (fun ⟨k, l⟩ ⟨kl, hll, hy, hz⟩ => ?_)
  dsimp only at kl hll hy hz ⊢
  by_cases hk : (k : Int) < p.kinds
  case pos =>
    have hkf : k < p.free.length := by omega
    have hkl : k < l.length := by omega
    repeat' (first
      | (refine j_go ?_; first
        | refine j_op0 rfl rfl rfl rfl ?_ | (refine j_kIdx rfl ?_; first | refine j_idx rfl rfl rfl rfl rfl (by omega) rfl rfl rfl ?_ | refine j_midx rfl rfl rfl rfl rfl (by first | omega | (simp only [List.length_append, List.length_cons, List.length_nil]; omega)) rfl rfl ?_) | (refine j_kBin rfl ?_; first | refine j_in rfl rfl ⟨by omega, by omega⟩ rfl rfl ?_) | (refine j_kLoad rfl ?_; first | refine j_mload 2 rfl rfl rfl rfl rfl rfl rfl ?_))
      | refine j_nil ?_
      | (refine r_go ?_; first | refine run_seq ?_ | refine run_region ?_ | (refine (run_if rfl (fun hb => ?_) (fun hb => ?_)) <;> first | (exfalso; omega) | skip) | refine run_block ?_ | refine run_skip ?_ | refine run_cond rfl (fun hb => ?_) (fun hb => ?_))
      | refine seqQ_normal ?_ | refine blockQ_normal ?_)
    · refine j_storeE 0 k (g := Go.AI.encI) (L := l) (sz := 1) (0 : Int) rfl rfl rfl rfl rfl rfl rfl rfl rfl (fun _ => rfl) (by omega) (by omega) ?_
      repeat' (first
      | (refine j_go ?_; first
        | refine j_op0 rfl rfl rfl rfl ?_ | (refine j_kBin rfl ?_; first | refine j_in rfl rfl ⟨by omega, by omega⟩ rfl rfl ?_))
      | refine j_nil ?_
      | (refine r_go ?_; first | refine run_region ?_)
      | refine seqQ_normal ?_ | refine blockQ_normal ?_)
      exact loopQ_next (k + 1, l.set k 0) ⟨by dsimp only; omega, by dsimp only; rw [List.length_set]; exact hll, fun y h => by
        rcases List.mem_or_eq_of_mem_set h with q | q
        · exact hy y q
        · subst q; omega, fun j hj hjk hf2 => by
        dsimp only at hj hjk ⊢
        rw [List.getElem_set]
        split
        · rfl
        · rw [List.length_set] at hj; exact hz j hj (by omega) hf2⟩ (by dsimp only; omega) rfl ⟨rfl, rfl, rfl, rfl, nx _, trivial⟩
    · exact loopQ_next (k + 1, l) ⟨by dsimp only; omega, hll, hy, fun j hj hjk hf2 => by
        dsimp only at hj hjk ⊢
        by_cases q : j = k
        · subst q; rw [List.getElem?_eq_getElem hkf] at hf2; exact absurd (hb.symm.trans (Option.some.inj hf2)) (by decide)
        · exact hz j hj (by omega) hf2⟩ (by dsimp only; omega) rfl ⟨rfl, rfl, rfl, rfl, nx _, trivial⟩
  have hke : (k : Int) = p.kinds := by omega
  have hcl : vs.length = cells.length := by rw [hv, List.length_map]
  refine run_view (view_cellF (k := 1) (b := some b6) (h1 := [lsB (some bq) cl l]) (F := _ :: _ :: _ :: _ :: F) (List.perm_middle (l₁ := [_, _])) rfl (FrzF.flat (g := Go.AI.encI) (ys := l) (z := 1) hll.symm rfl (fun _ => rfl) rfl rfl)) ?_
  refine run_view (view_cellF (k := 0) (b := some b6) (h1 := [clB b cap vs]) (F := _ :: _ :: _ :: F) (List.Perm.cons _ (List.Perm.swap _ _ _)) rfl (FrzF.flat (g := encS Go.AI.encI) (ys := cells) (z := 1) hcl (by rw [hv, slA_flat]) (fun _ => rfl) rfl rfl)) ?_
  refine run_view (view_sub ((List.sublist_cons_self _ _).cons_cons _)) ?_
  repeat' (first
      | (refine j_go ?_; first
        | refine j_op0 rfl rfl rfl rfl ?_)
      | refine j_nil ?_
      | (refine j_goO ?_; first
        | refine j_op0O rfl rfl rfl rfl ?_ | (refine j_kLoadO rfl ?_; first | refine j_mloadS 0 rfl rfl rfl rfl rfl rfl rfl ?_) | (refine j_kStoreO rfl ?_; first | refine j_storeNO 1 rfl rfl rfl rfl rfl rfl rfl rfl rfl rfl rfl rfl (by first | (intro _ hk; exact absurd hk List.not_mem_nil) | (intro k hk; simp at hk ⊢; try simp [hk])) ?_ | refine j_storeNO 2 rfl rfl rfl rfl rfl rfl rfl rfl rfl rfl rfl rfl (by first | (intro _ hk; exact absurd hk List.not_mem_nil) | (intro k hk; simp at hk ⊢; try simp [hk])) ?_))
      | refine j_nilO ?_
      | (refine r_go ?_; first | refine run_seq ?_ | refine run_region ?_ | (refine (run_if rfl (fun hb => ?_) (fun hb => ?_)) <;> first | (exfalso; omega) | skip) | refine run_ret ?_ | refine run_exit ?_ | refine run_opn 14 [⟨0, true, false, 0⟩, ⟨1, false, false, 0⟩, ⟨2, false, true, 0⟩, ⟨3, false, true, 0⟩] rfl rfl (by kernel_rfl) ?_)
      | refine seqQ_normal ?_ | refine seqQ_exit ?_ | refine blockQ_eq ?_ | refine loopQ_exit ?_)
  refine endD_view (view_sub (List.sublist_cons_self _ _)) ?_
  have hso : p.StockOk ⟨cells, l⟩ := ⟨by dsimp only; omega, ⟨⟨fun x hx => by have := hy x hx; omega, by dsimp only; omega⟩, by dsimp only; omega⟩, fun c hc2 => ⟨⟨fun x hx3 => by have := (hx c hc2).2 x hx3; omega, by have := (hx c hc2).1; omega⟩, (hx c hc2).1⟩, fun i hi ⟨q1, q2⟩ => by
    have := hz i hi (by dsimp only at hi; omega) q2
    dsimp only at q1
    omega⟩
  exact endD_ret (h1 := [_, _]) rfl (vs := [_, _]) (.cons (.cellM (b := b2) rfl (List.mem_cons_of_mem _ List.mem_cons_self) rfl) (.cons (.cellM (b := b3) rfl List.mem_cons_self rfl) .nil)) (Le.refl _) ⟨p, ⟨cells, l⟩, _, _, ⟨hp1, hp2, hp3, hp4, hp5⟩, ⟨hso, fun c hc2 => (hx c hc2).2, hy⟩, rfl, rfl⟩ (.inl rfl)
end Go.Proofs.YtbpmmdecaonopaaGreat

/-
  A number that is drawn. No condition.
-/
namespace Go.Proofs.YtbpmmdecaonopaaGreat
open Go.AI
set_option maxRecDepth 8000
set_option maxHeartbeats 1600000
theorem o_P6Pick (code : List UInt8) (m : Int) (hm : m ≤ 100000) : Does Tryz.prog 6 [.sl (code.map encY), .int m] [] (fun v h' => ∃ r, v = .int r ∧ (0 ≤ r ∧ (r < m ∨ r = 0 ∧ m ≤ 1)) ∧ h' = []) := by
  refine fn_of_runD tyOk ztOk mix Tryz.func6 rfl (by decide) Tryz.ntmps6 (fun w0 F => ?_)
  change Run _ _ _ _ _ F
  repeat' (first
      | (refine j_go ?_; first
        | refine j_op0 rfl rfl rfl rfl ?_)
      | refine j_nil ?_
      | (refine r_go ?_; first | refine run_seq ?_ | refine run_region ?_)
      | refine seqQ_normal ?_)
  refine j_kCall rfl rfl rfl rfl ?_
  refine jcp F (o_from code) (List.Perm.refl _) (LeL.refl _) rfl rfl (fun v h1 hR => ?_)
  obtain ⟨s, rfl, rfl⟩ := hR
  repeat' (first
      | (refine j_go ?_; first
        | refine j_op0 rfl rfl rfl rfl ?_))
  refine j_kCall rfl rfl rfl rfl ?_
  refine jcp F (o_pick s code 0 0 m (by omega) hm) (List.Perm.refl _) (LeL.refl _) rfl rfl (fun v h1 hR => ?_)
  obtain ⟨r, a1, sd1, rfl, hr, ha1, rfl⟩ := hR
  repeat' (first
      | (refine j_go ?_; first
        | refine j_op0 rfl rfl rfl rfl ?_)
      | refine j_nil ?_
      | (refine r_go ?_; first | refine run_ret ?_)
      | refine seqQ_normal ?_)
  refine endD_view (view_sub (List.sublist_cons_self _ _)) ?_
  exact endD_ret (h1 := []) rfl (.cons (.tmp rfl) .nil) (Le.refl _) ⟨r, rfl, hr, rfl⟩ (.inl rfl)
end Go.Proofs.YtbpmmdecaonopaaGreat

/-
  Bytes read as data, and the program's own laws of layout. No condition.
-/
namespace Go.Proofs.YtbpmmdecaonopaaGreat
open Go.AI Go.RowKit
theorem rd_u8 {H : Type} {enc : TypeId × Value → H} {P : Program} {W : World} {t : TypeId} (ht : P.underlying t = some (.int .u8)) : Rd enc P W t encY := fun fuel cs x h => by
  obtain ⟨n, rfl, _, hw⟩ := DataW.trod_int ht h
  have := hw
  simp [Lit.wf, IntKind.min, IntKind.max, IntKind.signed, IntKind.bits] at this
  have e : n = ((UInt8.ofNat n.toNat).toNat : Int) := by
    rw [UInt8.toNat_ofNat']
    omega
  refine ⟨UInt8.ofNat n.toNat, RelL.cons ?_ RelL.nil⟩
  have r : Rel (Im W []) W (.u8 (UInt8.ofNat n.toNat)) (.int .u8 ((UInt8.ofNat n.toNat).toNat : Int)) := .u8 _
  rw [← e] at r
  exact r
theorem own : ownKnob Tryz.prog.godebug = none := by kernel_rfl
theorem laidOut : laidOutB Tryz.prog = true := by kernel_rfl
end Go.Proofs.YtbpmmdecaonopaaGreat
