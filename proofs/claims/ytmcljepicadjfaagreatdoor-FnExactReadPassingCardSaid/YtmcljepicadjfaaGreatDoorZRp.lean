/-
  Texts of passing systems: PassingText of both sides. No condition.
-/
import Derived.Test.YtmcljepicadjfaaGreatDoorZRe
import Derived.Test.YtmcljepicadjfaaGreatDoorZRf
namespace Go.Proofs.YtmcljepicadjfaaGreatDoor
open Go.AI Go.RowKit
set_option maxRecDepth 8000
set_option maxHeartbeats 3200000
def ruleT (r : PassRule) : List UInt8 := [112, 97, 115, 115, 32] ++ dcm r.cell ++ [32] ++ bagT r.out ++ [32, 47, 32] ++ bagT r.in_ ++ [10]
def frK (l : List Bool) : Nat → List UInt8
  | 0 => []
  | k + 1 => if l.getD k false = true then frK l k ++ [UInt8.ofNat (97 + k)] else frK l k
def frT (l : List Bool) : List UInt8 := if frK l l.length = [] then [45] else frK l l.length
def pasH (p : Passing) : List UInt8 := [112, 97, 115, 115, 105, 110, 103, 32] ++ dcm p.kinds ++ [10, 99, 101, 108, 108, 115, 32, 45]
def pasF (p : Passing) : List UInt8 := [10, 102, 114, 101, 101, 32] ++ frT p.free ++ [10]
def passT (p : Passing) : List UInt8 := pasH p ++ catK vT (p.parents.drop 1) (p.parents.drop 1).length ++ pasF p ++ catK ruleT p.rules p.rules.length
theorem frK_len (l : List Bool) : ∀ k, (frK l k).length ≤ k
  | 0 => Nat.le_refl _
  | k + 1 => by
    have := frK_len l k
    rw [frK]
    split
    · rw [List.length_append, List.length_singleton]; omega
    · omega
theorem frK_pos {l : List Bool} {k : Nat} (hk : k < l.length) (h : l[k] = true) : frK l (k + 1) = frK l k ++ [UInt8.ofNat (97 + k)] := by rw [frK, if_pos (by rw [getD_at hk]; exact h)]
theorem frK_neg {l : List Bool} {k : Nat} (hk : k < l.length) (h : l[k] = false) : frK l (k + 1) = frK l k := by rw [frK, if_neg (by rw [getD_at hk, h]; simp)]
theorem frT_len (l : List Bool) : (frT l).length ≤ l.length + 1 := by
  have := frK_len l l.length
  unfold frT
  split
  · simp
  · omega
theorem par_in {p : Passing} (hv : p.Ok) {k : Nat} (hk : k < (p.parents.drop 1).length) : 0 ≤ (p.parents.drop 1)[k] ∧ (p.parents.drop 1)[k] ≤ 3 := by
  have h4 := hv.1.2.1
  rw [List.length_drop] at hk
  rw [List.getElem_drop]
  have := hv.1.2.2.2.2.2 (1 + k) (by omega) (by omega)
  omega
theorem vT_len2 {v : Int} (h : 0 ≤ v ∧ v ≤ 3) : (vT v).length ≤ 21 := by
  unfold vT
  have := dcm_len (n := v) ⟨by omega, by omega⟩
  simp; omega
theorem pars_len {p : Passing} (hv : p.Ok) (k : Nat) : (catK vT (p.parents.drop 1) k).length ≤ 63 := by
  have h4 := hv.1.2.1
  have h1 := catK_len (g := vT) (M := 21) (l := p.parents.drop 1) (fun x hx => by
    obtain ⟨i, hi, rfl⟩ := List.getElem_of_mem hx
    exact vT_len2 (par_in hv hi)) k
  have : (p.parents.drop 1).length ≤ 3 := by rw [List.length_drop]; omega
  omega
theorem ruleT_len {p : Passing} (hv : p.Ok) {r : PassRule} (hr : r ∈ p.rules) : (ruleT r).length ≤ 400 := by
  have R := hv.2 r hr
  have h4 := hv.1.2.1
  have a1 := bagT_len (bag_in R.2.1.1)
  have a2 := bagT_len (bag_in R.2.2.1.1)
  have a3 := R.2.1.1.2.2
  have a4 := R.2.2.1.1.2.2
  have a5 := R.1
  have a6 := dcm_len (n := r.cell) ⟨by omega, by omega⟩
  unfold ruleT
  simp only [List.length_append, List.length_cons, List.length_nil]
  omega
theorem rules_len {p : Passing} (hv : p.Ok) (k : Nat) : (catK ruleT p.rules k).length ≤ 3200 := by
  have h1 := catK_len (g := ruleT) (M := 400) (l := p.rules) (fun r hr => ruleT_len hv hr) k
  have h2 := hv.1.2.2.2.2.1
  omega
theorem heads_len {p : Passing} (hv : p.Ok) : (pasH p).length ≤ 36 ∧ (pasF p).length ≤ 16 := by
  have h1 := hv.1.1
  have h2 := hv.1.2.2.2.1
  have a6 := dcm_len (n := p.kinds) ⟨by omega, by omega⟩
  have a7 := frT_len p.free
  unfold pasH pasF
  simp only [List.length_append, List.length_cons, List.length_nil]
  omega
theorem passT_len {p : Passing} (hv : p.Ok) : (passT p).length ≤ 4000 := by
  have h1 := heads_len hv
  have h2 := pars_len hv (p.parents.drop 1).length
  have h3 := rules_len hv p.rules.length
  unfold passT
  simp only [List.length_append]
  omega
theorem c_iPassingText (p : Passing) : GivesT Tryz.prog KT 9 [.agg (encPassing p)] (.str (txS p.Ok (passT p))) := by
  refine fn_of_runT tyOk ztOk mix Tryz.func9 rfl (by decide) Tryz.ntmps9 (fun w0 h hK => ?_)
  repeat' (first
      | (refine j_go ?_; first
        | refine j_op0 rfl rfl rfl rfl ?_ | (refine j_kCall rfl rfl rfl rfl ?_; first | refine jc (c_iValidPassing p) (LeL.refl _) rfl rfl ?_) | refine j_box rfl rfl rfl rfl rfl rfl ?_)
      | refine j_nil ?_
      | (refine r_go ?_; first | refine run_seq ?_ | refine run_region ?_ | (refine (run_ifn rfl (fun hb => ?_) (fun hb => ?_)) <;> first | (exfalso; omega) | skip) | refine run_ret ?_ | refine run_skip ?_)
      | refine seqQ_normal ?_ | refine seqQ_ret ?_)
  · exact end1 rfl (List.Sublist.refl _) (st (by rw [txs_f hb])) (.inl rfl)
  have hv := hb
  have h1 := hv.1.1
  have h4 := hv.1.2.1
  have hfl := hv.1.2.2.2.1
  have h8 := hv.1.2.2.2.2.1
  have dl := dcm_len (n := p.kinds) ⟨by omega, by omega⟩
  have hl := heads_len hv
  have dl1 : (p.parents.drop 1).length ≤ 3 := by rw [List.length_drop]; omega
  repeat' (first
      | (refine j_go ?_; first
        | refine j_op0 rfl rfl rfl rfl ?_ | (refine j_kBin rfl ?_; first | refine j_cat rfl rfl rfl rfl (by first | omega | (simp only [List.length_append, List.length_cons, List.length_nil]; omega)) rfl rfl ?_) | (refine j_kLen rfl ?_; first | refine j_len rfl rfl rfl rfl rfl rfl ?_) | (refine j_kCall rfl rfl rfl rfl ?_; first | refine jcT (by first | exact hK | exact List.mem_cons_of_mem _ hK | exact List.mem_cons_of_mem _ (List.mem_cons_of_mem _ hK) | simp [hK]) (c_decimal _ ⟨by omega, by omega⟩) (LeL.refl _) rfl rfl ?_) | (refine j_kSlice rfl ?_; first | refine j_tail 1 rfl rfl rfl rfl rfl (by omega) (fun _ => rfl) rfl rfl ?_))
      | refine j_nil ?_
      | (refine r_go ?_; first | refine run_seq ?_ | refine run_region ?_ | refine run_block ?_)
      | refine seqQ_normal ?_)
  refine run_loop (fun k : Nat => [(1, .ip (encPassing p)), (21, .sl ((p.parents.drop 1).map Go.AI.encI)), (22, .int (p.parents.drop 1).length), (3, .str (pasH p ++ catK vT (p.parents.drop 1) k)), (23, .int (k : Int))]) (fun _ => _) (fun k => k ≤ (p.parents.drop 1).length ∧ (True)) (fun k => (p.parents.drop 1).length - k) 0 ⟨rfl, rfl, rfl, (by first | rfl | exact si (by first | omega | (simp; done) | (simp [sumF]; done) | (simp; omega)) | exact raw_f (by simp) | exact raw_t (by simp) | exact sa (by first | (rw [catK_zero]; rfl) | (rw [catK_zero, List.append_nil]; rfl) | (rw [catK_zero, List.append_nil]) | (rw [joinK_zero, List.append_nil]; rfl) | (rw [joinK_zero, List.append_nil]) | (simp [catK]; done))), rfl, trivial⟩ rfl ⟨Nat.zero_le _, by first | (intros; omega) | (simp; done) | rfl | trivial | exact ⟨by simp [sumF], by intros; omega⟩ | exact ⟨by omega, by simp⟩⟩ (fun k ⟨kl, kp⟩ => ?_)
  have pl := pars_len hv k
  by_cases hk : k < (p.parents.drop 1).length
  · have es := catK_succ vT hk
    have hx := par_in hv hk
    have d1 := dcm_len (n := (p.parents.drop 1)[k]) ⟨by omega, by omega⟩
    repeat' (first
      | (refine j_go ?_; first
        | refine j_op0 rfl rfl rfl rfl ?_ | (refine j_kIdx rfl ?_; first | refine j_idx rfl rfl rfl rfl rfl (by omega) rfl rfl rfl ?_) | (refine j_kBin rfl ?_; first | refine j_in rfl rfl ⟨by omega, by omega⟩ rfl rfl ?_ | refine j_cat rfl rfl rfl rfl (by first | omega | (simp only [List.length_append, List.length_cons, List.length_nil]; omega)) rfl rfl ?_) | (refine j_kCall rfl rfl rfl rfl ?_; first | refine jcT (by first | exact hK | exact List.mem_cons_of_mem _ hK | exact List.mem_cons_of_mem _ (List.mem_cons_of_mem _ hK) | simp [hK]) (c_decimal _ ⟨by omega, by omega⟩) (LeL.refl _) rfl rfl ?_))
      | refine j_nil ?_
      | (refine r_go ?_; first | refine run_seq ?_ | refine run_region ?_ | (refine (run_if rfl (fun hb => ?_) (fun hb => ?_)) <;> first | (exfalso; omega) | skip) | refine run_block ?_ | refine run_skip ?_)
      | refine seqQ_normal ?_ | refine blockQ_normal ?_)
    exact loopQ_nextD (k + 1) ⟨by omega, trivial⟩ (by omega) (by first | exact List.Sublist.refl _ | exact sub1 | exact sub2 | exact sub3) ⟨rfl, rfl, rfl, (by first | rfl | (exact sa (by rw [es]; simp only [vT, List.append_assoc] <;> rfl)) | exact si (by omega)), nx _, trivial⟩
  have hke : k = (p.parents.drop 1).length := by omega
  subst hke
  repeat' (first
      | (refine j_go ?_; first
        | refine j_op0 rfl rfl rfl rfl ?_ | (refine j_kLen rfl ?_; first | refine j_len rfl rfl rfl rfl rfl rfl ?_) | (refine j_kBsl rfl ?_; first | refine j_bs0 rfl rfl rfl rfl rfl rfl ?_))
      | refine j_nil ?_
      | (refine r_go ?_; first | refine run_seq ?_ | refine run_region ?_ | (refine (run_if rfl (fun hb => ?_) (fun hb => ?_)) <;> first | (exfalso; omega) | skip) | refine run_block ?_ | refine run_exit ?_)
      | refine seqQ_normal ?_ | refine seqQ_exit ?_ | refine blockQ_eq ?_ | refine loopQ_exit ?_)
  refine run_view (view_none 5 0 rfl) ?_
  refine run_loop (fun x : Nat × Option Nat × Nat => [(1, .ip (encPassing p)), (3, .str (pasH p ++ catK vT (p.parents.drop 1) (p.parents.drop 1).length)), (35, .sl (p.free.map encB)), (36, .int p.free.length), (6, .os x.2.1 (frK p.free x.1).length x.2.2), (37, .int (x.1 : Int))]) (fun x => ⟨x.2.1, 5, x.2.2 * 1, ((frK p.free x.1).map encU).flatten⟩ :: h)
    (fun x => x.1 ≤ p.free.length) (fun x => p.free.length - x.1) (0, none, 0) ⟨rfl, rfl, rfl, rfl, rfl, rfl, trivial⟩ rfl (Nat.zero_le _) (fun ⟨j, ob, cp⟩ jl => ?_)
  dsimp only at jl ⊢
  have fl := frK_len p.free j
  by_cases hj : j < p.free.length
  · repeat' (first
      | (refine j_go ?_; first
        | refine j_op0 rfl rfl rfl rfl ?_ | (refine j_kIdx rfl ?_; first | refine j_idx rfl rfl rfl rfl rfl (by omega) rfl rfl rfl ?_) | (refine j_kBin rfl ?_; first | refine j_in rfl rfl ⟨by omega, by omega⟩ rfl rfl ?_) | (refine j_kBsl rfl ?_; first | refine j_bsl rfl rfl rfl rfl rfl rfl rfl rfl rfl rfl rfl ?_) | refine j_convB rfl rfl rfl rfl rfl (by omega) rfl rfl ?_)
      | refine j_nil ?_
      | (refine r_go ?_; first | refine run_seq ?_ | refine run_region ?_ | (refine (run_if rfl (fun hb => ?_) (fun hb => ?_)) <;> first | (exfalso; omega) | skip) | refine run_block ?_ | refine run_skip ?_ | refine run_cond rfl (fun hb => ?_) (fun hb => ?_))
      | refine seqQ_normal ?_ | refine blockQ_normal ?_)
    · have es := frK_pos hj (by assumption)
      refine j_append 0 (g := encU) [UInt8.ofNat (97 + (j : Int)).toNat] rfl rfl rfl rfl rfl rfl rfl rfl rfl rfl rfl rfl (fun _ => rfl) (fun _ _ => rfl) ⟨by simp only [List.length_cons, List.length_nil]; omega, by simp only [List.length_cons, List.length_nil]; omega⟩ rfl rfl (fun b' cap' => ?_)
      rw [show (97 + (j : Int)).toNat = 97 + j from by omega, ← es]
      repeat' (first
      | (refine j_go ?_; first
        | refine j_op0 rfl rfl rfl rfl ?_ | (refine j_kBin rfl ?_; first | refine j_in rfl rfl ⟨by omega, by omega⟩ rfl rfl ?_))
      | refine j_nil ?_
      | (refine r_go ?_; first | refine run_region ?_)
      | refine seqQ_normal ?_ | refine blockQ_normal ?_)
      exact loopQ_next (j + 1, b', cap') (by dsimp only; omega) (by dsimp only; omega) rfl ⟨rfl, rfl, rfl, rfl, rfl, nx _, trivial⟩
    · have es := frK_neg hj (by first | assumption | simp_all)
      exact loopQ_next (j + 1, ob, cp) (by dsimp only; omega) (by dsimp only; omega) (by dsimp only; rw [es]) ⟨rfl, rfl, rfl, rfl, by dsimp only; rw [es]; rfl, nx _, trivial⟩
  have hje : j = p.free.length := by omega
  subst hje
  have fl2 := frT_len p.free
  repeat' (first
      | (refine j_go ?_; first
        | refine j_op0 rfl rfl rfl rfl ?_ | (refine j_kLen rfl ?_; first | refine j_op rfl rfl rfl rfl ?_) | (refine j_kBsl rfl ?_; first | refine j_bsl rfl rfl rfl rfl rfl rfl rfl rfl rfl rfl rfl ?_))
      | refine j_nil ?_
      | (refine r_go ?_; first | refine run_seq ?_ | refine run_region ?_ | (refine (run_if rfl (fun hb => ?_) (fun hb => ?_)) <;> first | (exfalso; omega) | skip) | refine run_exit ?_ | refine run_skip ?_)
      | refine seqQ_normal ?_ | refine seqQ_exit ?_ | refine blockQ_eq ?_ | refine loopQ_exit ?_)
  case' neg.refine_2.refine_1 =>
    have h0 : frK p.free p.free.length = [] := List.eq_nil_of_length_eq_zero (by omega)
    refine j_append 0 (g := encU) [45] rfl rfl rfl rfl rfl rfl rfl rfl rfl rfl rfl rfl (fun _ => rfl) (fun _ _ => rfl) ⟨by simp only [List.length_cons, List.length_nil]; omega, by simp only [List.length_cons, List.length_nil]; omega⟩ rfl rfl (fun b' cap' => ?_)
    rw [show frK p.free p.free.length ++ [45] = frT p.free from by unfold frT; rw [if_pos h0, h0]; rfl]
    repeat' (first
      | (refine j_go ?_; first
        | refine j_op0 rfl rfl rfl rfl ?_)
      | refine j_nil ?_
      | (refine r_go ?_; first | refine run_seq ?_ | refine run_region ?_)
      | refine seqQ_normal ?_)
  case' neg.refine_2.refine_2 =>
    rw [show frK p.free p.free.length = frT p.free from by unfold frT; rw [if_neg (fun q => by rw [q] at hb; simp at hb)]]
  all_goals
    refine j_view (view_freeze (g := encU) (z := 1) (ys := frT p.free) 0 57 rfl rfl rfl (fun _ => rfl) rfl rfl) ?_
    repeat' (first
      | (refine j_go ?_; first
        | refine j_op0 rfl rfl rfl rfl ?_ | (refine j_kBin rfl ?_; first | refine j_cat rfl rfl rfl rfl (by first | omega | (simp only [List.length_append, List.length_cons, List.length_nil]; omega)) rfl rfl ?_) | (refine j_kLen rfl ?_; first | refine j_len rfl rfl rfl rfl rfl rfl ?_) | refine j_b2s rfl rfl rfl rfl rfl rfl rfl rfl ?_)
      | refine j_nil ?_
      | (refine r_go ?_; first | refine run_seq ?_ | refine run_region ?_ | refine run_block ?_)
      | refine seqQ_normal ?_)
    refine run_loop (fun r : Nat => [(63, .sl (p.rules.map encPassRule)), (64, .int p.rules.length), (3, .str (pasH p ++ catK vT (p.parents.drop 1) (p.parents.drop 1).length ++ pasF p ++ catK ruleT p.rules r)), (65, .int (r : Int))]) (fun _ => h) (fun r => r ≤ p.rules.length) (fun r => p.rules.length - r) 0 ⟨rfl, rfl, sa (by rw [catK_zero, List.append_nil]; rfl), rfl, trivial⟩ rfl (Nat.zero_le _) (fun r rle => ?_)
    have rl := rules_len hv r
    have pl := pars_len hv (p.parents.drop 1).length
    by_cases hr : r < p.rules.length
    · have es := catK_succ ruleT hr
      have hm := List.getElem_mem hr
      have R := hv.2 _ hm
      have rt := ruleT_len hv hm
      have a1 := bagT_len (bag_in R.2.1.1)
      have a2 := bagT_len (bag_in R.2.2.1.1)
      have a3 := R.2.1.1.2.2
      have a4 := R.2.2.1.1.2.2
      have a5 := R.1
      have a6 := dcm_len (n := p.rules[r].cell) ⟨by omega, by omega⟩
      repeat' (first
      | (refine j_go ?_; first
        | refine j_op0 rfl rfl rfl rfl ?_ | (refine j_kIdx rfl ?_; first | refine j_idx rfl rfl rfl rfl rfl (by omega) rfl rfl rfl ?_) | (refine j_kStore rfl ?_; first | refine j_storeN 0 rfl rfl rfl rfl rfl rfl rfl rfl rfl rfl rfl ?_) | refine j_alloc rfl rfl rfl rfl rfl (fun _ => ?_))
      | refine j_nil ?_
      | (refine r_go ?_; first | refine run_seq ?_ | refine run_region ?_ | (refine (run_if rfl (fun hb => ?_) (fun hb => ?_)) <;> first | (exfalso; omega) | skip) | refine run_block ?_ | refine run_skip ?_)
      | refine seqQ_normal ?_)
      refine run_view (view_freezeP 0 10 rfl rfl) ?_
      repeat' (first
      | (refine j_go ?_; first
        | refine j_op0 rfl rfl rfl rfl ?_ | (refine j_kBin rfl ?_; first | refine j_in rfl rfl ⟨by omega, by omega⟩ rfl rfl ?_ | refine j_cat rfl rfl rfl rfl (by first | omega | (simp only [List.length_append, List.length_cons, List.length_nil]; omega)) rfl rfl ?_) | (refine j_kCall rfl rfl rfl rfl ?_; first | refine jcT (by first | exact hK | exact List.mem_cons_of_mem _ hK | exact List.mem_cons_of_mem _ (List.mem_cons_of_mem _ hK) | simp [hK]) (c_decimal _ ⟨by omega, by omega⟩) (LeL.refl _) rfl rfl ?_ | refine jcT (by first | exact hK | exact List.mem_cons_of_mem _ hK | exact List.mem_cons_of_mem _ (List.mem_cons_of_mem _ hK) | simp [hK]) (c_bagText _ R.2.1.1) (LeL.refl _) rfl rfl ?_ | refine jcT (by first | exact hK | exact List.mem_cons_of_mem _ hK | exact List.mem_cons_of_mem _ (List.mem_cons_of_mem _ hK) | simp [hK]) (c_bagText _ R.2.2.1.1) (LeL.refl _) rfl rfl ?_))
      | refine j_nil ?_
      | (refine r_go ?_; first | refine run_region ?_ | refine run_regionD (by kernel_rfl) ?_)
      | refine seqQ_normal ?_ | refine blockQ_normal ?_)
      exact loopQ_next (r + 1) (by omega) (by omega) rfl ⟨rfl, rfl, sa (by rw [es]; unfold ruleT; simp only [List.append_assoc] <;> rfl), nx _, trivial⟩
    have hre : r = p.rules.length := by omega
    subst hre
    repeat' (first
      | (refine j_go ?_; first
        | refine j_op0 rfl rfl rfl rfl ?_)
      | refine j_nil ?_
      | (refine r_go ?_; first | refine run_seq ?_ | refine run_region ?_ | (refine (run_if rfl (fun hb => ?_) (fun hb => ?_)) <;> first | (exfalso; omega) | skip) | refine run_ret ?_ | refine run_exit ?_)
      | refine seqQ_normal ?_ | refine seqQ_exit ?_ | refine blockQ_eq ?_ | refine loopQ_exit ?_)
    exact end1 rfl (List.Sublist.refl _) (st (by rw [txs_t hv]; rfl)) (.inl rfl)
theorem vT_head {p : Passing} (hv : p.Ok) : ∃ l, p.parents = -1 :: l := by
  have h4 := hv.1.2.1
  have h0 := hv.1.2.2.1
  cases hp : p.parents with
  | nil => rw [hp] at h4; simp at h4
  | cons x l => rw [hp] at h0; simp at h0; exact ⟨l, by rw [h0]⟩
/-- The parents' text of the reference's loop. -/
def parT (q : Int) : List UInt8 := if q < 0 then [32, 45] else vT q
theorem parT_all {p : Passing} (hv : p.Ok) : catK parT p.parents p.parents.length = [32, 45] ++ catK vT (p.parents.drop 1) (p.parents.drop 1).length := by
  rw [catK_all, catK_all]
  have hp : ∀ x ∈ p.parents.drop 1, parT x = vT x := fun x hx => by
    obtain ⟨i, hi, rfl⟩ := List.getElem_of_mem hx
    have := par_in hv hi
    unfold parT; rw [if_neg (by omega)]
  obtain ⟨l, hl⟩ := vT_head hv
  rw [hl] at hp ⊢
  simp only [List.drop_one, List.tail_cons, List.map_cons, List.flatten_cons] at hp ⊢
  rw [List.map_congr_left hp]
  rfl
theorem parT_len {p : Passing} (hv : p.Ok) (k : Nat) : (catK parT p.parents k).length ≤ 84 := by
  have h4 := hv.1.2.1
  have h1 := catK_len (g := parT) (M := 21) (l := p.parents) (fun x hx => by
    obtain ⟨i, hi, rfl⟩ := List.getElem_of_mem hx
    unfold parT
    split
    · simp
    · rename_i q
      refine vT_len2 ⟨by omega, ?_⟩
      by_cases h : 1 ≤ i
      · have := hv.1.2.2.2.2.2 i hi h; omega
      · have e : i = 0 := by omega
        subst e
        have h0 := hv.1.2.2.1
        rw [List.getElem?_eq_getElem hi] at h0
        have := Option.some.inj h0
        omega) k
  omega
theorem c_l06Text (p : Passing) (hv : p.Ok) : Gives Tryz.prog 58 [.ip (encPassing p)] (.str (passT p)) := by
  refine fn_of_run tyOk ztOk mix Tryz.func58 rfl (by decide) Tryz.ntmps58 (fun w0 h => ?_)
  have h1 := hv.1.1
  have h4 := hv.1.2.1
  have hfl := hv.1.2.2.2.1
  have h8 := hv.1.2.2.2.2.1
  have dl := dcm_len (n := p.kinds) ⟨by omega, by omega⟩
  have hl := heads_len hv
  have eA := parT_all hv
  have lA := parT_len hv p.parents.length
  repeat' (first
      | (refine j_go ?_; first
        | refine j_op0 rfl rfl rfl rfl ?_ | (refine j_kBin rfl ?_; first | refine j_cat rfl rfl rfl rfl (by first | omega | (simp only [List.length_append, List.length_cons, List.length_nil]; omega)) rfl rfl ?_) | (refine j_kCall rfl rfl rfl rfl ?_; first | refine jc (c_dec _ ⟨by omega, by omega⟩) (LeL.refl _) rfl rfl ?_))
      | refine j_nil ?_
      | (refine r_go ?_; first | refine run_seq ?_ | refine run_region ?_ | refine run_block ?_)
      | refine seqQ_normal ?_)
  refine run_loop (fun k : Nat => [(0, .ip (encPassing p)), (3, .str ([112, 97, 115, 115, 105, 110, 103, 32] ++ dcm p.kinds ++ [10, 99, 101, 108, 108, 115] ++ catK parT p.parents k)), (4, .int (k : Int))]) (fun _ => h) (fun k => k ≤ p.parents.length) (fun k => p.parents.length - k) 0 ⟨rfl, sa (by rw [catK_zero, List.append_nil]), rfl, trivial⟩ rfl (Nat.zero_le _) (fun k kl => ?_)
  have pl := parT_len hv k
  by_cases hk : k < p.parents.length
  · have es := catK_succ parT hk
    have pk : p.parents[k] ≤ 3 := by
      by_cases h : 1 ≤ k
      · have := hv.1.2.2.2.2.2 k hk h; omega
      · have e : k = 0 := by omega
        subst e
        have h0 := hv.1.2.2.1
        rw [List.getElem?_eq_getElem hk] at h0
        have := Option.some.inj h0
        omega
    have dl2 := dcm_len (n := p.parents[k]) ⟨by
      by_cases h : 1 ≤ k
      · have := hv.1.2.2.2.2.2 k hk h; omega
      · have e : k = 0 := by omega
        subst e
        have h0 := hv.1.2.2.1
        rw [List.getElem?_eq_getElem hk] at h0
        have := Option.some.inj h0
        omega, by omega⟩
    repeat' (first
      | (refine j_go ?_; first
        | refine j_op0 rfl rfl rfl rfl ?_ | (refine j_kIdx rfl ?_; first | refine j_idx rfl rfl rfl rfl rfl (by omega) rfl rfl rfl ?_) | (refine j_kBin rfl ?_; first | refine j_in rfl rfl ⟨by omega, by omega⟩ rfl rfl ?_ | refine j_cat rfl rfl rfl rfl (by first | omega | (simp only [List.length_append, List.length_cons, List.length_nil]; omega)) rfl rfl ?_) | (refine j_kLen rfl ?_; first | refine j_len rfl rfl rfl rfl rfl rfl ?_) | (refine j_kCall rfl rfl rfl rfl ?_; first | refine jc (c_dec p.parents[k] ⟨by omega, by omega⟩) (LeL.refl _) rfl rfl ?_))
      | refine j_nil ?_
      | (refine r_go ?_; first | refine run_seq ?_ | refine run_region ?_ | (refine (run_if rfl (fun hb => ?_) (fun hb => ?_)) <;> first | (exfalso; omega) | skip) | refine run_block ?_ | refine run_skip ?_)
      | refine seqQ_normal ?_ | refine blockQ_normal ?_)
    · exact loopQ_next (k + 1) (by omega) (by omega) rfl ⟨rfl, sa (by rw [es]; unfold parT; rw [if_pos (by assumption)]; simp only [List.append_assoc] <;> rfl), nx _, trivial⟩
    · exact loopQ_next (k + 1) (by omega) (by omega) rfl ⟨rfl, sa (by rw [es]; unfold parT; rw [if_neg (by assumption)]; simp only [vT, List.append_assoc] <;> rfl), nx _, trivial⟩
  have hke : k = p.parents.length := by omega
  subst hke
  have eB : [112, 97, 115, 115, 105, 110, 103, 32] ++ dcm p.kinds ++ [10, 99, 101, 108, 108, 115] ++ catK parT p.parents p.parents.length = pasH p ++ catK vT (p.parents.drop 1) (p.parents.drop 1).length := by
    rw [eA]; unfold pasH; simp only [List.append_assoc]; rfl
  rw [eB]
  have pl2 := pars_len hv (p.parents.drop 1).length
  have fl2 := frT_len p.free
  have fl3 := frK_len p.free p.free.length
  repeat' (first
      | (refine j_go ?_; first
        | refine j_op0 rfl rfl rfl rfl ?_ | (refine j_kLen rfl ?_; first | refine j_len rfl rfl rfl rfl rfl rfl ?_))
      | refine j_nil ?_
      | (refine r_go ?_; first | refine run_seq ?_ | refine run_region ?_ | (refine (run_if rfl (fun hb => ?_) (fun hb => ?_)) <;> first | (exfalso; omega) | skip) | refine run_block ?_ | refine run_exit ?_)
      | refine seqQ_normal ?_ | refine seqQ_exit ?_ | refine blockQ_eq ?_ | refine loopQ_exit ?_)
  refine run_loop (fun j : Nat => [(0, .ip (encPassing p)), (3, .str (pasH p ++ catK vT (p.parents.drop 1) (p.parents.drop 1).length)), (5, .str (frK p.free j)), (6, .int (j : Int))]) (fun _ => h) (fun j => j ≤ p.free.length) (fun j => p.free.length - j) 0 ⟨rfl, rfl, rfl, rfl, trivial⟩ rfl (Nat.zero_le _) (fun j jl => ?_)
  have fl := frK_len p.free j
  by_cases hj : j < p.free.length
  · repeat' (first
      | (refine j_go ?_; first
        | refine j_op0 rfl rfl rfl rfl ?_ | (refine j_kIdx rfl ?_; first | refine j_idx rfl rfl rfl rfl rfl (by omega) rfl rfl rfl ?_) | (refine j_kBin rfl ?_; first | refine j_in rfl rfl ⟨by omega, by omega⟩ rfl rfl ?_ | refine j_cat rfl rfl rfl rfl (by first | omega | (simp only [List.length_append, List.length_cons, List.length_nil]; omega)) rfl rfl ?_) | (refine j_kLen rfl ?_; first | refine j_len rfl rfl rfl rfl rfl rfl ?_) | (refine j_kBsl rfl ?_; first | refine j_bsl rfl rfl rfl rfl rfl rfl rfl rfl rfl rfl rfl ?_) | refine j_convB rfl rfl rfl rfl rfl (by omega) rfl rfl ?_ | refine j_b2s1 rfl rfl rfl rfl rfl rfl rfl rfl ?_)
      | refine j_nil ?_
      | (refine r_go ?_; first | refine run_seq ?_ | refine run_region ?_ | (refine (run_if rfl (fun hb => ?_) (fun hb => ?_)) <;> first | (exfalso; omega) | skip) | refine run_block ?_ | refine run_skip ?_ | refine run_cond rfl (fun hb => ?_) (fun hb => ?_))
      | refine seqQ_normal ?_ | refine blockQ_normal ?_)
    · have es := frK_pos hj (by assumption)
      exact loopQ_next (j + 1) (by omega) (by omega) rfl ⟨rfl, rfl, sa (by rw [es, show (97 + (j : Int)).toNat = 97 + j from by omega]), nx _, trivial⟩
    · have es := frK_neg hj (by first | assumption | simp_all)
      exact loopQ_next (j + 1) (by omega) (by omega) rfl ⟨rfl, rfl, sa es.symm, nx _, trivial⟩
  have hje : j = p.free.length := by omega
  subst hje
  repeat' (first
      | (refine j_go ?_; first
        | refine j_op0 rfl rfl rfl rfl ?_ | (refine j_kBin rfl ?_; first | refine j_cat rfl rfl rfl rfl (by first | omega | (simp only [List.length_append, List.length_cons, List.length_nil]; omega)) rfl rfl ?_) | (refine j_kLen rfl ?_; first | refine j_len rfl rfl rfl rfl rfl rfl ?_))
      | refine j_nil ?_
      | (refine r_go ?_; first | refine run_seq ?_ | refine run_region ?_ | (refine (run_if rfl (fun hb => ?_) (fun hb => ?_)) <;> first | (exfalso; omega) | skip) | refine run_block ?_ | refine run_exit ?_ | refine run_skip ?_)
      | refine seqQ_normal ?_ | refine seqQ_exit ?_ | refine blockQ_eq ?_ | refine loopQ_exit ?_)
  case' neg.refine_2.refine_1 =>
    have ef : frT p.free = [45] := by unfold frT; rw [if_pos (by assumption)]
  case' neg.refine_2.refine_2 =>
    have ef : frT p.free = frK p.free p.free.length := by unfold frT; rw [if_neg (by assumption)]
  all_goals
    refine run_loop (fun r : Nat => [(0, .ip (encPassing p)), (3, .str (pasH p ++ catK vT (p.parents.drop 1) (p.parents.drop 1).length ++ pasF p ++ catK ruleT p.rules r)), (7, .int (r : Int))]) (fun _ => h) (fun r => r ≤ p.rules.length) (fun r => p.rules.length - r) 0 ⟨rfl, sa (by rw [catK_zero, List.append_nil]; unfold pasF; rw [ef]), rfl, trivial⟩ rfl (Nat.zero_le _) (fun r rle => ?_)
    have rl := rules_len hv r
    by_cases hr : r < p.rules.length
    · have es := catK_succ ruleT hr
      have hm := List.getElem_mem hr
      have R := hv.2 _ hm
      have rt := ruleT_len hv hm
      have a1 := bagT_len (bag_in R.2.1.1)
      have a2 := bagT_len (bag_in R.2.2.1.1)
      have a3 := R.2.1.1.2.2
      have a4 := R.2.2.1.1.2.2
      have a5 := R.1
      have a6 := dcm_len (n := p.rules[r].cell) ⟨by omega, by omega⟩
      repeat' (first
      | (refine j_go ?_; first
        | refine j_op0 rfl rfl rfl rfl ?_ | (refine j_kIdx rfl ?_; first | refine j_idx rfl rfl rfl rfl rfl (by omega) rfl rfl rfl ?_) | (refine j_kBin rfl ?_; first | refine j_in rfl rfl ⟨by omega, by omega⟩ rfl rfl ?_ | refine j_cat rfl rfl rfl rfl (by first | omega | (simp only [List.length_append, List.length_cons, List.length_nil]; omega)) rfl rfl ?_) | (refine j_kLen rfl ?_; first | refine j_len rfl rfl rfl rfl rfl rfl ?_) | (refine j_kCall rfl rfl rfl rfl ?_; first | refine jc (c_dec _ ⟨by omega, by omega⟩) (LeL.refl _) rfl rfl ?_ | refine jc (c_sBagText _ R.2.1.1) (LeL.refl _) rfl rfl ?_ | refine jc (c_sBagText _ R.2.2.1.1) (LeL.refl _) rfl rfl ?_))
      | refine j_nil ?_
      | (refine r_go ?_; first | refine run_seq ?_ | refine run_region ?_ | (refine (run_if rfl (fun hb => ?_) (fun hb => ?_)) <;> first | (exfalso; omega) | skip) | refine run_block ?_ | refine run_skip ?_ | refine run_regionD (by kernel_rfl) ?_)
      | refine seqQ_normal ?_ | refine blockQ_normal ?_)
      exact loopQ_next (r + 1) (by omega) (by omega) rfl ⟨rfl, sa (by rw [es]; unfold ruleT; simp only [List.append_assoc] <;> rfl), nx _, trivial⟩
    have hre : r = p.rules.length := by omega
    subst hre
    repeat' (first
      | (refine j_go ?_; first
        | refine j_op0 rfl rfl rfl rfl ?_ | (refine j_kLen rfl ?_; first | refine j_len rfl rfl rfl rfl rfl rfl ?_))
      | refine j_nil ?_
      | (refine r_go ?_; first | refine run_seq ?_ | refine run_region ?_ | (refine (run_if rfl (fun hb => ?_) (fun hb => ?_)) <;> first | (exfalso; omega) | skip) | refine run_ret ?_ | refine run_exit ?_)
      | refine seqQ_normal ?_ | refine seqQ_exit ?_ | refine blockQ_eq ?_ | refine loopQ_exit ?_)
    exact end1 rfl (List.Sublist.refl _) (rfl) (.inl rfl)
end Go.Proofs.YtmcljepicadjfaaGreatDoor
