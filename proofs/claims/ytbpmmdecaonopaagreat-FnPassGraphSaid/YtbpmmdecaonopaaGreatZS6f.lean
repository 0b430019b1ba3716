/-
  A step of a passing system: the program's side. No condition.
-/
import Derived.Test.YtbpmmdecaonopaaGreatZS6e
import Derived.Test.YtbpmmdecaonopaaGreatZS3f
namespace Go.Proofs.YtbpmmdecaonopaaGreat
open Go.AI
set_option maxRecDepth 8000
set_option maxHeartbeats 1600000

theorem c_outside (p : Passing) : Gives Tryz.prog 47 [.agg (encPassing p)] (.int p.parents.length) := by
  refine fn_of_run tyOk ztOk mix Tryz.func47 rfl (by decide) Tryz.ntmps47 (fun w0 h => ?_)
  repeat' (first
      | (refine j_go ?_; first
        | refine j_op0 rfl rfl rfl rfl ?_ | (refine j_kCall rfl rfl rfl rfl ?_; first | refine jc (c_sizeI _) (LeL.refl _) rfl rfl ?_) | refine j_box rfl rfl rfl rfl rfl rfl ?_)
      | refine j_nil ?_
      | (refine r_go ?_; first | refine run_seq ?_ | refine run_region ?_ | refine run_ret ?_)
      | refine seqQ_normal ?_)
  exact end1 rfl (List.Sublist.refl _) (rfl) (.inl rfl)
theorem c_parentP (p : Passing) (c : Int) (hv : p.Frame) (h0 : 0 ≤ c ∧ c.toNat < p.parents.length) : Gives Tryz.prog 72 [.agg (encPassing p), .int c] (.int ((p.up c : Nat) : Int)) := by
  refine fn_of_run tyOk ztOk mix Tryz.func72 rfl (by decide) Tryz.ntmps72 (fun w0 h => ?_)
  by_cases e : c = 0
  · have eu : p.up c = p.parents.length := by unfold Passing.up; rw [if_pos e]
    repeat' (first
      | (refine j_go ?_; first
        | refine j_op0 rfl rfl rfl rfl ?_ | (refine j_kCall rfl rfl rfl rfl ?_; first | refine jc (c_outside _) (LeL.refl _) rfl rfl ?_) | refine j_box rfl rfl rfl rfl rfl rfl ?_)
      | refine j_nil ?_
      | (refine r_go ?_; first | refine run_seq ?_ | refine run_region ?_ | (refine (run_if rfl (fun hb => ?_) (fun hb => ?_)) <;> first | (exfalso; omega) | skip) | refine run_ret ?_)
      | refine seqQ_normal ?_ | refine seqQ_ret ?_)
    all_goals first | exact end1 rfl (List.Sublist.refl _) (ai (by rw [eu])) (.inl rfl) | (exfalso; omega) | trace_state
  · have q := hv.par (c := c) (by omega) h0.2
    have eu : ((p.up c : Nat) : Int) = p.parents[c.toNat] := by unfold Passing.up; rw [if_neg e, q.1]; omega
    repeat' (first
      | (refine j_go ?_; first
        | refine j_op0 rfl rfl rfl rfl ?_ | (refine j_kIdx rfl ?_; first | refine j_idxz rfl rfl rfl rfl rfl ⟨by omega, by omega⟩ rfl rfl rfl ?_) | refine j_box rfl rfl rfl rfl rfl rfl ?_)
      | refine j_nil ?_
      | (refine r_go ?_; first | refine run_seq ?_ | refine run_region ?_ | (refine (run_if rfl (fun hb => ?_) (fun hb => ?_)) <;> first | (exfalso; omega) | skip) | refine run_ret ?_ | refine run_skip ?_)
      | refine seqQ_normal ?_)
    all_goals first | exact end1 rfl (List.Sublist.refl _) (ai eu.symm) (.inl rfl) | (exfalso; omega) | trace_state

/-- A bag of which the first k kinds have been looked at. -/
def bndK (p : Passing) (b : List Int) (k : Nat) : List Int := b.mapIdx fun j x => if j < k ∧ p.free.getD j false = true then 0 else x
theorem bndK_len {p : Passing} {b : List Int} {k : Nat} : (bndK p b k).length = b.length := by simp [bndK]
theorem bndK_zero {p : Passing} {b : List Int} : bndK p b 0 = b := by
  apply List.ext_getElem bndK_len
  intro i h1 h2
  simp [bndK]
theorem bndK_t {p : Passing} {b : List Int} {k : Nat} (hk : k < p.free.length) (hf : p.free[k] = true) : (bndK p b k).set k 0 = bndK p b (k + 1) := by
  apply List.ext_getElem (by simp [bndK])
  intro i h1 h2
  rw [List.getElem_set]
  by_cases e : k = i
  · subst e
    rw [if_pos rfl]; simp [bndK, hk, hf]
  · rw [if_neg e]
    simp only [bndK, List.getElem_mapIdx]
    exact ite_iff ⟨fun q => ⟨by omega, q.2⟩, fun q => ⟨by omega, q.2⟩⟩ rfl rfl
theorem bndK_f {p : Passing} {b : List Int} {k : Nat} (hk : k < p.free.length) (hf : p.free[k] = false) : bndK p b k = bndK p b (k + 1) := by
  apply List.ext_getElem (by simp [bndK])
  intro i h1 h2
  simp only [bndK, List.getElem_mapIdx]
  refine ite_iff ⟨fun q => ⟨by omega, q.2⟩, fun q => ⟨?_, q.2⟩⟩ rfl rfl
  by_cases e : i = k
  · subst e
    rw [getD_get hk, hf] at q; cases q.2
  · omega
theorem bndK_all {p : Passing} {b : List Int} (hl : b.length = p.free.length) : bndK p b p.free.length = only (p.gk 0) b := by
  apply List.ext_getElem (by simp [bndK, only])
  intro i h1 h2
  have hi : i < b.length := by rw [bndK_len] at h1; exact h1
  simp only [bndK, only, List.getElem_mapIdx, Passing.gk, if_pos]
  cases hf : p.free.getD i false with
  | true => rw [if_pos ⟨by omega, rfl⟩, if_neg (by simp)]
  | false => rw [if_neg (by simp), if_pos (by simp)]
theorem o_bound (p : Passing) (b : List Int) (hv : p.Frame) (hl : b.length = p.free.length) : Does Tryz.prog 73 [.agg (encPassing p), .sl (b.map Go.AI.encI)] [] (OwnL (only (p.gk 0) b)) := by
  refine fn_of_runD tyOk ztOk mix Tryz.func73 rfl (by decide) Tryz.ntmps73 (fun w0 F => ?_)
  change Run _ _ _ _ _ F
  have k8 := hv.1
  have hfr := hv.2.2.2.1
  have hbn : b ≠ [] := fun q => by rw [q] at hl; simp at hl; omega
  repeat' (first
      | (refine j_go ?_; first
        | refine j_op0 rfl rfl rfl rfl ?_ | refine j_box rfl rfl rfl rfl rfl rfl ?_)
      | refine j_nil ?_
      | (refine r_go ?_; first | refine run_seq ?_ | refine run_region ?_)
      | refine seqQ_normal ?_)
  refine j_kCall rfl rfl rfl rfl ?_
  refine jcp _ (o_cloneI b hbn (by omega)) (List.Perm.refl _) (LeL.refl _) rfl rfl (fun v h1 hR => ?_)
  obtain ⟨ob, cp, rfl, rfl⟩ := hR
  have hne : (b.map Go.AI.encI).flatten ≠ [] := fun q => by
    have h3 : ((b.map Go.AI.encI).flatten).length = 0 := by rw [q]; rfl
    rw [flat_len (f := Go.AI.encI) (z := 1) (fun _ => rfl)] at h3
    omega
  repeat' (first
      | (refine j_go ?_; first
        | refine j_op0 rfl rfl rfl rfl ?_ | (refine j_kLen rfl ?_; first | refine j_len rfl rfl rfl rfl rfl rfl ?_))
      | refine j_nil ?_
      | (refine r_go ?_; first | refine run_seq ?_ | refine run_region ?_ | refine run_block ?_)
      | refine seqQ_normal ?_)
  refine run_some 0 rfl hne (fun b2 hb2 => ?_)
  subst hb2
  refine run_loop (fun k : Nat => [(5, .os (some b2) b.length cp), (11, .sl (p.free.map encB)), (12, .int p.free.length), (13, .int (k : Int))]) (fun k => ⟨some b2, 2, cp * 1, ((bndK p b k).map Go.AI.encI).flatten⟩ :: F) (fun k => k ≤ p.free.length) (fun k => p.free.length - k) 0 ⟨rfl, rfl, rfl, rfl, trivial⟩ (by simp only [bndK_zero]; rfl) (Nat.zero_le _) (fun k kl => ?_)
  have bl := bndK_len (p := p) (b := b) (k := k)
  by_cases hk : k < p.free.length
  · repeat' (first
      | (refine j_go ?_; first
        | refine j_op0 rfl rfl rfl rfl ?_ | (refine j_kIdx rfl ?_; first | refine j_idx rfl rfl rfl rfl rfl (by omega) rfl rfl rfl ?_ | refine j_midx rfl rfl rfl rfl rfl (by first | omega | (simp only [List.length_append, List.length_cons, List.length_nil]; omega)) rfl rfl ?_) | (refine j_kBin rfl ?_; first | refine j_in rfl rfl ⟨by omega, by omega⟩ rfl rfl ?_))
      | refine j_nil ?_
      | (refine r_go ?_; first | refine run_seq ?_ | refine run_region ?_ | (refine (run_if rfl (fun hb => ?_) (fun hb => ?_)) <;> first | (exfalso; omega) | skip) | refine run_block ?_ | refine run_skip ?_ | refine run_cond rfl (fun hb => ?_) (fun hb => ?_))
      | refine seqQ_normal ?_ | refine blockQ_normal ?_)
    all_goals first
      | (refine j_storeE 0 k (g := Go.AI.encI) (0 : Int) rfl rfl rfl rfl rfl rfl rfl rfl rfl (fun _ => rfl) rfl (by omega) ?_
         rw [bndK_t hk (by assumption)]
         repeat' (first
      | (refine j_go ?_; first
        | refine j_op0 rfl rfl rfl rfl ?_ | (refine j_kBin rfl ?_; first | refine j_in rfl rfl ⟨by omega, by omega⟩ rfl rfl ?_))
      | refine j_nil ?_
      | (refine r_go ?_; first | refine run_region ?_)
      | refine seqQ_normal ?_ | refine blockQ_normal ?_)
         exact loopQ_next (k + 1) (by omega) (by omega) rfl ⟨rfl, rfl, rfl, nx _, trivial⟩)
      | (rw [bndK_f hk (by assumption)]
         exact loopQ_next (k + 1) (by omega) (by omega) rfl ⟨rfl, rfl, rfl, nx _, trivial⟩)
      | trace_state
  · have hke : k = p.free.length := by omega
    subst hke
    rw [bndK_all hl]
    repeat' (first
      | (refine j_go ?_; first
        | refine j_op0 rfl rfl rfl rfl ?_)
      | refine j_nil ?_
      | (refine r_go ?_; first | refine run_seq ?_ | refine run_region ?_ | (refine (run_if rfl (fun hb => ?_) (fun hb => ?_)) <;> first | (exfalso; omega) | skip) | refine run_ret ?_ | refine run_exit ?_)
      | refine seqQ_normal ?_ | refine seqQ_exit ?_ | refine blockQ_eq ?_ | refine loopQ_exit ?_)
    exact endD_ret (h1 := [_]) rfl (.cons (.tmp rfl) .nil) (Le.refl _) ⟨some b2, cp, (by rw [only_len]; rfl), rfl⟩ (.inl rfl)
theorem c_bound (p : Passing) (b : List Int) (hv : p.Frame) (hl : b.length = p.free.length) : Gives Tryz.prog 73 [.agg (encPassing p), .sl (b.map Go.AI.encI)] (.sl ((only (p.gk 0) b).map Go.AI.encI)) :=
  (o_bound p b hv hl).frozen fun _ _ ⟨_, _, q1, q2⟩ => by rw [q1, q2]; exact FrzF.flat rfl rfl (fun _ => rfl) rfl rfl
theorem c_fits1 (l : List Int) (hne : 1 ≤ l.length) (hn : l.length ≤ 1000000) : Gives Tryz.prog 67 [.sl (l.map Go.AI.encI)] (.raw (.bool (dec (∃ x ∈ l, x < 0)))) := by
  refine fn_of_run tyOk ztOk mix Tryz.func67 rfl (by decide) Tryz.ntmps67 (fun w0 h => ?_)
  repeat' (first
      | (refine j_go ?_; first
        | refine j_op0 rfl rfl rfl rfl ?_ | (refine j_kCall rfl rfl rfl rfl ?_; first | refine jc (c_slMin _ hne hn) (LeL.refl _) rfl rfl ?_))
      | refine j_nil ?_
      | (refine r_go ?_; first | refine run_seq ?_ | refine run_region ?_ | refine run_ret ?_)
      | refine seqQ_normal ?_)
  exact end1 rfl (List.Sublist.refl _) (rbD ⟨fun q => ⟨_, (minF_spec l (fun z => by rw [z] at hne; simp at hne)).1, q⟩, fun ⟨x, hx, q⟩ => by have := (minF_spec l (fun z => by rw [z] at hne; simp at hne)).2 x hx; omega⟩) (.inl rfl)
theorem c_stockCode (p : Passing) (s : Stock) : Gives Tryz.prog 44 [.agg (encPassing p), .agg (encStock s)] (.int (cd2 p.Ok (p.StockOk s))) := by
  refine fn_of_run tyOk ztOk mix Tryz.func44 rfl (by decide) Tryz.ntmps44 (fun w0 h => ?_)
  repeat' (first
      | (refine j_go ?_; first
        | refine j_op0 rfl rfl rfl rfl ?_ | (refine j_kCall rfl rfl rfl rfl ?_; first | refine jc (c_iValidPassing _) (LeL.refl _) rfl rfl ?_) | refine j_box rfl rfl rfl rfl rfl rfl ?_)
      | refine j_nil ?_
      | (refine r_go ?_; first | refine run_seq ?_ | refine run_region ?_ | (refine (run_ifn rfl (fun hb => ?_) (fun hb => ?_)) <;> first | (exfalso; omega) | skip) | refine run_block ?_ | refine run_ret ?_)
      | refine seqQ_normal ?_ | refine seqQ_ret ?_ | refine blockQ_ret ?_)
  · exact end1 rfl (List.Sublist.refl _) (ai (cd2_f hb).symm) (.inl rfl)
  · have hv := hb
    repeat' (first
      | (refine j_go ?_; first
        | refine j_op0 rfl rfl rfl rfl ?_ | (refine j_kCall rfl rfl rfl rfl ?_; first | refine jc (c_iValidStock _ _) (LeL.refl _) rfl rfl ?_))
      | refine j_nil ?_
      | (refine r_go ?_; first | refine run_seq ?_ | refine run_region ?_ | (refine (run_ifn rfl (fun hb => ?_) (fun hb => ?_)) <;> first | (exfalso; omega) | skip) | refine run_ret ?_ | refine run_skip ?_)
      | refine seqQ_normal ?_ | refine seqQ_ret ?_ | refine blockQ_normal ?_ | refine blockQ_ret ?_)
    · exact end1 rfl (List.Sublist.refl _) (ai (cd2_t hv (fun q => hb ⟨hv, q⟩)).symm) (.inl rfl)
    · exact end1 rfl (List.Sublist.refl _) (ai (cd2_o hv hb.2).symm) (.inl rfl)
theorem c_passCode1 (x : Int) : Gives Tryz.prog 65 [.int x] (.raw (.bool (dec (¬ (0 ≤ x ∧ x ≤ 1000))))) := by
  refine fn_of_run tyOk ztOk mix Tryz.func65 rfl (by decide) Tryz.ntmps65 (fun w0 h => ?_)
  repeat' (first
      | (refine j_go ?_; first
        | refine j_op0 rfl rfl rfl rfl ?_ | (refine j_kCall rfl rfl rfl rfl ?_; first | refine jc (c_inRange _ _ _) (LeL.refl _) rfl rfl ?_))
      | refine j_nil ?_
      | (refine r_go ?_; first | refine run_seq ?_ | refine run_region ?_ | refine run_ret ?_)
      | refine seqQ_normal ?_)
  exact end1 rfl (List.Sublist.refl _) (rbN Iff.rfl) (.inl rfl)
theorem c_passCode (p : Passing) (s : Stock) (cs : List Int) : Gives Tryz.prog 32 [.agg (encPassing p), .agg (encStock s), .sl (cs.map Go.AI.encI)] (.int (cd2 p.Ok (p.StockOk s ∧ p.Cnts cs))) := by
  refine fn_of_run tyOk ztOk mix Tryz.func32 rfl (by decide) Tryz.ntmps32 (fun w0 h => ?_)
  have cC := c_stockCode p s
  by_cases hv : p.Ok
  · by_cases hs : p.StockOk s
    · rw [cd2_o hv hs] at cC
      repeat' (first
      | (refine j_go ?_; first
        | refine j_op0 rfl rfl rfl rfl ?_ | refine j_off rfl rfl rfl ?_ | (refine j_kLen rfl ?_; first | refine j_len rfl rfl rfl rfl rfl rfl ?_) | (refine j_kCall rfl rfl rfl rfl ?_; first | refine jc (cC) (LeL.refl _) rfl rfl ?_ | refine jc (c_cfI _ _ (fun x => ¬ (0 ≤ x ∧ x ≤ 1000)) _ (fun x _ => c_passCode1 x)) (LeL.refl _) rfl rfl ?_) | (refine j_kGuard rfl ?_; first | (refine (j_if rfl rfl rfl (fun hb => ?_) (fun hb => ?_)) <;> first | (exfalso; omega) | skip) | (refine (j_ifn rfl rfl rfl (fun hb => ?_) (fun hb => ?_)) <;> first | (exfalso; omega) | skip)) | refine j_box rfl rfl rfl rfl rfl rfl ?_)
      | refine j_nil ?_
      | (refine r_go ?_; first | refine run_seq ?_ | refine run_region ?_ | refine run_cond_t rfl ?_ | (refine (run_if rfl (fun hb => ?_) (fun hb => ?_)) <;> first | (exfalso; omega) | skip) | refine run_ret ?_ | refine run_skip ?_)
      | refine seqQ_normal ?_)
      all_goals first
        | exact end1 rfl (List.Sublist.refl _) (ai (cd2_t (p := p.Ok) (q := p.StockOk s ∧ p.Cnts cs) hv (fun q => by have := q.2.2; first | exact absurd this (by assumption) | omega | (obtain ⟨x, hx, r⟩ := ‹∃ x ∈ cs, ¬ (0 ≤ x ∧ x ≤ 1000)›; exact r (q.2.1 x hx)))).symm) (.inl rfl)
        | exact end1 rfl (List.Sublist.refl _) (ai (cd2_o (p := p.Ok) (q := p.StockOk s ∧ p.Cnts cs) hv ⟨hs, fun x hx => Classical.byContradiction fun r => absurd (show ∃ x ∈ cs, ¬ (0 ≤ x ∧ x ≤ 1000) from ⟨x, hx, r⟩) (by assumption), by first | assumption | omega⟩).symm) (.inl rfl)
        | trace_state
    · rw [cd2_t hv hs] at cC
      repeat' (first
      | (refine j_go ?_; first
        | refine j_op0 rfl rfl rfl rfl ?_ | refine j_off rfl rfl rfl ?_ | (refine j_kCall rfl rfl rfl rfl ?_; first | refine jc (cC) (LeL.refl _) rfl rfl ?_) | (refine j_kGuard rfl ?_; first | (refine (j_if rfl rfl rfl (fun hb => ?_) (fun hb => ?_)) <;> first | (exfalso; omega) | skip)) | refine j_box rfl rfl rfl rfl rfl rfl ?_)
      | refine j_nil ?_
      | (refine r_go ?_; first | refine run_seq ?_ | refine run_region ?_ | refine run_cond_f rfl ?_ | refine run_ret ?_ | refine run_skip ?_)
      | refine seqQ_normal ?_)
      all_goals first | exact end1 rfl (List.Sublist.refl _) (ai (cd2_t (p := p.Ok) (q := p.StockOk s ∧ p.Cnts cs) hv (fun q => hs q.1)).symm) (.inl rfl) | trace_state
  · rw [cd2_f hv] at cC
    repeat' (first
      | (refine j_go ?_; first
        | refine j_op0 rfl rfl rfl rfl ?_ | refine j_off rfl rfl rfl ?_ | (refine j_kCall rfl rfl rfl rfl ?_; first | refine jc (cC) (LeL.refl _) rfl rfl ?_) | (refine j_kGuard rfl ?_; first | (refine (j_if rfl rfl rfl (fun hb => ?_) (fun hb => ?_)) <;> first | (exfalso; omega) | skip)) | refine j_box rfl rfl rfl rfl rfl rfl ?_)
      | refine j_nil ?_
      | (refine r_go ?_; first | refine run_seq ?_ | refine run_region ?_ | refine run_cond_f rfl ?_ | refine run_ret ?_ | refine run_skip ?_)
      | refine seqQ_normal ?_)
    all_goals first | exact end1 rfl (List.Sublist.refl _) (ai (cd2_f (p := p.Ok) (q := p.StockOk s ∧ p.Cnts cs) hv).symm) (.inl rfl) | trace_state

theorem c_changedF (p : Passing) (s : Stock) (cs : List Int) (hv : p.Ok) (hs : p.StockOk s) (hc : p.Cntw cs) : Gives Tryz.prog 46 [.agg (encPassing p), .agg (encStock s), .sl (cs.map Go.AI.encI), .raw (.bool false)] (.sl ((p.tks cs (plc s) p.rules.length).map (encS Go.AI.encI))) := by
  refine fn_of_run tyOk ztOk mix Tryz.func46 rfl (by decide) Tryz.ntmps46 (fun w0 h => ?_)
  have k8 := hv.1.1
  have p4 := hv.1.2.1
  have hfr := hv.1.2.2.2.1
  have h8 := hv.1.2.2.2.2.1
  have hcn := hc.2
  have hsl := hs.1
  have hne : s.cells ≠ [] := fun q => by rw [q] at hsl; simp at hsl; omega
  repeat' (first
      | (refine j_go ?_; first
        | refine j_op0 rfl rfl rfl rfl ?_ | refine j_box rfl rfl rfl rfl rfl rfl ?_)
      | refine j_nil ?_
      | (refine j_goO ?_; first
        | refine j_op0O rfl rfl rfl rfl ?_ | (refine j_kBslO rfl ?_; first | refine j_bslO rfl rfl rfl rfl rfl rfl rfl rfl rfl rfl rfl ?_))
      | (refine r_go ?_; first | refine run_seq ?_ | refine run_region ?_ | refine run_opn 1 [⟨0, true, false, 0⟩, ⟨1, true, false, 0⟩, ⟨3, false, false, 0⟩, ⟨4, false, false, 0⟩, ⟨5, false, false, 0⟩, ⟨2, false, true, 0⟩, ⟨6, false, true, 0⟩, ⟨7, true, false, 0⟩] rfl rfl (by kernel_rfl) ?_)
      | refine seqQ_normal ?_)
  refine j_kCallO rfl rfl rfl rfl ?_
  refine jcdO 0 0 rfl (fun _ hk => nomatch hk) (c_cloneSS s.cells hne (by omega)) rfl (LeL.refl _) rfl rfl (fun v h1 hR => ?_)
  obtain ⟨ob, cp, rfl, rfl⟩ := hR
  skip
  refine j_appendO 0 (g := encS Go.AI.encI) (ys := s.cells) [s.around] rfl (fun _ hk => nomatch hk) rfl rfl rfl rfl rfl rfl rfl rfl rfl rfl rfl rfl (fun _ => rfl) (fun _ hy => by simp only [List.mem_singleton] at hy; subst hy; rfl) ⟨by simp only [List.length_cons, List.length_nil]; omega, by simp only [List.length_cons, List.length_nil]; omega⟩ rfl rfl (fun ob2 cp2 => ?_)
  rw [show s.cells ++ [s.around] = plc s from rfl]
  repeat' (first
      | (refine j_go ?_; first
        | refine j_op0 rfl rfl rfl rfl ?_ | (refine j_kLen rfl ?_; first | refine j_len rfl rfl rfl rfl rfl rfl ?_))
      | refine j_nil ?_
      | (refine j_goO ?_; first
        | refine j_op0O rfl rfl rfl rfl ?_)
      | refine j_nilO ?_
      | (refine r_go ?_; first | refine run_seq ?_ | refine run_region ?_ | refine run_block ?_)
      | refine seqQ_normal ?_)
  refine run_loop (fun k : Nat => [(3, .raw (.bool false)), (4, .ip (encPassing p)), (9, .os ob2 (p.tks cs (plc s) k).length cp2), (23, .sl (cs.map Go.AI.encI)), (24, .int cs.length), (25, .int (k : Int))]) (fun k => ⟨ob2, 24, cp2 * 1, ((p.tks cs (plc s) k).map (encS Go.AI.encI)).flatten⟩ :: h) (fun k => k ≤ cs.length) (fun k => cs.length - k) 0 ⟨rfl, rfl, rfl, rfl, rfl, rfl, trivial⟩ rfl (Nat.zero_le _) (fun k kl => ?_)
  have sh := tks_sh' hv hc hs (k := k) (by omega)
  have ln := sh.n
  by_cases hk : k < cs.length
  · have hkr : k < p.rules.length := by omega
    have hck := hc.1 _ (List.getElem_mem hk)
    have sh2 := tks_sh' hv hc hs (k := k + 1) (by omega)
    have e := tks_succ (p := p) (cs := cs) (L := plc s) hkr hk
    have R := ruF hv (List.getElem_mem hkr)
    have rc := R.c0
    have rcl := R.c
    have ru := R.u
    have ol := R.o.1
    have il := R.i.1
    have hne2 : ((p.tks cs (plc s) k).map (encS Go.AI.encI)).flatten ≠ [] := fun q => by
      have h3 : (((p.tks cs (plc s) k).map (encS Go.AI.encI)).flatten).length = 0 := by rw [q]; rfl
      rw [flat_len (f := encS Go.AI.encI) (z := 1) (fun _ => rfl)] at h3
      omega
    refine run_some 0 rfl hne2 (fun b2 hb2 => ?_)
    subst hb2
    have n0 : -2000 ≤ 0 - cs[k] ∧ 0 - cs[k] ≤ 2000 := by omega
    have n1 : -2000 ≤ cs[k] ∧ cs[k] ≤ 2000 := by omega
    have cl0 : p.rules[k].cell.toNat < (p.tks cs (plc s) k).length := by omega
    have l2 := sh2.n
    by_cases hc0 : p.rules[k].cell = 0
    · have hup : p.up p.rules[k].cell = p.parents.length := by unfold Passing.up; rw [if_pos hc0]
      have gg : p.gk p.rules[k].cell = p.gk 0 := by rw [hc0]
      have fin : addL (addL (p.tks cs (plc s) k) p.rules[k].cell.toNat p.rules[k].out (0 - cs[k])) (p.up p.rules[k].cell) (only (p.gk 0) p.rules[k].in_) (0 - cs[k]) = p.tks cs (plc s) (k + 1) := by rw [e]; unfold Passing.tk mixR; rw [gg]
      have q1 : Sh (p.parents.length + 1) p.kinds.toNat (addL (p.tks cs (plc s) k) p.rules[k].cell.toNat p.rules[k].out (0 - cs[k])) 1002000000 := (sh.add (by omega) R.o.1 (R.o.mul n0)).mono (by omega)
      have ql1 := q1.n
      have q2 : Sh (p.parents.length + 1) p.kinds.toNat (addL (addL (p.tks cs (plc s) k) p.rules[k].cell.toNat p.rules[k].out (0 - cs[k])) (p.up p.rules[k].cell) (only (p.gk 0) p.rules[k].in_) (0 - cs[k])) 1004000000 := (q1.add (by omega) (R.i.only (p.gk 0)).1 ((R.i.only (p.gk 0)).mul n0)).mono (by omega)
      have ql2 := q2.n
      have lt0 : p.rules[k].cell.toNat < (p.tks cs (plc s) k).length := by omega
      have ft0 : Fits (p.tks cs (plc s) k)[p.rules[k].cell.toNat] p.rules[k].out (0 - cs[k]) := sh.fits (by omega) (by omega) lt0 R.o.1 (R.o.mul n0)
      have lt1 : (p.up p.rules[k].cell) < (addL (p.tks cs (plc s) k) p.rules[k].cell.toNat p.rules[k].out (0 - cs[k])).length := by omega
      have ft1 : Fits (addL (p.tks cs (plc s) k) p.rules[k].cell.toNat p.rules[k].out (0 - cs[k]))[(p.up p.rules[k].cell)] (only (p.gk 0) p.rules[k].in_) (0 - cs[k]) := q1.fits (by omega) (by omega) lt1 (R.i.only (p.gk 0)).1 ((R.i.only (p.gk 0)).mul n0)
      repeat' (first
      | (refine j_go ?_; first
        | refine j_op0 rfl rfl rfl rfl ?_ | (refine j_kIdx rfl ?_; first | refine j_idx rfl rfl rfl rfl rfl (by omega) rfl rfl rfl ?_) | (refine j_kCall rfl rfl rfl rfl ?_; first | refine jc (c_parentP _ _ hv.1 ⟨rc, rcl⟩) (LeL.refl _) rfl rfl ?_ | refine jc (c_outside _) (LeL.refl _) rfl rfl ?_ | refine jc (c_bound _ _ hv.1 (by first | (rw [il]; omega) | (rw [ol]; omega))) (LeL.refl _) rfl rfl ?_) | (refine j_kLoad rfl ?_; first | refine j_mload 0 rfl rfl rfl rfl rfl rfl rfl ?_) | (refine j_kStore rfl ?_; first | refine j_storeN 0 rfl rfl rfl rfl rfl rfl rfl rfl rfl rfl rfl ?_) | refine j_alloc rfl rfl rfl rfl rfl (fun _ => ?_))
      | refine j_nil ?_
      | (refine j_goO ?_; first
        | refine j_op0O rfl rfl rfl rfl ?_ | (refine j_kIdxO rfl ?_; first | refine j_midxzO rfl rfl rfl rfl rfl (by first | omega | (simp only [List.length_append, List.length_cons, List.length_nil]; omega)) rfl rfl ?_) | (refine j_kLoadO rfl ?_; first | refine j_mloadO 0 rfl rfl rfl rfl rfl rfl rfl rfl ?_))
      | (refine r_go ?_; first | refine run_seq ?_ | refine run_region ?_ | (refine (run_if rfl (fun hb => ?_) (fun hb => ?_)) <;> first | (exfalso; omega) | skip) | refine run_block ?_ | refine run_skip ?_ | refine run_opn 10 [⟨0, true, false, 0⟩, ⟨1, true, false, 0⟩, ⟨2, true, false, 0⟩, ⟨3, true, false, 0⟩, ⟨4, true, false, 0⟩, ⟨5, true, false, 0⟩, ⟨6, true, false, 0⟩, ⟨7, true, false, 0⟩, ⟨8, true, false, 0⟩, ⟨9, true, false, 0⟩, ⟨10, true, false, 0⟩, ⟨11, true, false, 0⟩, ⟨12, true, false, 0⟩, ⟨13, true, false, 0⟩, ⟨14, false, true, 0⟩] rfl rfl (by kernel_rfl) ?_ | refine run_regionD (by kernel_rfl) ?_)
      | refine seqQ_normal ?_)
      refine j_mloadEO 1 p.rules[k].cell.toNat (g := encS Go.AI.encI) (L := p.tks cs (plc s) k) (z := 1) rfl rfl rfl rfl rfl (fun _ => rfl) rfl lt0 (fun _ => rfl) rfl rfl ?_
      repeat' (first
      | (refine j_goO ?_; first
        | refine j_op0O rfl rfl rfl rfl ?_ | (refine j_kIdxO rfl ?_; first | refine j_midxzO rfl rfl rfl rfl rfl (by first | omega | (simp only [List.length_append, List.length_cons, List.length_nil]; omega)) rfl rfl ?_) | (refine j_kBinO rfl ?_; first | refine j_inO rfl rfl ⟨by omega, by omega⟩ rfl rfl ?_) | (refine j_kCallO rfl rfl rfl rfl ?_; first | refine jcO (c_plus _ _ _ ft0) (LeL.refl _) rfl rfl ?_) | (refine j_kLoadO rfl ?_; first | refine j_mloadO 0 rfl rfl rfl rfl rfl rfl rfl rfl ?_) | refine j_inO rfl rfl ⟨by omega, by omega⟩ rfl rfl ?_))
      refine j_storeEO 1 p.rules[k].cell.toNat (g := encS Go.AI.encI) (plusL (p.tks cs (plc s) k)[p.rules[k].cell.toNat] p.rules[k].out (0 - cs[k])) rfl rfl rfl rfl rfl rfl rfl rfl rfl rfl (fun _ => rfl) rfl lt0 (fun _ hk => nomatch hk) ?_
      rw [← addL_get lt0]
      repeat' (first
      | (refine j_go ?_; first
        | refine j_op0 rfl rfl rfl rfl ?_ | (refine j_kIdx rfl ?_; first | refine j_midx rfl rfl rfl rfl rfl (by first | omega | (simp only [List.length_append, List.length_cons, List.length_nil]; omega)) rfl rfl ?_))
      | refine j_nilO ?_
      | (refine r_go ?_; first | refine run_seq ?_ | refine run_region ?_)
      | refine seqQ_normal ?_)
      refine j_mloadE 1 (p.up p.rules[k].cell) (g := encS Go.AI.encI) (L := addL (p.tks cs (plc s) k) p.rules[k].cell.toNat p.rules[k].out (0 - cs[k])) (z := 1) rfl rfl rfl rfl (fun _ => rfl) rfl lt1 (fun _ => rfl) rfl rfl ?_
      repeat' (first
      | (refine j_go ?_; first
        | refine j_op0 rfl rfl rfl rfl ?_ | (refine j_kIdx rfl ?_; first | refine j_midx rfl rfl rfl rfl rfl (by first | omega | (simp only [List.length_append, List.length_cons, List.length_nil]; omega)) rfl rfl ?_) | (refine j_kBin rfl ?_; first | refine j_in rfl rfl ⟨by omega, by omega⟩ rfl rfl ?_) | (refine j_kCall rfl rfl rfl rfl ?_; first | refine jc (c_plus _ _ _ ft1) (LeL.refl _) rfl rfl ?_) | refine j_in rfl rfl ⟨by omega, by omega⟩ rfl rfl ?_))
      refine j_storeE 1 (p.up p.rules[k].cell) (g := encS Go.AI.encI) (plusL (addL (p.tks cs (plc s) k) p.rules[k].cell.toNat p.rules[k].out (0 - cs[k]))[(p.up p.rules[k].cell)] (only (p.gk 0) p.rules[k].in_) (0 - cs[k])) rfl rfl rfl rfl rfl rfl rfl rfl rfl (fun _ => rfl) rfl lt1 ?_
      rw [← addL_get lt1]
      repeat' (first
      | (refine j_go ?_; first
        | refine j_op0 rfl rfl rfl rfl ?_ | (refine j_kBin rfl ?_; first | refine j_in rfl rfl ⟨by omega, by omega⟩ rfl rfl ?_) | refine j_in rfl rfl ⟨by omega, by omega⟩ rfl rfl ?_)
      | refine j_nil ?_
      | (refine r_go ?_; first | refine run_seq ?_ | refine run_region ?_ | refine run_cond_f rfl ?_ | refine run_skip ?_)
      | refine seqQ_normal ?_ | refine blockQ_normal ?_)
      rw [fin]
      exact loopQ_nextD (k + 1) (by omega) (by omega) (List.sublist_cons_self _ _) ⟨rfl, rfl, (by rw [l2, ← ln]; rfl), rfl, rfl, nx _, trivial⟩
    · have hup : p.up p.rules[k].cell < p.parents.length := by
        have q := hv.1.par (c := p.rules[k].cell) (by omega) rcl
        unfold Passing.up; rw [if_neg hc0, q.1]; omega
      have gi := only_true (b := p.rules[k].in_) (fun j => gk_pos (p := p) (c := p.rules[k].cell) (by omega) j)
      have fin : addL (addL (p.tks cs (plc s) k) p.rules[k].cell.toNat p.rules[k].out (0 - cs[k])) (p.up p.rules[k].cell) p.rules[k].in_ (0 - cs[k]) = p.tks cs (plc s) (k + 1) := by rw [e]; unfold Passing.tk mixR; rw [gi]
      have q1 : Sh (p.parents.length + 1) p.kinds.toNat (addL (p.tks cs (plc s) k) p.rules[k].cell.toNat p.rules[k].out (0 - cs[k])) 1002000000 := (sh.add (by omega) R.o.1 (R.o.mul n0)).mono (by omega)
      have ql1 := q1.n
      have q2 : Sh (p.parents.length + 1) p.kinds.toNat (addL (addL (p.tks cs (plc s) k) p.rules[k].cell.toNat p.rules[k].out (0 - cs[k])) (p.up p.rules[k].cell) p.rules[k].in_ (0 - cs[k])) 1004000000 := (q1.add (by omega) R.i.1 (R.i.mul n0)).mono (by omega)
      have ql2 := q2.n
      have lt0 : p.rules[k].cell.toNat < (p.tks cs (plc s) k).length := by omega
      have ft0 : Fits (p.tks cs (plc s) k)[p.rules[k].cell.toNat] p.rules[k].out (0 - cs[k]) := sh.fits (by omega) (by omega) lt0 R.o.1 (R.o.mul n0)
      have lt1 : (p.up p.rules[k].cell) < (addL (p.tks cs (plc s) k) p.rules[k].cell.toNat p.rules[k].out (0 - cs[k])).length := by omega
      have ft1 : Fits (addL (p.tks cs (plc s) k) p.rules[k].cell.toNat p.rules[k].out (0 - cs[k]))[(p.up p.rules[k].cell)] p.rules[k].in_ (0 - cs[k]) := q1.fits (by omega) (by omega) lt1 R.i.1 (R.i.mul n0)
      repeat' (first
      | (refine j_go ?_; first
        | refine j_op0 rfl rfl rfl rfl ?_ | (refine j_kIdx rfl ?_; first | refine j_idx rfl rfl rfl rfl rfl (by omega) rfl rfl rfl ?_) | (refine j_kCall rfl rfl rfl rfl ?_; first | refine jc (c_parentP _ _ hv.1 ⟨rc, rcl⟩) (LeL.refl _) rfl rfl ?_ | refine jc (c_outside _) (LeL.refl _) rfl rfl ?_) | (refine j_kLoad rfl ?_; first | refine j_mload 0 rfl rfl rfl rfl rfl rfl rfl ?_) | (refine j_kStore rfl ?_; first | refine j_storeN 0 rfl rfl rfl rfl rfl rfl rfl rfl rfl rfl rfl ?_) | refine j_alloc rfl rfl rfl rfl rfl (fun _ => ?_))
      | refine j_nil ?_
      | (refine j_goO ?_; first
        | refine j_op0O rfl rfl rfl rfl ?_ | (refine j_kIdxO rfl ?_; first | refine j_midxzO rfl rfl rfl rfl rfl (by first | omega | (simp only [List.length_append, List.length_cons, List.length_nil]; omega)) rfl rfl ?_) | (refine j_kLoadO rfl ?_; first | refine j_mloadO 0 rfl rfl rfl rfl rfl rfl rfl rfl ?_))
      | (refine r_go ?_; first | refine run_seq ?_ | refine run_region ?_ | (refine (run_if rfl (fun hb => ?_) (fun hb => ?_)) <;> first | (exfalso; omega) | skip) | refine run_block ?_ | refine run_skip ?_ | refine run_opn 10 [⟨0, true, false, 0⟩, ⟨1, true, false, 0⟩, ⟨2, true, false, 0⟩, ⟨3, true, false, 0⟩, ⟨4, true, false, 0⟩, ⟨5, true, false, 0⟩, ⟨6, true, false, 0⟩, ⟨7, true, false, 0⟩, ⟨8, true, false, 0⟩, ⟨9, true, false, 0⟩, ⟨10, true, false, 0⟩, ⟨11, true, false, 0⟩, ⟨12, true, false, 0⟩, ⟨13, true, false, 0⟩, ⟨14, false, true, 0⟩] rfl rfl (by kernel_rfl) ?_ | refine run_regionD (by kernel_rfl) ?_)
      | refine seqQ_normal ?_)
      refine j_mloadEO 1 p.rules[k].cell.toNat (g := encS Go.AI.encI) (L := p.tks cs (plc s) k) (z := 1) rfl rfl rfl rfl rfl (fun _ => rfl) rfl lt0 (fun _ => rfl) rfl rfl ?_
      repeat' (first
      | (refine j_goO ?_; first
        | refine j_op0O rfl rfl rfl rfl ?_ | (refine j_kIdxO rfl ?_; first | refine j_midxzO rfl rfl rfl rfl rfl (by first | omega | (simp only [List.length_append, List.length_cons, List.length_nil]; omega)) rfl rfl ?_) | (refine j_kBinO rfl ?_; first | refine j_inO rfl rfl ⟨by omega, by omega⟩ rfl rfl ?_) | (refine j_kCallO rfl rfl rfl rfl ?_; first | refine jcO (c_plus _ _ _ ft0) (LeL.refl _) rfl rfl ?_) | (refine j_kLoadO rfl ?_; first | refine j_mloadO 0 rfl rfl rfl rfl rfl rfl rfl rfl ?_) | refine j_inO rfl rfl ⟨by omega, by omega⟩ rfl rfl ?_))
      refine j_storeEO 1 p.rules[k].cell.toNat (g := encS Go.AI.encI) (plusL (p.tks cs (plc s) k)[p.rules[k].cell.toNat] p.rules[k].out (0 - cs[k])) rfl rfl rfl rfl rfl rfl rfl rfl rfl rfl (fun _ => rfl) rfl lt0 (fun _ hk => nomatch hk) ?_
      rw [← addL_get lt0]
      repeat' (first
      | (refine j_go ?_; first
        | refine j_op0 rfl rfl rfl rfl ?_ | (refine j_kIdx rfl ?_; first | refine j_midx rfl rfl rfl rfl rfl (by first | omega | (simp only [List.length_append, List.length_cons, List.length_nil]; omega)) rfl rfl ?_))
      | refine j_nilO ?_
      | (refine r_go ?_; first | refine run_seq ?_ | refine run_region ?_)
      | refine seqQ_normal ?_)
      refine j_mloadE 1 (p.up p.rules[k].cell) (g := encS Go.AI.encI) (L := addL (p.tks cs (plc s) k) p.rules[k].cell.toNat p.rules[k].out (0 - cs[k])) (z := 1) rfl rfl rfl rfl (fun _ => rfl) rfl lt1 (fun _ => rfl) rfl rfl ?_
      repeat' (first
      | (refine j_go ?_; first
        | refine j_op0 rfl rfl rfl rfl ?_ | (refine j_kIdx rfl ?_; first | refine j_midx rfl rfl rfl rfl rfl (by first | omega | (simp only [List.length_append, List.length_cons, List.length_nil]; omega)) rfl rfl ?_) | (refine j_kBin rfl ?_; first | refine j_in rfl rfl ⟨by omega, by omega⟩ rfl rfl ?_) | (refine j_kCall rfl rfl rfl rfl ?_; first | refine jc (c_plus _ _ _ ft1) (LeL.refl _) rfl rfl ?_) | refine j_in rfl rfl ⟨by omega, by omega⟩ rfl rfl ?_))
      refine j_storeE 1 (p.up p.rules[k].cell) (g := encS Go.AI.encI) (plusL (addL (p.tks cs (plc s) k) p.rules[k].cell.toNat p.rules[k].out (0 - cs[k]))[(p.up p.rules[k].cell)] p.rules[k].in_ (0 - cs[k])) rfl rfl rfl rfl rfl rfl rfl rfl rfl (fun _ => rfl) rfl lt1 ?_
      rw [← addL_get lt1]
      repeat' (first
      | (refine j_go ?_; first
        | refine j_op0 rfl rfl rfl rfl ?_ | (refine j_kBin rfl ?_; first | refine j_in rfl rfl ⟨by omega, by omega⟩ rfl rfl ?_) | refine j_in rfl rfl ⟨by omega, by omega⟩ rfl rfl ?_)
      | refine j_nil ?_
      | (refine r_go ?_; first | refine run_seq ?_ | refine run_region ?_ | refine run_cond_f rfl ?_ | refine run_skip ?_)
      | refine seqQ_normal ?_ | refine blockQ_normal ?_)
      rw [fin]
      exact loopQ_nextD (k + 1) (by omega) (by omega) (List.sublist_cons_self _ _) ⟨rfl, rfl, (by rw [l2, ← ln]; rfl), rfl, rfl, nx _, trivial⟩
  · have hke : k = p.rules.length := by omega
    subst hke
    repeat' (first
      | (refine j_go ?_; first
        | refine j_op0 rfl rfl rfl rfl ?_)
      | refine j_nil ?_
      | (refine r_go ?_; first | refine run_seq ?_ | refine run_region ?_ | (refine (run_if rfl (fun hb => ?_) (fun hb => ?_)) <;> first | (exfalso; omega) | skip) | refine run_ret ?_ | refine run_exit ?_)
      | refine seqQ_normal ?_ | refine seqQ_exit ?_ | refine blockQ_eq ?_ | refine loopQ_exit ?_)
    refine end_view (view_freeze (g := encS Go.AI.encI) (z := 1) (ys := p.tks cs (plc s) p.rules.length) 0 8 rfl rfl rfl (fun _ => rfl) rfl rfl) ?_
    exact end1 rfl (List.Sublist.refl _) rfl (.inl rfl)

theorem c_changedT (p : Passing) (s : Stock) (cs : List Int) (hv : p.Ok) (hs : p.StockOk s) (hc : p.Cnts cs) : Gives Tryz.prog 46 [.agg (encPassing p), .agg (encStock s), .sl (cs.map Go.AI.encI), .raw (.bool true)] (.sl ((p.chs cs (plc s) p.rules.length).map (encS Go.AI.encI))) := by
  refine fn_of_run tyOk ztOk mix Tryz.func46 rfl (by decide) Tryz.ntmps46 (fun w0 h => ?_)
  have k8 := hv.1.1
  have p4 := hv.1.2.1
  have hfr := hv.1.2.2.2.1
  have h8 := hv.1.2.2.2.2.1
  have hcn := hc.2
  have hsl := hs.1
  have hne : s.cells ≠ [] := fun q => by rw [q] at hsl; simp at hsl; omega
  repeat' (first
      | (refine j_go ?_; first
        | refine j_op0 rfl rfl rfl rfl ?_ | refine j_box rfl rfl rfl rfl rfl rfl ?_)
      | refine j_nil ?_
      | (refine j_goO ?_; first
        | refine j_op0O rfl rfl rfl rfl ?_ | (refine j_kBslO rfl ?_; first | refine j_bslO rfl rfl rfl rfl rfl rfl rfl rfl rfl rfl rfl ?_))
      | (refine r_go ?_; first | refine run_seq ?_ | refine run_region ?_ | refine run_opn 1 [⟨0, true, false, 0⟩, ⟨1, true, false, 0⟩, ⟨3, false, false, 0⟩, ⟨4, false, false, 0⟩, ⟨5, false, false, 0⟩, ⟨2, false, true, 0⟩, ⟨6, false, true, 0⟩, ⟨7, true, false, 0⟩] rfl rfl (by kernel_rfl) ?_)
      | refine seqQ_normal ?_)
  refine j_kCallO rfl rfl rfl rfl ?_
  refine jcdO 0 0 rfl (fun _ hk => nomatch hk) (c_cloneSS s.cells hne (by omega)) rfl (LeL.refl _) rfl rfl (fun v h1 hR => ?_)
  obtain ⟨ob, cp, rfl, rfl⟩ := hR
  skip
  refine j_appendO 0 (g := encS Go.AI.encI) (ys := s.cells) [s.around] rfl (fun _ hk => nomatch hk) rfl rfl rfl rfl rfl rfl rfl rfl rfl rfl rfl rfl (fun _ => rfl) (fun _ hy => by simp only [List.mem_singleton] at hy; subst hy; rfl) ⟨by simp only [List.length_cons, List.length_nil]; omega, by simp only [List.length_cons, List.length_nil]; omega⟩ rfl rfl (fun ob2 cp2 => ?_)
  rw [show s.cells ++ [s.around] = plc s from rfl]
  repeat' (first
      | (refine j_go ?_; first
        | refine j_op0 rfl rfl rfl rfl ?_ | (refine j_kLen rfl ?_; first | refine j_len rfl rfl rfl rfl rfl rfl ?_))
      | refine j_nil ?_
      | (refine j_goO ?_; first
        | refine j_op0O rfl rfl rfl rfl ?_)
      | refine j_nilO ?_
      | (refine r_go ?_; first | refine run_seq ?_ | refine run_region ?_ | refine run_block ?_)
      | refine seqQ_normal ?_)
  refine run_loop (fun k : Nat => [(3, .raw (.bool true)), (4, .ip (encPassing p)), (9, .os ob2 (p.chs cs (plc s) k).length cp2), (23, .sl (cs.map Go.AI.encI)), (24, .int cs.length), (25, .int (k : Int))]) (fun k => ⟨ob2, 24, cp2 * 1, ((p.chs cs (plc s) k).map (encS Go.AI.encI)).flatten⟩ :: h) (fun k => k ≤ cs.length) (fun k => cs.length - k) 0 ⟨rfl, rfl, rfl, rfl, rfl, rfl, trivial⟩ rfl (Nat.zero_le _) (fun k kl => ?_)
  have sh := chs_sh' hv hc hs (k := k) (by omega)
  have ln := sh.n
  by_cases hk : k < cs.length
  · have hkr : k < p.rules.length := by omega
    have hck := hc.1 _ (List.getElem_mem hk)
    have sh2 := chs_sh' hv hc hs (k := k + 1) (by omega)
    have e := chs_succ (p := p) (cs := cs) (L := plc s) hkr hk
    have R := ruF hv (List.getElem_mem hkr)
    have rc := R.c0
    have rcl := R.c
    have ru := R.u
    have ol := R.o.1
    have il := R.i.1
    have hne2 : ((p.chs cs (plc s) k).map (encS Go.AI.encI)).flatten ≠ [] := fun q => by
      have h3 : (((p.chs cs (plc s) k).map (encS Go.AI.encI)).flatten).length = 0 := by rw [q]; rfl
      rw [flat_len (f := encS Go.AI.encI) (z := 1) (fun _ => rfl)] at h3
      omega
    refine run_some 0 rfl hne2 (fun b2 hb2 => ?_)
    subst hb2
    have n0 : -2000 ≤ 0 - cs[k] ∧ 0 - cs[k] ≤ 2000 := by omega
    have n1 : -2000 ≤ cs[k] ∧ cs[k] ≤ 2000 := by omega
    have cl0 : p.rules[k].cell.toNat < (p.chs cs (plc s) k).length := by omega
    have l2 := sh2.n
    by_cases hc0 : p.rules[k].cell = 0
    · have hup : p.up p.rules[k].cell = p.parents.length := by unfold Passing.up; rw [if_pos hc0]
      have gg : p.gk p.rules[k].cell = p.gk 0 := by rw [hc0]
      have fin : addL (addL (addL (addL (p.chs cs (plc s) k) p.rules[k].cell.toNat p.rules[k].out (0 - cs[k])) (p.up p.rules[k].cell) (only (p.gk 0) p.rules[k].in_) (0 - cs[k])) p.rules[k].cell.toNat p.rules[k].in_ (cs[k])) (p.up p.rules[k].cell) (only (p.gk 0) p.rules[k].out) (cs[k]) = p.chs cs (plc s) (k + 1) := by rw [e]; unfold Passing.gv Passing.tk mixR; rw [gg]
      have q1 : Sh (p.parents.length + 1) p.kinds.toNat (addL (p.chs cs (plc s) k) p.rules[k].cell.toNat p.rules[k].out (0 - cs[k])) 1002000000 := (sh.add (by omega) R.o.1 (R.o.mul n0)).mono (by omega)
      have ql1 := q1.n
      have q2 : Sh (p.parents.length + 1) p.kinds.toNat (addL (addL (p.chs cs (plc s) k) p.rules[k].cell.toNat p.rules[k].out (0 - cs[k])) (p.up p.rules[k].cell) (only (p.gk 0) p.rules[k].in_) (0 - cs[k])) 1004000000 := (q1.add (by omega) (R.i.only (p.gk 0)).1 ((R.i.only (p.gk 0)).mul n0)).mono (by omega)
      have ql2 := q2.n
      have q3 : Sh (p.parents.length + 1) p.kinds.toNat (addL (addL (addL (p.chs cs (plc s) k) p.rules[k].cell.toNat p.rules[k].out (0 - cs[k])) (p.up p.rules[k].cell) (only (p.gk 0) p.rules[k].in_) (0 - cs[k])) p.rules[k].cell.toNat p.rules[k].in_ (cs[k])) 1006000000 := (q2.add (by omega) R.i.1 (R.i.mul n1)).mono (by omega)
      have ql3 := q3.n
      have q4 : Sh (p.parents.length + 1) p.kinds.toNat (addL (addL (addL (addL (p.chs cs (plc s) k) p.rules[k].cell.toNat p.rules[k].out (0 - cs[k])) (p.up p.rules[k].cell) (only (p.gk 0) p.rules[k].in_) (0 - cs[k])) p.rules[k].cell.toNat p.rules[k].in_ (cs[k])) (p.up p.rules[k].cell) (only (p.gk 0) p.rules[k].out) (cs[k])) 1008000000 := (q3.add (by omega) (R.o.only (p.gk 0)).1 ((R.o.only (p.gk 0)).mul n1)).mono (by omega)
      have ql4 := q4.n
      have lt0 : p.rules[k].cell.toNat < (p.chs cs (plc s) k).length := by omega
      have ft0 : Fits (p.chs cs (plc s) k)[p.rules[k].cell.toNat] p.rules[k].out (0 - cs[k]) := sh.fits (by omega) (by omega) lt0 R.o.1 (R.o.mul n0)
      have lt1 : (p.up p.rules[k].cell) < (addL (p.chs cs (plc s) k) p.rules[k].cell.toNat p.rules[k].out (0 - cs[k])).length := by omega
      have ft1 : Fits (addL (p.chs cs (plc s) k) p.rules[k].cell.toNat p.rules[k].out (0 - cs[k]))[(p.up p.rules[k].cell)] (only (p.gk 0) p.rules[k].in_) (0 - cs[k]) := q1.fits (by omega) (by omega) lt1 (R.i.only (p.gk 0)).1 ((R.i.only (p.gk 0)).mul n0)
      have lt2 : p.rules[k].cell.toNat < (addL (addL (p.chs cs (plc s) k) p.rules[k].cell.toNat p.rules[k].out (0 - cs[k])) (p.up p.rules[k].cell) (only (p.gk 0) p.rules[k].in_) (0 - cs[k])).length := by omega
      have ft2 : Fits (addL (addL (p.chs cs (plc s) k) p.rules[k].cell.toNat p.rules[k].out (0 - cs[k])) (p.up p.rules[k].cell) (only (p.gk 0) p.rules[k].in_) (0 - cs[k]))[p.rules[k].cell.toNat] p.rules[k].in_ (cs[k]) := q2.fits (by omega) (by omega) lt2 R.i.1 (R.i.mul n1)
      have lt3 : (p.up p.rules[k].cell) < (addL (addL (addL (p.chs cs (plc s) k) p.rules[k].cell.toNat p.rules[k].out (0 - cs[k])) (p.up p.rules[k].cell) (only (p.gk 0) p.rules[k].in_) (0 - cs[k])) p.rules[k].cell.toNat p.rules[k].in_ (cs[k])).length := by omega
      have ft3 : Fits (addL (addL (addL (p.chs cs (plc s) k) p.rules[k].cell.toNat p.rules[k].out (0 - cs[k])) (p.up p.rules[k].cell) (only (p.gk 0) p.rules[k].in_) (0 - cs[k])) p.rules[k].cell.toNat p.rules[k].in_ (cs[k]))[(p.up p.rules[k].cell)] (only (p.gk 0) p.rules[k].out) (cs[k]) := q3.fits (by omega) (by omega) lt3 (R.o.only (p.gk 0)).1 ((R.o.only (p.gk 0)).mul n1)
      repeat' (first
      | (refine j_go ?_; first
        | refine j_op0 rfl rfl rfl rfl ?_ | (refine j_kIdx rfl ?_; first | refine j_idx rfl rfl rfl rfl rfl (by omega) rfl rfl rfl ?_) | (refine j_kCall rfl rfl rfl rfl ?_; first | refine jc (c_parentP _ _ hv.1 ⟨rc, rcl⟩) (LeL.refl _) rfl rfl ?_ | refine jc (c_outside _) (LeL.refl _) rfl rfl ?_ | refine jc (c_bound _ _ hv.1 (by first | (rw [il]; omega) | (rw [ol]; omega))) (LeL.refl _) rfl rfl ?_) | (refine j_kLoad rfl ?_; first | refine j_mload 0 rfl rfl rfl rfl rfl rfl rfl ?_) | (refine j_kStore rfl ?_; first | refine j_storeN 0 rfl rfl rfl rfl rfl rfl rfl rfl rfl rfl rfl ?_) | refine j_alloc rfl rfl rfl rfl rfl (fun _ => ?_))
      | refine j_nil ?_
      | (refine j_goO ?_; first
        | refine j_op0O rfl rfl rfl rfl ?_ | (refine j_kIdxO rfl ?_; first | refine j_midxzO rfl rfl rfl rfl rfl (by first | omega | (simp only [List.length_append, List.length_cons, List.length_nil]; omega)) rfl rfl ?_) | (refine j_kLoadO rfl ?_; first | refine j_mloadO 0 rfl rfl rfl rfl rfl rfl rfl rfl ?_))
      | (refine r_go ?_; first | refine run_seq ?_ | refine run_region ?_ | (refine (run_if rfl (fun hb => ?_) (fun hb => ?_)) <;> first | (exfalso; omega) | skip) | refine run_block ?_ | refine run_skip ?_ | refine run_opn 10 [⟨0, true, false, 0⟩, ⟨1, true, false, 0⟩, ⟨2, true, false, 0⟩, ⟨3, true, false, 0⟩, ⟨4, true, false, 0⟩, ⟨5, true, false, 0⟩, ⟨6, true, false, 0⟩, ⟨7, true, false, 0⟩, ⟨8, true, false, 0⟩, ⟨9, true, false, 0⟩, ⟨10, true, false, 0⟩, ⟨11, true, false, 0⟩, ⟨12, true, false, 0⟩, ⟨13, true, false, 0⟩, ⟨14, false, true, 0⟩] rfl rfl (by kernel_rfl) ?_ | refine run_regionD (by kernel_rfl) ?_)
      | refine seqQ_normal ?_)
      refine j_mloadEO 1 p.rules[k].cell.toNat (g := encS Go.AI.encI) (L := p.chs cs (plc s) k) (z := 1) rfl rfl rfl rfl rfl (fun _ => rfl) rfl lt0 (fun _ => rfl) rfl rfl ?_
      repeat' (first
      | (refine j_goO ?_; first
        | refine j_op0O rfl rfl rfl rfl ?_ | (refine j_kIdxO rfl ?_; first | refine j_midxzO rfl rfl rfl rfl rfl (by first | omega | (simp only [List.length_append, List.length_cons, List.length_nil]; omega)) rfl rfl ?_) | (refine j_kBinO rfl ?_; first | refine j_inO rfl rfl ⟨by omega, by omega⟩ rfl rfl ?_) | (refine j_kCallO rfl rfl rfl rfl ?_; first | refine jcO (c_plus _ _ _ ft0) (LeL.refl _) rfl rfl ?_) | (refine j_kLoadO rfl ?_; first | refine j_mloadO 0 rfl rfl rfl rfl rfl rfl rfl rfl ?_) | refine j_inO rfl rfl ⟨by omega, by omega⟩ rfl rfl ?_))
      refine j_storeEO 1 p.rules[k].cell.toNat (g := encS Go.AI.encI) (plusL (p.chs cs (plc s) k)[p.rules[k].cell.toNat] p.rules[k].out (0 - cs[k])) rfl rfl rfl rfl rfl rfl rfl rfl rfl rfl (fun _ => rfl) rfl lt0 (fun _ hk => nomatch hk) ?_
      rw [← addL_get lt0]
      repeat' (first
      | (refine j_go ?_; first
        | refine j_op0 rfl rfl rfl rfl ?_ | (refine j_kIdx rfl ?_; first | refine j_midx rfl rfl rfl rfl rfl (by first | omega | (simp only [List.length_append, List.length_cons, List.length_nil]; omega)) rfl rfl ?_))
      | refine j_nilO ?_
      | (refine r_go ?_; first | refine run_seq ?_ | refine run_region ?_)
      | refine seqQ_normal ?_)
      refine j_mloadE 1 (p.up p.rules[k].cell) (g := encS Go.AI.encI) (L := addL (p.chs cs (plc s) k) p.rules[k].cell.toNat p.rules[k].out (0 - cs[k])) (z := 1) rfl rfl rfl rfl (fun _ => rfl) rfl lt1 (fun _ => rfl) rfl rfl ?_
      repeat' (first
      | (refine j_go ?_; first
        | refine j_op0 rfl rfl rfl rfl ?_ | (refine j_kIdx rfl ?_; first | refine j_midx rfl rfl rfl rfl rfl (by first | omega | (simp only [List.length_append, List.length_cons, List.length_nil]; omega)) rfl rfl ?_) | (refine j_kBin rfl ?_; first | refine j_in rfl rfl ⟨by omega, by omega⟩ rfl rfl ?_) | (refine j_kCall rfl rfl rfl rfl ?_; first | refine jc (c_plus _ _ _ ft1) (LeL.refl _) rfl rfl ?_) | refine j_in rfl rfl ⟨by omega, by omega⟩ rfl rfl ?_))
      refine j_storeE 1 (p.up p.rules[k].cell) (g := encS Go.AI.encI) (plusL (addL (p.chs cs (plc s) k) p.rules[k].cell.toNat p.rules[k].out (0 - cs[k]))[(p.up p.rules[k].cell)] (only (p.gk 0) p.rules[k].in_) (0 - cs[k])) rfl rfl rfl rfl rfl rfl rfl rfl rfl (fun _ => rfl) rfl lt1 ?_
      rw [← addL_get lt1]
      repeat' (first
      | (refine j_go ?_; first
        | refine j_op0 rfl rfl rfl rfl ?_)
      | refine j_nil ?_
      | (refine j_goO ?_; first
        | refine j_op0O rfl rfl rfl rfl ?_ | (refine j_kIdxO rfl ?_; first | refine j_midxzO rfl rfl rfl rfl rfl (by first | omega | (simp only [List.length_append, List.length_cons, List.length_nil]; omega)) rfl rfl ?_) | (refine j_kLoadO rfl ?_; first | refine j_mloadO 0 rfl rfl rfl rfl rfl rfl rfl rfl ?_))
      | (refine r_go ?_; first | refine run_seq ?_ | refine run_region ?_ | refine run_cond_t rfl ?_ | refine run_opn 13 [⟨0, true, false, 0⟩, ⟨1, true, false, 0⟩, ⟨2, true, false, 0⟩, ⟨3, true, false, 0⟩, ⟨4, true, false, 0⟩, ⟨5, true, false, 0⟩, ⟨6, true, false, 0⟩, ⟨7, true, false, 0⟩, ⟨8, true, false, 0⟩, ⟨9, true, false, 0⟩, ⟨10, true, false, 0⟩, ⟨11, true, false, 0⟩, ⟨12, true, false, 0⟩, ⟨13, false, true, 0⟩] rfl rfl (by kernel_rfl) ?_)
      | refine seqQ_normal ?_)
      refine j_mloadEO 1 p.rules[k].cell.toNat (g := encS Go.AI.encI) (L := addL (addL (p.chs cs (plc s) k) p.rules[k].cell.toNat p.rules[k].out (0 - cs[k])) (p.up p.rules[k].cell) (only (p.gk 0) p.rules[k].in_) (0 - cs[k])) (z := 1) rfl rfl rfl rfl rfl (fun _ => rfl) rfl lt2 (fun _ => rfl) rfl rfl ?_
      repeat' (first
      | (refine j_goO ?_; first
        | refine j_op0O rfl rfl rfl rfl ?_ | (refine j_kIdxO rfl ?_; first | refine j_midxzO rfl rfl rfl rfl rfl (by first | omega | (simp only [List.length_append, List.length_cons, List.length_nil]; omega)) rfl rfl ?_) | (refine j_kCallO rfl rfl rfl rfl ?_; first | refine jcO (c_plus _ _ _ ft2) (LeL.refl _) rfl rfl ?_) | (refine j_kLoadO rfl ?_; first | refine j_mloadO 0 rfl rfl rfl rfl rfl rfl rfl rfl ?_)))
      refine j_storeEO 1 p.rules[k].cell.toNat (g := encS Go.AI.encI) (plusL (addL (addL (p.chs cs (plc s) k) p.rules[k].cell.toNat p.rules[k].out (0 - cs[k])) (p.up p.rules[k].cell) (only (p.gk 0) p.rules[k].in_) (0 - cs[k]))[p.rules[k].cell.toNat] p.rules[k].in_ (cs[k])) rfl rfl rfl rfl rfl rfl rfl rfl rfl rfl (fun _ => rfl) rfl lt2 (fun _ hk => nomatch hk) ?_
      rw [← addL_get lt2]
      repeat' (first
      | (refine j_go ?_; first
        | refine j_op0 rfl rfl rfl rfl ?_ | (refine j_kIdx rfl ?_; first | refine j_midx rfl rfl rfl rfl rfl (by first | omega | (simp only [List.length_append, List.length_cons, List.length_nil]; omega)) rfl rfl ?_))
      | refine j_nilO ?_
      | (refine r_go ?_; first | refine run_region ?_)
      | refine seqQ_normal ?_)
      refine j_mloadE 1 (p.up p.rules[k].cell) (g := encS Go.AI.encI) (L := addL (addL (addL (p.chs cs (plc s) k) p.rules[k].cell.toNat p.rules[k].out (0 - cs[k])) (p.up p.rules[k].cell) (only (p.gk 0) p.rules[k].in_) (0 - cs[k])) p.rules[k].cell.toNat p.rules[k].in_ (cs[k])) (z := 1) rfl rfl rfl rfl (fun _ => rfl) rfl lt3 (fun _ => rfl) rfl rfl ?_
      repeat' (first
      | (refine j_go ?_; first
        | refine j_op0 rfl rfl rfl rfl ?_ | (refine j_kIdx rfl ?_; first | refine j_midx rfl rfl rfl rfl rfl (by first | omega | (simp only [List.length_append, List.length_cons, List.length_nil]; omega)) rfl rfl ?_) | (refine j_kCall rfl rfl rfl rfl ?_; first | refine jc (c_plus _ _ _ ft3) (LeL.refl _) rfl rfl ?_)))
      refine j_storeE 1 (p.up p.rules[k].cell) (g := encS Go.AI.encI) (plusL (addL (addL (addL (p.chs cs (plc s) k) p.rules[k].cell.toNat p.rules[k].out (0 - cs[k])) (p.up p.rules[k].cell) (only (p.gk 0) p.rules[k].in_) (0 - cs[k])) p.rules[k].cell.toNat p.rules[k].in_ (cs[k]))[(p.up p.rules[k].cell)] (only (p.gk 0) p.rules[k].out) (cs[k])) rfl rfl rfl rfl rfl rfl rfl rfl rfl (fun _ => rfl) rfl lt3 ?_
      rw [← addL_get lt3]
      repeat' (first
      | (refine j_go ?_; first
        | refine j_op0 rfl rfl rfl rfl ?_ | (refine j_kBin rfl ?_; first | refine j_in rfl rfl ⟨by omega, by omega⟩ rfl rfl ?_) | refine j_in rfl rfl ⟨by omega, by omega⟩ rfl rfl ?_)
      | refine j_nil ?_
      | (refine r_go ?_; first | refine run_region ?_)
      | refine seqQ_normal ?_ | refine blockQ_normal ?_)
      rw [fin]
      exact loopQ_nextD (k + 1) (by omega) (by omega) (List.sublist_cons_self _ _) ⟨rfl, rfl, (by rw [l2, ← ln]; rfl), rfl, rfl, nx _, trivial⟩
    · have hup : p.up p.rules[k].cell < p.parents.length := by
        have q := hv.1.par (c := p.rules[k].cell) (by omega) rcl
        unfold Passing.up; rw [if_neg hc0, q.1]; omega
      have gi := only_true (b := p.rules[k].in_) (fun j => gk_pos (p := p) (c := p.rules[k].cell) (by omega) j)
      have go := only_true (b := p.rules[k].out) (fun j => gk_pos (p := p) (c := p.rules[k].cell) (by omega) j)
      have fin : addL (addL (addL (addL (p.chs cs (plc s) k) p.rules[k].cell.toNat p.rules[k].out (0 - cs[k])) (p.up p.rules[k].cell) p.rules[k].in_ (0 - cs[k])) p.rules[k].cell.toNat p.rules[k].in_ (cs[k])) (p.up p.rules[k].cell) p.rules[k].out (cs[k]) = p.chs cs (plc s) (k + 1) := by rw [e]; unfold Passing.gv Passing.tk mixR; rw [gi, go]
      have q1 : Sh (p.parents.length + 1) p.kinds.toNat (addL (p.chs cs (plc s) k) p.rules[k].cell.toNat p.rules[k].out (0 - cs[k])) 1002000000 := (sh.add (by omega) R.o.1 (R.o.mul n0)).mono (by omega)
      have ql1 := q1.n
      have q2 : Sh (p.parents.length + 1) p.kinds.toNat (addL (addL (p.chs cs (plc s) k) p.rules[k].cell.toNat p.rules[k].out (0 - cs[k])) (p.up p.rules[k].cell) p.rules[k].in_ (0 - cs[k])) 1004000000 := (q1.add (by omega) R.i.1 (R.i.mul n0)).mono (by omega)
      have ql2 := q2.n
      have q3 : Sh (p.parents.length + 1) p.kinds.toNat (addL (addL (addL (p.chs cs (plc s) k) p.rules[k].cell.toNat p.rules[k].out (0 - cs[k])) (p.up p.rules[k].cell) p.rules[k].in_ (0 - cs[k])) p.rules[k].cell.toNat p.rules[k].in_ (cs[k])) 1006000000 := (q2.add (by omega) R.i.1 (R.i.mul n1)).mono (by omega)
      have ql3 := q3.n
      have q4 : Sh (p.parents.length + 1) p.kinds.toNat (addL (addL (addL (addL (p.chs cs (plc s) k) p.rules[k].cell.toNat p.rules[k].out (0 - cs[k])) (p.up p.rules[k].cell) p.rules[k].in_ (0 - cs[k])) p.rules[k].cell.toNat p.rules[k].in_ (cs[k])) (p.up p.rules[k].cell) p.rules[k].out (cs[k])) 1008000000 := (q3.add (by omega) R.o.1 (R.o.mul n1)).mono (by omega)
      have ql4 := q4.n
      have lt0 : p.rules[k].cell.toNat < (p.chs cs (plc s) k).length := by omega
      have ft0 : Fits (p.chs cs (plc s) k)[p.rules[k].cell.toNat] p.rules[k].out (0 - cs[k]) := sh.fits (by omega) (by omega) lt0 R.o.1 (R.o.mul n0)
      have lt1 : (p.up p.rules[k].cell) < (addL (p.chs cs (plc s) k) p.rules[k].cell.toNat p.rules[k].out (0 - cs[k])).length := by omega
      have ft1 : Fits (addL (p.chs cs (plc s) k) p.rules[k].cell.toNat p.rules[k].out (0 - cs[k]))[(p.up p.rules[k].cell)] p.rules[k].in_ (0 - cs[k]) := q1.fits (by omega) (by omega) lt1 R.i.1 (R.i.mul n0)
      have lt2 : p.rules[k].cell.toNat < (addL (addL (p.chs cs (plc s) k) p.rules[k].cell.toNat p.rules[k].out (0 - cs[k])) (p.up p.rules[k].cell) p.rules[k].in_ (0 - cs[k])).length := by omega
      have ft2 : Fits (addL (addL (p.chs cs (plc s) k) p.rules[k].cell.toNat p.rules[k].out (0 - cs[k])) (p.up p.rules[k].cell) p.rules[k].in_ (0 - cs[k]))[p.rules[k].cell.toNat] p.rules[k].in_ (cs[k]) := q2.fits (by omega) (by omega) lt2 R.i.1 (R.i.mul n1)
      have lt3 : (p.up p.rules[k].cell) < (addL (addL (addL (p.chs cs (plc s) k) p.rules[k].cell.toNat p.rules[k].out (0 - cs[k])) (p.up p.rules[k].cell) p.rules[k].in_ (0 - cs[k])) p.rules[k].cell.toNat p.rules[k].in_ (cs[k])).length := by omega
      have ft3 : Fits (addL (addL (addL (p.chs cs (plc s) k) p.rules[k].cell.toNat p.rules[k].out (0 - cs[k])) (p.up p.rules[k].cell) p.rules[k].in_ (0 - cs[k])) p.rules[k].cell.toNat p.rules[k].in_ (cs[k]))[(p.up p.rules[k].cell)] p.rules[k].out (cs[k]) := q3.fits (by omega) (by omega) lt3 R.o.1 (R.o.mul n1)
      repeat' (first
      | (refine j_go ?_; first
        | refine j_op0 rfl rfl rfl rfl ?_ | (refine j_kIdx rfl ?_; first | refine j_idx rfl rfl rfl rfl rfl (by omega) rfl rfl rfl ?_) | (refine j_kCall rfl rfl rfl rfl ?_; first | refine jc (c_parentP _ _ hv.1 ⟨rc, rcl⟩) (LeL.refl _) rfl rfl ?_ | refine jc (c_outside _) (LeL.refl _) rfl rfl ?_) | (refine j_kLoad rfl ?_; first | refine j_mload 0 rfl rfl rfl rfl rfl rfl rfl ?_) | (refine j_kStore rfl ?_; first | refine j_storeN 0 rfl rfl rfl rfl rfl rfl rfl rfl rfl rfl rfl ?_) | refine j_alloc rfl rfl rfl rfl rfl (fun _ => ?_))
      | refine j_nil ?_
      | (refine j_goO ?_; first
        | refine j_op0O rfl rfl rfl rfl ?_ | (refine j_kIdxO rfl ?_; first | refine j_midxzO rfl rfl rfl rfl rfl (by first | omega | (simp only [List.length_append, List.length_cons, List.length_nil]; omega)) rfl rfl ?_) | (refine j_kLoadO rfl ?_; first | refine j_mloadO 0 rfl rfl rfl rfl rfl rfl rfl rfl ?_))
      | (refine r_go ?_; first | refine run_seq ?_ | refine run_region ?_ | (refine (run_if rfl (fun hb => ?_) (fun hb => ?_)) <;> first | (exfalso; omega) | skip) | refine run_block ?_ | refine run_skip ?_ | refine run_opn 10 [⟨0, true, false, 0⟩, ⟨1, true, false, 0⟩, ⟨2, true, false, 0⟩, ⟨3, true, false, 0⟩, ⟨4, true, false, 0⟩, ⟨5, true, false, 0⟩, ⟨6, true, false, 0⟩, ⟨7, true, false, 0⟩, ⟨8, true, false, 0⟩, ⟨9, true, false, 0⟩, ⟨10, true, false, 0⟩, ⟨11, true, false, 0⟩, ⟨12, true, false, 0⟩, ⟨13, true, false, 0⟩, ⟨14, false, true, 0⟩] rfl rfl (by kernel_rfl) ?_ | refine run_regionD (by kernel_rfl) ?_)
      | refine seqQ_normal ?_)
      refine j_mloadEO 1 p.rules[k].cell.toNat (g := encS Go.AI.encI) (L := p.chs cs (plc s) k) (z := 1) rfl rfl rfl rfl rfl (fun _ => rfl) rfl lt0 (fun _ => rfl) rfl rfl ?_
      repeat' (first
      | (refine j_goO ?_; first
        | refine j_op0O rfl rfl rfl rfl ?_ | (refine j_kIdxO rfl ?_; first | refine j_midxzO rfl rfl rfl rfl rfl (by first | omega | (simp only [List.length_append, List.length_cons, List.length_nil]; omega)) rfl rfl ?_) | (refine j_kBinO rfl ?_; first | refine j_inO rfl rfl ⟨by omega, by omega⟩ rfl rfl ?_) | (refine j_kCallO rfl rfl rfl rfl ?_; first | refine jcO (c_plus _ _ _ ft0) (LeL.refl _) rfl rfl ?_) | (refine j_kLoadO rfl ?_; first | refine j_mloadO 0 rfl rfl rfl rfl rfl rfl rfl rfl ?_) | refine j_inO rfl rfl ⟨by omega, by omega⟩ rfl rfl ?_))
      refine j_storeEO 1 p.rules[k].cell.toNat (g := encS Go.AI.encI) (plusL (p.chs cs (plc s) k)[p.rules[k].cell.toNat] p.rules[k].out (0 - cs[k])) rfl rfl rfl rfl rfl rfl rfl rfl rfl rfl (fun _ => rfl) rfl lt0 (fun _ hk => nomatch hk) ?_
      rw [← addL_get lt0]
      repeat' (first
      | (refine j_go ?_; first
        | refine j_op0 rfl rfl rfl rfl ?_ | (refine j_kIdx rfl ?_; first | refine j_midx rfl rfl rfl rfl rfl (by first | omega | (simp only [List.length_append, List.length_cons, List.length_nil]; omega)) rfl rfl ?_))
      | refine j_nilO ?_
      | (refine r_go ?_; first | refine run_seq ?_ | refine run_region ?_)
      | refine seqQ_normal ?_)
      refine j_mloadE 1 (p.up p.rules[k].cell) (g := encS Go.AI.encI) (L := addL (p.chs cs (plc s) k) p.rules[k].cell.toNat p.rules[k].out (0 - cs[k])) (z := 1) rfl rfl rfl rfl (fun _ => rfl) rfl lt1 (fun _ => rfl) rfl rfl ?_
      repeat' (first
      | (refine j_go ?_; first
        | refine j_op0 rfl rfl rfl rfl ?_ | (refine j_kIdx rfl ?_; first | refine j_midx rfl rfl rfl rfl rfl (by first | omega | (simp only [List.length_append, List.length_cons, List.length_nil]; omega)) rfl rfl ?_) | (refine j_kBin rfl ?_; first | refine j_in rfl rfl ⟨by omega, by omega⟩ rfl rfl ?_) | (refine j_kCall rfl rfl rfl rfl ?_; first | refine jc (c_plus _ _ _ ft1) (LeL.refl _) rfl rfl ?_) | refine j_in rfl rfl ⟨by omega, by omega⟩ rfl rfl ?_))
      refine j_storeE 1 (p.up p.rules[k].cell) (g := encS Go.AI.encI) (plusL (addL (p.chs cs (plc s) k) p.rules[k].cell.toNat p.rules[k].out (0 - cs[k]))[(p.up p.rules[k].cell)] p.rules[k].in_ (0 - cs[k])) rfl rfl rfl rfl rfl rfl rfl rfl rfl (fun _ => rfl) rfl lt1 ?_
      rw [← addL_get lt1]
      repeat' (first
      | (refine j_go ?_; first
        | refine j_op0 rfl rfl rfl rfl ?_)
      | refine j_nil ?_
      | (refine j_goO ?_; first
        | refine j_op0O rfl rfl rfl rfl ?_ | (refine j_kIdxO rfl ?_; first | refine j_midxzO rfl rfl rfl rfl rfl (by first | omega | (simp only [List.length_append, List.length_cons, List.length_nil]; omega)) rfl rfl ?_) | (refine j_kLoadO rfl ?_; first | refine j_mloadO 0 rfl rfl rfl rfl rfl rfl rfl rfl ?_))
      | (refine r_go ?_; first | refine run_seq ?_ | refine run_region ?_ | refine run_cond_t rfl ?_ | refine run_opn 13 [⟨0, true, false, 0⟩, ⟨1, true, false, 0⟩, ⟨2, true, false, 0⟩, ⟨3, true, false, 0⟩, ⟨4, true, false, 0⟩, ⟨5, true, false, 0⟩, ⟨6, true, false, 0⟩, ⟨7, true, false, 0⟩, ⟨8, true, false, 0⟩, ⟨9, true, false, 0⟩, ⟨10, true, false, 0⟩, ⟨11, true, false, 0⟩, ⟨12, true, false, 0⟩, ⟨13, false, true, 0⟩] rfl rfl (by kernel_rfl) ?_)
      | refine seqQ_normal ?_)
      refine j_mloadEO 1 p.rules[k].cell.toNat (g := encS Go.AI.encI) (L := addL (addL (p.chs cs (plc s) k) p.rules[k].cell.toNat p.rules[k].out (0 - cs[k])) (p.up p.rules[k].cell) p.rules[k].in_ (0 - cs[k])) (z := 1) rfl rfl rfl rfl rfl (fun _ => rfl) rfl lt2 (fun _ => rfl) rfl rfl ?_
      repeat' (first
      | (refine j_goO ?_; first
        | refine j_op0O rfl rfl rfl rfl ?_ | (refine j_kIdxO rfl ?_; first | refine j_midxzO rfl rfl rfl rfl rfl (by first | omega | (simp only [List.length_append, List.length_cons, List.length_nil]; omega)) rfl rfl ?_) | (refine j_kCallO rfl rfl rfl rfl ?_; first | refine jcO (c_plus _ _ _ ft2) (LeL.refl _) rfl rfl ?_) | (refine j_kLoadO rfl ?_; first | refine j_mloadO 0 rfl rfl rfl rfl rfl rfl rfl rfl ?_)))
      refine j_storeEO 1 p.rules[k].cell.toNat (g := encS Go.AI.encI) (plusL (addL (addL (p.chs cs (plc s) k) p.rules[k].cell.toNat p.rules[k].out (0 - cs[k])) (p.up p.rules[k].cell) p.rules[k].in_ (0 - cs[k]))[p.rules[k].cell.toNat] p.rules[k].in_ (cs[k])) rfl rfl rfl rfl rfl rfl rfl rfl rfl rfl (fun _ => rfl) rfl lt2 (fun _ hk => nomatch hk) ?_
      rw [← addL_get lt2]
      repeat' (first
      | (refine j_go ?_; first
        | refine j_op0 rfl rfl rfl rfl ?_ | (refine j_kIdx rfl ?_; first | refine j_midx rfl rfl rfl rfl rfl (by first | omega | (simp only [List.length_append, List.length_cons, List.length_nil]; omega)) rfl rfl ?_))
      | refine j_nilO ?_
      | (refine r_go ?_; first | refine run_region ?_)
      | refine seqQ_normal ?_)
      refine j_mloadE 1 (p.up p.rules[k].cell) (g := encS Go.AI.encI) (L := addL (addL (addL (p.chs cs (plc s) k) p.rules[k].cell.toNat p.rules[k].out (0 - cs[k])) (p.up p.rules[k].cell) p.rules[k].in_ (0 - cs[k])) p.rules[k].cell.toNat p.rules[k].in_ (cs[k])) (z := 1) rfl rfl rfl rfl (fun _ => rfl) rfl lt3 (fun _ => rfl) rfl rfl ?_
      repeat' (first
      | (refine j_go ?_; first
        | refine j_op0 rfl rfl rfl rfl ?_ | (refine j_kIdx rfl ?_; first | refine j_midx rfl rfl rfl rfl rfl (by first | omega | (simp only [List.length_append, List.length_cons, List.length_nil]; omega)) rfl rfl ?_) | (refine j_kCall rfl rfl rfl rfl ?_; first | refine jc (c_plus _ _ _ ft3) (LeL.refl _) rfl rfl ?_)))
      refine j_storeE 1 (p.up p.rules[k].cell) (g := encS Go.AI.encI) (plusL (addL (addL (addL (p.chs cs (plc s) k) p.rules[k].cell.toNat p.rules[k].out (0 - cs[k])) (p.up p.rules[k].cell) p.rules[k].in_ (0 - cs[k])) p.rules[k].cell.toNat p.rules[k].in_ (cs[k]))[(p.up p.rules[k].cell)] p.rules[k].out (cs[k])) rfl rfl rfl rfl rfl rfl rfl rfl rfl (fun _ => rfl) rfl lt3 ?_
      rw [← addL_get lt3]
      repeat' (first
      | (refine j_go ?_; first
        | refine j_op0 rfl rfl rfl rfl ?_ | (refine j_kBin rfl ?_; first | refine j_in rfl rfl ⟨by omega, by omega⟩ rfl rfl ?_) | refine j_in rfl rfl ⟨by omega, by omega⟩ rfl rfl ?_)
      | refine j_nil ?_
      | (refine r_go ?_; first | refine run_region ?_)
      | refine seqQ_normal ?_ | refine blockQ_normal ?_)
      rw [fin]
      exact loopQ_nextD (k + 1) (by omega) (by omega) (List.sublist_cons_self _ _) ⟨rfl, rfl, (by rw [l2, ← ln]; rfl), rfl, rfl, nx _, trivial⟩
  · have hke : k = p.rules.length := by omega
    subst hke
    repeat' (first
      | (refine j_go ?_; first
        | refine j_op0 rfl rfl rfl rfl ?_)
      | refine j_nil ?_
      | (refine r_go ?_; first | refine run_seq ?_ | refine run_region ?_ | (refine (run_if rfl (fun hb => ?_) (fun hb => ?_)) <;> first | (exfalso; omega) | skip) | refine run_ret ?_ | refine run_exit ?_)
      | refine seqQ_normal ?_ | refine seqQ_exit ?_ | refine blockQ_eq ?_ | refine loopQ_exit ?_)
    refine end_view (view_freeze (g := encS Go.AI.encI) (z := 1) (ys := p.chs cs (plc s) p.rules.length) 0 8 rfl rfl rfl (fun _ => rfl) rfl rfl) ?_
    exact end1 rfl (List.Sublist.refl _) rfl (.inl rfl)

theorem nn_iff (L : List (List Int)) : (¬ ∃ b ∈ L, ∃ x ∈ b, x < 0) ↔ Nn L := ⟨fun q b hb x hx => by
    by_cases z : 0 ≤ x
    · exact z
    · exact absurd ⟨b, hb, x, hx, by omega⟩ q, fun q ⟨b, hb, x, hx, r⟩ => by have := q b hb x hx; omega⟩
theorem c_fits (p : Passing) (s : Stock) (cs : List Int) (hv : p.Ok) (hs : p.StockOk s) (hc : p.Cntw cs) : Gives Tryz.prog 33 [.agg (encPassing p), .agg (encStock s), .sl (cs.map Go.AI.encI)] (.raw (.bool (dec (Nn (p.left s cs))))) := by
  refine fn_of_run tyOk ztOk mix Tryz.func33 rfl (by decide) Tryz.ntmps33 (fun w0 h => ?_)
  have k8 := hv.1.1
  have sh := tks_sh' hv hc hs (k := p.rules.length) (Nat.le_refl _)
  repeat' (first
      | (refine j_go ?_; first
        | refine j_op0 rfl rfl rfl rfl ?_ | (refine j_kCall rfl rfl rfl rfl ?_; first | refine jc (c_changedF _ _ _ hv hs hc) (LeL.refl _) rfl rfl ?_ | refine jc (c_cfS _ _ (fun b => ∃ x ∈ b, x < 0) _ (fun b hb => c_fits1 b (by have := (sh.b b hb).1; omega) (by have := (sh.b b hb).1; omega))) (LeL.refl _) rfl rfl ?_) | refine j_box rfl rfl rfl rfl rfl rfl ?_)
      | refine j_nil ?_
      | (refine r_go ?_; first | refine run_seq ?_ | refine run_region ?_ | refine run_ret ?_)
      | refine seqQ_normal ?_)
  exact end1 rfl (List.Sublist.refl _) (rbN (nn_iff _)) (.inl rfl)

end Go.Proofs.YtbpmmdecaonopaaGreat
