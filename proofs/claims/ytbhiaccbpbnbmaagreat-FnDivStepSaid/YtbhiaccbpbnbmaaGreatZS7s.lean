/-
  Groups in order: the reference's l07Insert. No condition.
-/
import Derived.Test.YtbhiaccbpbnbmaaGreatZPS7
import Derived.Test.YtbhiaccbpbnbmaaGreatZE5
namespace Go.Proofs.YtbhiaccbpbnbmaaGreat
open Go.AI
set_option maxRecDepth 8000
set_option maxHeartbeats 1600000

/-- The place of a group among groups. -/
noncomputable def insP (gs : List Group) (g : Group) : Nat := gs.findIdx fun x => dec (¬ Before x g)
theorem insP_at {gs : List Group} {g : Group} {k : Nat} (hk : k < gs.length) (h : ¬ Before gs[k] g) (hn : ∀ i (h : i < gs.length), i < k → Before gs[i] g) : insP gs g = k := by
  unfold insP
  refine (List.findIdx_eq hk).2 ⟨dec_t h, fun j hj => ?_⟩
  exact dec_f (fun q => q (hn j (by omega) hj))
theorem insP_end {gs : List Group} {g : Group} (hn : ∀ i (h : i < gs.length), Before gs[i] g) : insP gs g = gs.length := by
  unfold insP
  refine List.findIdx_eq_length.2 fun x hx => ?_
  obtain ⟨i, hi, rfl⟩ := List.getElem_of_mem hx
  exact dec_f (fun q => q (hn i hi))
/-- What a cell that is added makes of groups. -/
noncomputable def insM (gs : List Group) (g : Group) : List Group :=
  if (gs.getD (insP gs g) ⟨5, [], 0⟩).charge = g.charge ∧ (gs.getD (insP gs g) ⟨5, [], 0⟩).contents = g.contents then gs.set (insP gs g) { gs.getD (insP gs g) ⟨5, [], 0⟩ with count := (gs.getD (insP gs g) ⟨5, [], 0⟩).count + g.count }
  else gs.take (insP gs g) ++ g :: gs.drop (insP gs g)
theorem set_cnt : ∀ (gs : List Group) (k : Nat) (hk : k < gs.length) (s : Int), ((gs.map encGroup).flatten).set (k * 3 + 2) (.int s) = ((gs.set k { gs[k] with count := s }).map encGroup).flatten
  | x :: gs, 0, _, s => rfl
  | x :: gs, k + 1, hk, s => by
    have e : (k + 1) * 3 + 2 = (k * 3 + 2) + 1 + 1 + 1 := by omega
    rw [e]
    have ih := set_cnt gs k (by simpa using hk) s
    simp only [List.map_cons, List.flatten_cons, List.getElem_cons_succ, List.set_cons_succ]
    rw [← ih]; rfl
def toC3 (g : Group) : Cells 3 := ⟨encGroup g, rfl⟩
theorem o_l07Insert (gs : List Group) (g : Group) (b : Option Nat) (cap : Nat) (hl : gs.length ≤ 1000000) (hc : ∀ x ∈ gs, 0 ≤ x.count ∧ x.count ≤ 1000000000000) (hg : 0 ≤ g.count ∧ g.count ≤ 1000000) (hgc : g.charge ≤ 1) : Does Tryz.prog 21 [.os b gs.length cap, .agg (encGroup g)] [⟨b, 54, cap * 3, (gs.map encGroup).flatten⟩]
    (fun v h' => ∃ b' cap', v = .os b' (insM gs g).length cap' ∧ h' = [⟨b', 54, cap' * 3, ((insM gs g).map encGroup).flatten⟩]) := by
  refine fn_of_runD tyOk ztOk mix Tryz.func21 rfl (by decide) Tryz.ntmps21 (fun w0 F => ?_)
  change Run _ _ _ _ _ (_ :: F)
  repeat' (first
      | (refine j_go ?_; first
        | refine j_op0 rfl rfl rfl rfl ?_ | refine j_box rfl rfl rfl rfl rfl rfl ?_)
      | refine j_nil ?_
      | (refine r_go ?_; first | refine run_seq ?_ | refine run_region ?_ | refine run_block ?_)
      | refine seqQ_normal ?_)
  refine run_loop (fun k : Nat => [(0, .os b gs.length cap), (3, .ip (encGroup g)), (5, .int (k : Int))]) (fun _ => ⟨b, 54, cap * 3, (gs.map encGroup).flatten⟩ :: F) (fun k => k ≤ gs.length ∧ ∀ i (h : i < gs.length), i < k → Before gs[i] g) (fun k => gs.length - k) 0 ⟨rfl, rfl, rfl, trivial⟩ rfl ⟨Nat.zero_le _, fun _ _ q => absurd q (Nat.not_lt_zero _)⟩ (fun k ⟨kl, kp⟩ => ?_)
  by_cases hk : k < gs.length
  case pos =>
    refine run_some 0 rfl (fun q => by have := flat_len (f := encGroup) (z := 3) (fun _ => rfl) gs; rw [q] at this; simp at this; omega) (fun b2 hb2 => ?_)
    subst hb2
    repeat' (first
      | (refine j_go ?_; first
        | refine j_op0 rfl rfl rfl rfl ?_ | (refine j_kIdx rfl ?_; first | refine j_midx rfl rfl rfl rfl rfl (by first | omega | (simp only [List.length_append, List.length_cons, List.length_nil]; omega)) rfl rfl ?_) | (refine j_kLen rfl ?_; first | refine j_op rfl rfl rfl rfl ?_) | (refine j_kGuard rfl ?_; first | (refine (j_if rfl rfl rfl (fun hb => ?_) (fun hb => ?_)) <;> first | (exfalso; omega) | skip)))
      | (refine r_go ?_; first | refine run_seq ?_ | refine run_region ?_))
    refine j_kCall rfl rfl rfl rfl ?_
    refine jctq [⟨some b2, 54, cap * 3, (gs.map encGroup).flatten⟩] (c_l07Before gs[k] g) (Clo.raw _) (fun k hk => by simp only [List.mem_singleton] at hk; subst hk; simp) (FrzL.cons (Frz.ptrE (g := encGroup) (z := 3) (L := gs) (fun _ => rfl) hk (List.mem_singleton.2 rfl)) (FrzL.cons (Frz.same _ _) (FrzL.nil _))) rfl rfl ?_
    repeat' (first
      | (refine j_go ?_; first
        | refine j_op0 rfl rfl rfl rfl ?_ | (refine j_kIdx rfl ?_; first | refine j_midx rfl rfl rfl rfl rfl (by first | omega | (simp only [List.length_append, List.length_cons, List.length_nil]; omega)) rfl rfl ?_) | (refine j_kBin rfl ?_; first | refine j_in rfl rfl ⟨by omega, by omega⟩ rfl rfl ?_) | (refine j_kLen rfl ?_; first | refine j_op rfl rfl rfl rfl ?_) | (refine j_kGuard rfl ?_; first | (refine (j_if rfl rfl rfl (fun hb => ?_) (fun hb => ?_)) <;> first | (exfalso; omega) | skip)))
      | refine j_nil ?_
      | (refine r_go ?_; first | refine run_seq ?_ | refine run_region ?_ | (refine (run_if rfl (fun hb => ?_) (fun hb => ?_)) <;> first | (exfalso; omega) | skip) | refine run_block ?_ | refine run_exit ?_ | refine run_skip ?_ | refine run_regionD (by kernel_rfl) ?_)
      | refine seqQ_normal ?_ | refine seqQ_exit ?_ | refine blockQ_normal ?_ | refine blockQ_eq ?_ | refine loopQ_exit ?_)
    · exact loopQ_next (k + 1) ⟨by omega, all_step kp (fun _ => hb)⟩ (by omega) rfl ⟨rfl, rfl, nx _, trivial⟩
    have hp := insP_at hk (by assumption) kp
    have eC : (gs.map encGroup).flatten = ((gs.map toC3).map Subtype.val).flatten := by rw [List.map_map]; rfl
    have cl : (gs.map toC3).length = gs.length := List.length_map _
    have cg : (gs.map toC3)[k]'(by omega) = toC3 gs[k] := List.getElem_map _
    refine j_loadF 0 k 0 (L := gs.map toC3) rfl rfl rfl (by rw [eC]; rfl) (by omega) (by omega) (by decide) (fun rest => by rw [cg]; rfl) rfl rfl ?_
    repeat' (first
      | (refine j_go ?_; first
        | refine j_op0 rfl rfl rfl rfl ?_ | refine j_off rfl rfl rfl ?_ | (refine j_kIdx rfl ?_; first | refine j_midx rfl rfl rfl rfl rfl (by first | omega | (simp only [List.length_append, List.length_cons, List.length_nil]; omega)) rfl rfl ?_) | (refine j_kGuard rfl ?_; first | (refine (j_if rfl rfl rfl (fun hb => ?_) (fun hb => ?_)) <;> first | (exfalso; omega) | skip)))
      | refine j_nil ?_
      | (refine r_go ?_; first | refine run_seq ?_ | refine run_cond_f rfl ?_ | refine run_skip ?_)
      | refine seqQ_normal ?_)
    · refine j_loadF 0 k 1 (L := gs.map toC3) rfl rfl rfl (by rw [eC]; rfl) (by omega) (by omega) (by decide) (fun rest => by rw [cg]; rfl) rfl rfl ?_
      repeat' (first
      | (refine j_go ?_; first
        | refine j_op0 rfl rfl rfl rfl ?_ | (refine j_kCall rfl rfl rfl rfl ?_; first | refine jc (c_l00Same _ _) (LeL.refl _) rfl rfl ?_))
      | refine j_nil ?_
      | (refine r_go ?_; first | refine run_seq ?_ | (refine (run_if rfl (fun hb => ?_) (fun hb => ?_)) <;> first | (exfalso; omega) | skip) | refine run_skip ?_)
      | refine seqQ_normal ?_)
      · have bk := hc _ (List.getElem_mem hk)
        have eV : (gs.map encGroup).flatten = ((gs.map encGroup).flatten.map fun a => [a]).flatten := (sing_flat _).symm
        have fl := flat_len (f := encGroup) (z := 3) (fun _ => rfl) gs
        have kb : k * 3 + 2 < gs.length * 3 := by omega
        have gv : (gs.map encGroup).flatten[k * 3 + 2]'(by omega) = .int gs[k].count := by
          have := flat_get (f := encGroup) (z := 3) gs k 2 hk (show 2 < 3 by omega) (fun _ => rfl)
          rw [List.getElem?_eq_getElem (by omega)] at this
          exact Option.some.inj this
        repeat' (first
      | (refine j_goO ?_; first
        | refine j_op0O rfl rfl rfl rfl ?_ | (refine j_kIdxO rfl ?_; first | refine j_midxO rfl rfl rfl rfl rfl (by first | omega | (simp only [List.length_append, List.length_cons, List.length_nil]; omega)) rfl rfl ?_))
      | (refine r_go ?_; first | refine run_opn 5 [⟨0, true, false, 0⟩, ⟨1, true, false, 0⟩, ⟨2, true, false, 0⟩, ⟨3, true, false, 0⟩, ⟨4, true, false, 0⟩, ⟨5, true, false, 0⟩, ⟨6, true, false, 0⟩, ⟨7, true, false, 0⟩, ⟨8, true, false, 0⟩, ⟨9, true, false, 0⟩, ⟨10, false, true, 0⟩] rfl rfl (by kernel_rfl) ?_))
        refine j_mloadEO 0 (k * 3 + 2) (g := fun a => [a]) (L := (gs.map encGroup).flatten) (z := 1) rfl rfl rfl rfl (by rw [← eV]; rfl) (fun _ => rfl) (by omega) (by omega) (fun _ => by rw [gv]; rfl) rfl rfl ?_
        repeat' (first
      | (refine j_goO ?_; first
        | refine j_op0O rfl rfl rfl rfl ?_ | (refine j_kIdxO rfl ?_; first | refine j_midxO rfl rfl rfl rfl rfl (by first | omega | (simp only [List.length_append, List.length_cons, List.length_nil]; omega)) rfl rfl ?_) | (refine j_kBinO rfl ?_; first | refine j_inO rfl rfl ⟨by omega, by omega⟩ rfl rfl ?_)))
        refine j_storeEO 0 (k * 3 + 2) (g := fun a => [a]) (L := (gs.map encGroup).flatten) (A.int (gs[k].count + g.count)) rfl rfl rfl rfl rfl rfl (by rw [← eV]; rfl) rfl rfl rfl (fun _ => rfl) (by omega) (by omega) (fun _ hk => nomatch hk) ?_
        repeat' (first
      | (refine j_go ?_; first
        | refine j_op0 rfl rfl rfl rfl ?_)
      | refine j_nil ?_
      | refine j_nilO ?_
      | (refine r_go ?_; first | refine run_seq ?_ | refine run_region ?_ | refine run_ret ?_)
      | refine seqQ_normal ?_ | refine seqQ_ret ?_)
        have eM : insM gs g = gs.set k { gs[k] with count := gs[k].count + g.count } := by
          unfold insM; rw [hp, getD_get hk, if_pos ⟨by assumption, by assumption⟩]
        exact endD_ret (h1 := [_]) rfl (.cons (.tmp rfl) .nil) (Le.refl _) ⟨some b2, cap, by rw [eM, List.length_set]; rfl, by rw [sing_flat, set_cnt gs k hk, eM]⟩ (.inl rfl)
      · have lm : (gs.map encGroup).length = gs.length := List.length_map _
        have tl : (gs.take k).length = k := by rw [List.length_take]; omega
        have dl : (gs.drop k).length = gs.length - k := List.length_drop
        have eM : insM gs g = (gs.take k ++ [g]) ++ gs.drop k := by unfold insM; rw [hp, getD_get hk, if_neg (fun q => hb q.2)]; simp
        have e2 : gs.drop k = (gs.take (((gs.map encGroup).length : Nat) : Int).toNat).drop ((k : Int)).toNat := by
          simp only [Int.toNat_natCast, List.length_map, List.take_length]
        rw [eM]
        refine run_view (view_freeze (g := encGroup) (z := 3) (ys := gs) 0 0 rfl rfl rfl (fun _ => rfl) rfl rfl) ?_
        repeat' (first
      | (refine j_goO ?_; first
        | refine j_op0O rfl rfl rfl rfl ?_ | (refine j_kBslO rfl ?_; first | refine j_bs0O rfl rfl rfl rfl rfl rfl ?_ | refine j_bslO rfl rfl rfl rfl rfl rfl rfl rfl rfl rfl rfl ?_) | (refine j_kSliceO rfl ?_; first | refine j_sliceO rfl rfl rfl rfl rfl rfl (by omega) (fun _ => rfl) rfl rfl ?_))
      | (refine r_go ?_; first | refine run_opn 7 [⟨0, true, false, 0⟩, ⟨1, true, false, 0⟩, ⟨2, true, false, 0⟩, ⟨3, true, false, 0⟩, ⟨5, false, false, 0⟩, ⟨6, false, false, 0⟩, ⟨4, false, true, 0⟩, ⟨7, false, true, 0⟩, ⟨8, true, false, 0⟩] rfl rfl (by kernel_rfl) ?_))
        refine j_append0O (g := encGroup) (gs.take k) rfl (fun _ hk => nomatch hk) rfl rfl rfl rfl rfl rfl rfl rfl (fun _ => rfl) (fun _ _ => rfl) ⟨by omega, by omega⟩ rfl rfl (fun b3 c3 => ?_)
        skip
        refine j_appendO 0 (g := encGroup) (ys := gs.take k) [g] rfl (fun _ hk => nomatch hk) rfl rfl rfl rfl rfl rfl rfl rfl rfl rfl rfl rfl (fun _ => rfl) (fun _ _ => rfl) ⟨by simp only [List.length_cons, List.length_nil]; omega, by simp only [List.length_cons, List.length_nil]; omega⟩ rfl rfl (fun b4 c4 => ?_)
        repeat' (first
      | (refine j_go ?_; first
        | refine j_op0 rfl rfl rfl rfl ?_ | (refine j_kSlice rfl ?_; first | refine j_slice rfl rfl rfl rfl rfl rfl (by omega) (fun _ => rfl) rfl rfl ?_))
      | (refine j_goO ?_; first
        | refine j_op0O rfl rfl rfl rfl ?_)
      | refine j_nilO ?_
      | (refine r_go ?_; first | refine run_seq ?_ | refine run_region ?_)
      | refine seqQ_normal ?_)
        have l4 : (gs.take k ++ [g]).length = k + 1 := by rw [List.length_append, tl]; rfl
        refine j_append 0 (g := encGroup) (ys := gs.take k ++ [g]) (gs.drop k) rfl rfl rfl rfl rfl rfl rfl rfl rfl rfl rfl (by rw [e2]; rfl) (fun _ => rfl) (fun _ _ => rfl) ⟨by omega, by omega⟩ rfl rfl (fun b5 c5 => ?_)
        repeat' (first
      | (refine j_go ?_; first
        | refine j_op0 rfl rfl rfl rfl ?_)
      | refine j_nil ?_
      | (refine r_go ?_; first | refine run_ret ?_)
      | refine seqQ_normal ?_)
        exact endD_ret (h1 := [_]) rfl (.cons (.tmp rfl) .nil) (Le.refl _) ⟨b5, c5, rfl, rfl⟩ (.inl rfl)
    · have lm : (gs.map encGroup).length = gs.length := List.length_map _
      have tl : (gs.take k).length = k := by rw [List.length_take]; omega
      have dl : (gs.drop k).length = gs.length - k := List.length_drop
      have eM : insM gs g = (gs.take k ++ [g]) ++ gs.drop k := by unfold insM; rw [hp, getD_get hk, if_neg (fun q => hb q.1)]; simp
      have e2 : gs.drop k = (gs.take (((gs.map encGroup).length : Nat) : Int).toNat).drop ((k : Int)).toNat := by
        simp only [Int.toNat_natCast, List.length_map, List.take_length]
      rw [eM]
      refine run_view (view_freeze (g := encGroup) (z := 3) (ys := gs) 0 0 rfl rfl rfl (fun _ => rfl) rfl rfl) ?_
      repeat' (first
      | (refine j_goO ?_; first
        | refine j_op0O rfl rfl rfl rfl ?_ | (refine j_kBslO rfl ?_; first | refine j_bs0O rfl rfl rfl rfl rfl rfl ?_ | refine j_bslO rfl rfl rfl rfl rfl rfl rfl rfl rfl rfl rfl ?_) | (refine j_kSliceO rfl ?_; first | refine j_sliceO rfl rfl rfl rfl rfl rfl (by omega) (fun _ => rfl) rfl rfl ?_))
      | (refine r_go ?_; first | refine run_opn 7 [⟨0, true, false, 0⟩, ⟨1, true, false, 0⟩, ⟨2, true, false, 0⟩, ⟨3, true, false, 0⟩, ⟨5, false, false, 0⟩, ⟨6, false, false, 0⟩, ⟨4, false, true, 0⟩, ⟨7, false, true, 0⟩, ⟨8, true, false, 0⟩] rfl rfl (by kernel_rfl) ?_))
      refine j_append0O (g := encGroup) (gs.take k) rfl (fun _ hk => nomatch hk) rfl rfl rfl rfl rfl rfl rfl rfl (fun _ => rfl) (fun _ _ => rfl) ⟨by omega, by omega⟩ rfl rfl (fun b3 c3 => ?_)
      skip
      refine j_appendO 0 (g := encGroup) (ys := gs.take k) [g] rfl (fun _ hk => nomatch hk) rfl rfl rfl rfl rfl rfl rfl rfl rfl rfl rfl rfl (fun _ => rfl) (fun _ _ => rfl) ⟨by simp only [List.length_cons, List.length_nil]; omega, by simp only [List.length_cons, List.length_nil]; omega⟩ rfl rfl (fun b4 c4 => ?_)
      repeat' (first
      | (refine j_go ?_; first
        | refine j_op0 rfl rfl rfl rfl ?_ | (refine j_kSlice rfl ?_; first | refine j_slice rfl rfl rfl rfl rfl rfl (by omega) (fun _ => rfl) rfl rfl ?_))
      | (refine j_goO ?_; first
        | refine j_op0O rfl rfl rfl rfl ?_)
      | refine j_nilO ?_
      | (refine r_go ?_; first | refine run_seq ?_ | refine run_region ?_)
      | refine seqQ_normal ?_)
      have l4 : (gs.take k ++ [g]).length = k + 1 := by rw [List.length_append, tl]; rfl
      refine j_append 0 (g := encGroup) (ys := gs.take k ++ [g]) (gs.drop k) rfl rfl rfl rfl rfl rfl rfl rfl rfl rfl rfl (by rw [e2]; rfl) (fun _ => rfl) (fun _ _ => rfl) ⟨by omega, by omega⟩ rfl rfl (fun b5 c5 => ?_)
      repeat' (first
      | (refine j_go ?_; first
        | refine j_op0 rfl rfl rfl rfl ?_)
      | refine j_nil ?_
      | (refine r_go ?_; first | refine run_ret ?_)
      | refine seqQ_normal ?_)
      exact endD_ret (h1 := [_]) rfl (.cons (.tmp rfl) .nil) (Le.refl _) ⟨b5, c5, rfl, rfl⟩ (.inl rfl)
  have hke : k = gs.length := by omega
  subst hke
  have hp : insP gs g = gs.length := insP_end fun i hi => kp i hi hi
  have lm : (gs.map encGroup).length = gs.length := List.length_map _
  have tl : (gs.take gs.length).length = gs.length := by rw [List.take_length]
  have dl : (gs.drop gs.length).length = gs.length - gs.length := List.length_drop
  have eM : insM gs g = (gs.take gs.length ++ [g]) ++ gs.drop gs.length := by
    unfold insM; rw [hp, if_neg (fun q => by have := q.1; simp at this; omega)]; simp
  have e2 : gs.drop gs.length = (gs.take (((gs.map encGroup).length : Nat) : Int).toNat).drop ((gs.length : Int)).toNat := by
    simp only [Int.toNat_natCast, List.length_map, List.take_length]
  rw [eM]
  repeat' (first
      | (refine j_go ?_; first
        | refine j_op0 rfl rfl rfl rfl ?_ | refine j_off rfl rfl rfl ?_ | (refine j_kLen rfl ?_; first | refine j_op rfl rfl rfl rfl ?_) | (refine j_kGuard rfl ?_; first | (refine (j_if rfl rfl rfl (fun hb => ?_) (fun hb => ?_)) <;> first | (exfalso; omega) | skip)))
      | refine j_nil ?_
      | (refine r_go ?_; first | refine run_seq ?_ | refine run_region ?_ | refine run_cond_f rfl ?_ | refine run_exit ?_)
      | refine seqQ_normal ?_ | refine seqQ_exit ?_ | refine blockQ_eq ?_ | refine loopQ_exit ?_)
  refine run_view (view_freeze (g := encGroup) (z := 3) (ys := gs) 0 0 rfl rfl rfl (fun _ => rfl) rfl rfl) ?_
  repeat' (first
      | (refine j_go ?_; first
        | refine j_op0 rfl rfl rfl rfl ?_ | refine j_off rfl rfl rfl ?_ | (refine j_kLen rfl ?_; first | refine j_len rfl rfl rfl rfl rfl rfl ?_) | (refine j_kGuard rfl ?_; first | (refine (j_if rfl rfl rfl (fun hb => ?_) (fun hb => ?_)) <;> first | (exfalso; omega) | skip)))
      | refine j_nil ?_
      | (refine j_goO ?_; first
        | refine j_op0O rfl rfl rfl rfl ?_ | (refine j_kBslO rfl ?_; first | refine j_bs0O rfl rfl rfl rfl rfl rfl ?_ | refine j_bslO rfl rfl rfl rfl rfl rfl rfl rfl rfl rfl rfl ?_) | (refine j_kSliceO rfl ?_; first | refine j_sliceO rfl rfl rfl rfl rfl rfl (by omega) (fun _ => rfl) rfl rfl ?_))
      | (refine r_go ?_; first | refine run_seq ?_ | refine run_cond_f rfl ?_ | refine run_skip ?_ | refine run_opn 7 [⟨0, true, false, 0⟩, ⟨1, true, false, 0⟩, ⟨2, true, false, 0⟩, ⟨3, true, false, 0⟩, ⟨5, false, false, 0⟩, ⟨6, false, false, 0⟩, ⟨4, false, true, 0⟩, ⟨7, false, true, 0⟩, ⟨8, true, false, 0⟩] rfl rfl (by kernel_rfl) ?_ | refine run_regionD (by kernel_rfl) ?_)
      | refine seqQ_normal ?_)
  refine j_append0O (g := encGroup) (gs.take gs.length) rfl (fun _ hk => nomatch hk) rfl rfl rfl rfl rfl rfl rfl rfl (fun _ => rfl) (fun _ _ => rfl) ⟨by omega, by omega⟩ rfl rfl (fun b3 c3 => ?_)
  skip
  refine j_appendO 0 (g := encGroup) (ys := gs.take gs.length) [g] rfl (fun _ hk => nomatch hk) rfl rfl rfl rfl rfl rfl rfl rfl rfl rfl rfl rfl (fun _ => rfl) (fun _ _ => rfl) ⟨by simp only [List.length_cons, List.length_nil]; omega, by simp only [List.length_cons, List.length_nil]; omega⟩ rfl rfl (fun b4 c4 => ?_)
  repeat' (first
      | (refine j_go ?_; first
        | refine j_op0 rfl rfl rfl rfl ?_ | (refine j_kSlice rfl ?_; first | refine j_slice rfl rfl rfl rfl rfl rfl (by omega) (fun _ => rfl) rfl rfl ?_))
      | (refine j_goO ?_; first
        | refine j_op0O rfl rfl rfl rfl ?_)
      | refine j_nilO ?_
      | (refine r_go ?_; first | refine run_seq ?_ | refine run_region ?_)
      | refine seqQ_normal ?_)
  have l4 : (gs.take gs.length ++ [g]).length = gs.length + 1 := by rw [List.length_append, tl]; rfl
  refine j_append 0 (g := encGroup) (ys := gs.take gs.length ++ [g]) (gs.drop gs.length) rfl rfl rfl rfl rfl rfl rfl rfl rfl rfl rfl (by rw [e2]; rfl) (fun _ => rfl) (fun _ _ => rfl) ⟨by omega, by omega⟩ rfl rfl (fun b5 c5 => ?_)
  repeat' (first
      | (refine j_go ?_; first
        | refine j_op0 rfl rfl rfl rfl ?_)
      | refine j_nil ?_
      | (refine r_go ?_; first | refine run_ret ?_)
      | refine seqQ_normal ?_)
  exact endD_ret (h1 := [_]) rfl (.cons (.tmp rfl) .nil) (Le.refl _) ⟨b5, c5, rfl, rfl⟩ (.inl rfl)
end Go.Proofs.YtbhiaccbpbnbmaaGreat

/-
  A step of a colony: the reference's steps over what it collects. No condition.
-/
namespace Go.Proofs.YtbhiaccbpbnbmaaGreat
open Go.AI
set_option maxRecDepth 8000
set_option maxHeartbeats 1600000

theorem o_mvCount (x : Nat) (left : List Int) (o : Int) (a0 a2 a3 a4 : A) (hl : left.length ≤ 1000000) : Does Tryz.prog 79 [.op (some x) 0, .int o] [⟨some x, 96, 5, [a0, .sl (left.map Go.AI.encI), a2, a3, a4]⟩]
    (fun v h' => v = .int (occ o left) ∧ h' = [⟨some x, 96, 5, [a0, .sl (left.map Go.AI.encI), a2, a3, a4]⟩]) := by
  refine fn_of_runD tyOk ztOk mix Tryz.func79 rfl (by decide) Tryz.ntmps79 (fun w0 F => ?_)
  change Run _ _ _ _ _ (_ :: F)
  repeat' (first
      | (refine j_go ?_; first
        | refine j_op0 rfl rfl rfl rfl ?_)
      | refine j_nil ?_
      | (refine r_go ?_; first | refine run_seq ?_ | refine run_region ?_ | refine run_block ?_)
      | refine seqQ_normal ?_)
  refine run_loop (fun k : Nat => [(0, .op (some x) 0), (1, .int o), (5, .int (occ o (left.take k))), (6, .int (k : Int))]) (fun _ => ⟨some x, 96, 5, [a0, .sl (left.map Go.AI.encI), a2, a3, a4]⟩ :: F) (fun k => k ≤ left.length) (fun k => left.length - k) 0 ⟨rfl, rfl, rfl, rfl, trivial⟩ rfl (Nat.zero_le _) (fun k kl => ?_)
  have ob := occ_bnd o (left.take k)
  have tl : (left.take k).length ≤ k := List.length_take_le _ _
  by_cases hk : k < left.length
  case pos =>
    have os := occ_snoc o left hk
    repeat' (first
      | (refine j_go ?_; first
        | refine j_op0 rfl rfl rfl rfl ?_ | (refine j_kIdx rfl ?_; first | refine j_idx rfl rfl rfl rfl rfl (by omega) rfl rfl rfl ?_) | (refine j_kBin rfl ?_; first | refine j_in rfl rfl ⟨by omega, by omega⟩ rfl rfl ?_) | (refine j_kLen rfl ?_; first | refine j_len rfl rfl rfl rfl rfl rfl ?_) | (refine j_kLoad rfl ?_; first | refine j_mload 0 rfl rfl rfl rfl rfl rfl rfl ?_))
      | refine j_nil ?_
      | (refine r_go ?_; first | refine run_seq ?_ | refine run_region ?_ | (refine (run_if rfl (fun hb => ?_) (fun hb => ?_)) <;> first | (exfalso; omega) | skip) | refine run_block ?_ | refine run_skip ?_)
      | refine seqQ_normal ?_ | refine blockQ_normal ?_)
    · exact loopQ_next (k + 1) (by omega) (by omega) rfl ⟨rfl, rfl, (by rw [os, one_t (by assumption)]; rfl), nx _, trivial⟩
    · exact loopQ_next (k + 1) (by omega) (by omega) rfl ⟨rfl, rfl, (by rw [os, one_f (by assumption), Int.add_zero]; rfl), nx _, trivial⟩
  have hke : k = left.length := by omega
  subst hke
  rw [List.take_length]
  repeat' (first
      | (refine j_go ?_; first
        | refine j_op0 rfl rfl rfl rfl ?_ | (refine j_kLen rfl ?_; first | refine j_len rfl rfl rfl rfl rfl rfl ?_) | (refine j_kLoad rfl ?_; first | refine j_mload 0 rfl rfl rfl rfl rfl rfl rfl ?_))
      | refine j_nil ?_
      | (refine r_go ?_; first | refine run_seq ?_ | refine run_region ?_ | (refine (run_if rfl (fun hb => ?_) (fun hb => ?_)) <;> first | (exfalso; omega) | skip) | refine run_ret ?_ | refine run_exit ?_)
      | refine seqQ_normal ?_ | refine seqQ_exit ?_ | refine blockQ_eq ?_ | refine loopQ_exit ?_)
  exact endD_ret (h1 := [_]) rfl (.cons (.tmp rfl) .nil) (Le.refl _) ⟨rfl, rfl⟩ (.inl rfl)
end Go.Proofs.YtbhiaccbpbnbmaaGreat

/-
  A step of a colony: the reference adds cells. No condition.
-/
namespace Go.Proofs.YtbhiaccbpbnbmaaGreat
open Go.AI
set_option maxRecDepth 8000
set_option maxHeartbeats 1600000

theorem o_mvAdd (x : Nat) (d : Division) (gs : List Group) (charge n : Int) (ct more : List Int) (a1 a2 a4 : A) (bc : Option Nat) (cc : Nat) (hd : 1 ≤ d.objects ∧ d.objects ≤ 64) (hl : gs.length ≤ 100000) (hc : ∀ y ∈ gs, 0 ≤ y.count ∧ y.count ≤ 1000000000000) (hn : 0 ≤ n ∧ n ≤ 1000000) (hch : charge ≤ 1) (h1 : ct.length ≤ 4000) (h2 : more.length ≤ 4000) (hr : ∀ y ∈ ct, 0 ≤ y ∧ y ≤ d.objects - 1) (hr2 : ∀ y ∈ more, 0 ≤ y ∧ y ≤ d.objects - 1) :
    Does Tryz.prog 82 [.op (some x) 0, .int charge, .sl (ct.map Go.AI.encI), .sl (more.map Go.AI.encI), .int n] [⟨some x, 96, 5, [.ip (encDivision d), a1, a2, .os bc gs.length cc, a4]⟩, ⟨bc, 54, cc * 3, (gs.map encGroup).flatten⟩]
    (fun _ h' => ∃ b' c', h' = [⟨some x, 96, 5, [.ip (encDivision d), a1, a2, .os b' (insM gs ⟨charge, srtL d.objects (ct ++ more), n⟩).length c', a4]⟩, ⟨b', 54, c' * 3, ((insM gs ⟨charge, srtL d.objects (ct ++ more), n⟩).map encGroup).flatten⟩]) := by
  refine fn_of_runD tyOk ztOk mix Tryz.func82 rfl (by decide) Tryz.ntmps82 (fun w0 F => ?_)
  change Run _ _ _ _ _ (_ :: _ :: F)
  repeat' (first
      | (refine j_go ?_; first
        | refine j_op0 rfl rfl rfl rfl ?_)
      | (refine r_go ?_; first | refine run_seq ?_ | refine run_region ?_))
  refine j_kCall rfl rfl rfl rfl ?_
  refine jcp _ (o_own7 ct (by omega)) (List.Perm.refl _) (LeL.refl _) rfl rfl (fun v h1 hR => ?_)
  obtain ⟨ob, cp, rfl, rfl⟩ := hR
  repeat' (first
      | (refine j_go ?_; first
        | refine j_op0 rfl rfl rfl rfl ?_))
  refine j_append 0 (g := Go.AI.encI) (ys := ct) more rfl rfl rfl rfl rfl rfl rfl rfl rfl rfl rfl rfl (fun _ => rfl) (fun _ _ => rfl) ⟨by omega, by omega⟩ rfl rfl (fun b2 c2 => ?_)
  repeat' (first
      | (refine j_go ?_; first
        | refine j_op0 rfl rfl rfl rfl ?_)
      | refine j_nil ?_
      | refine seqQ_normal ?_)
  refine run_view (view_freeze (g := Go.AI.encI) (z := 1) (ys := ct ++ more) 0 10 rfl rfl rfl (fun _ => rfl) rfl rfl) ?_
  have cS := c_l07Sorted d.objects (ct ++ more) hd (by rw [List.length_append]; omega) (fun y hy => by
    rcases List.mem_append.1 hy with q | q
    · exact hr y q
    · exact hr2 y q)
  repeat' (first
      | (refine j_goO ?_; first
        | refine j_op0O rfl rfl rfl rfl ?_ | (refine j_kCallO rfl rfl rfl rfl ?_; first | refine jcO (cS) (LeL.refl _) rfl rfl ?_) | (refine j_kLoadO rfl ?_; first | refine j_mloadO 0 rfl rfl rfl rfl rfl rfl rfl rfl ?_) | refine j_buildO rfl rfl rfl rfl rfl rfl rfl ?_)
      | (refine r_go ?_; first | refine run_opn 1 [⟨0, false, false, 0⟩, ⟨1, true, false, 0⟩, ⟨2, true, false, 0⟩, ⟨3, true, false, 0⟩, ⟨4, true, false, 0⟩, ⟨5, true, false, 0⟩, ⟨6, true, false, 0⟩, ⟨7, true, false, 0⟩, ⟨8, true, false, 0⟩, ⟨9, true, false, 0⟩, ⟨10, true, false, 0⟩, ⟨11, true, false, 0⟩, ⟨12, true, false, 0⟩, ⟨13, true, false, 0⟩, ⟨14, true, false, 0⟩, ⟨15, true, false, 0⟩, ⟨16, true, false, 0⟩, ⟨17, false, true, 0⟩, ⟨18, true, false, 0⟩, ⟨19, true, false, 0⟩, ⟨20, false, true, 0⟩] rfl rfl (by kernel_rfl) ?_))
  refine j_kCallO rfl rfl rfl rfl ?_
  refine jcpO (⟨some x, 96, 5, [.ip (encDivision d), a1, a2, .os bc gs.length cc, a4]⟩ :: F) (o_l07Insert gs ⟨charge, srtL d.objects (ct ++ more), n⟩ bc cc (by omega) hc hn hch) rfl (List.Perm.swap _ _ _) (LeL.refl _) rfl rfl (fun v h3 hR => ?_)
  obtain ⟨b5, c5, rfl, rfl⟩ := hR
  repeat' (first
      | (refine j_goO ?_; first
        | refine j_op0O rfl rfl rfl rfl ?_ | (refine j_kStoreO rfl ?_; first | refine j_storeO 1 rfl rfl rfl rfl rfl rfl rfl rfl rfl rfl rfl rfl (by first | (intro _ hk; exact absurd hk List.not_mem_nil) | (intro k hk; simp at hk ⊢; try simp [hk])) ?_))
      | refine j_nilO ?_)
  refine endD_view (view_perm (List.Perm.swap _ _ _)) ?_
  exact endD_ret (h1 := [_, _]) rfl .nil (Le.refl _) ⟨b5, c5, rfl⟩ (.inr rfl)
end Go.Proofs.YtbhiaccbpbnbmaaGreat

/-
  What all cells of a colony use in a step, as data; plain facts. No condition.
-/
namespace Go.Proofs.YtbhiaccbpbnbmaaGreat
open Go.AI
set_option maxRecDepth 8000
set_option maxHeartbeats 1600000

structure Use where
  g : Group
  r : DivRule
  many : Int
def encUse (u : Use) : List A := encGroup u.g ++ (encDivRule u.r ++ [.int u.many])
def rule0 : DivRule := ⟨0, 0, 0, 0, [], 0, []⟩
/-- A list without so many of an object. -/
def eraseN (x : Int) : Nat → List Int → List Int
  | 0, l => l
  | n + 1, l => (eraseN x n l).erase x
theorem eraseN_sub (x : Int) : ∀ (n : Nat) (l : List Int), (eraseN x n l).Sublist l
  | 0, l => List.Sublist.refl _
  | n + 1, l => (List.erase_sublist).trans (eraseN_sub x n l)
theorem occ_cons (x y : Int) (l : List Int) : occ x (y :: l) = one x y + occ x l := rfl
theorem occ_mem {x : Int} : ∀ {l : List Int}, x ∈ l ↔ 0 < occ x l
  | [] => by simp [occ, sumF]
  | y :: l => by
    have ih := occ_mem (x := x) (l := l)
    have := one_bnd x y
    have := occ_bnd x l
    rw [occ_cons, List.mem_cons, ih]
    by_cases e : x = y
    · subst e; rw [one_t rfl]; exact ⟨fun _ => by omega, fun _ => .inl rfl⟩
    · rw [one_f (fun q => e q.symm)]; exact ⟨fun q => by have := q.resolve_left e; omega, fun q => .inr (by omega)⟩
theorem occ_erase {x : Int} : ∀ {l : List Int}, x ∈ l → occ x (l.erase x) = occ x l - 1
  | [], h => by simp at h
  | y :: l, h => by
    by_cases e : y = x
    · subst e; rw [List.erase_cons_head, occ_cons, one_t rfl]; omega
    · rw [List.erase_cons_tail (by simpa using e), occ_cons, occ_cons, one_f e]
      have hm : x ∈ l := by
        rcases List.mem_cons.1 h with q | q
        · exact absurd q.symm e
        · exact q
      rw [occ_erase hm]; omega
theorem occ_eraseN {x : Int} {l : List Int} : ∀ {n : Nat}, (n : Int) ≤ occ x l → occ x (eraseN x n l) = occ x l - n
  | 0, _ => by simp [eraseN]
  | n + 1, h => by
    have ih := occ_eraseN (x := x) (l := l) (n := n) (by omega)
    rw [eraseN, occ_erase (occ_mem.2 (by omega)), ih]; omega
open Classical in
/-- How many of so many cells of a group use a rule, with so many objects in the skin. -/
noncomputable def manyOf (g : Group) (l : List Int) (c : Int) (r : DivRule) : Int :=
  if r.kind = 1 ∨ r.kind = 2 ∨ r.charge ≠ g.charge ∨ c = 0 then 0 else if r.kind = 5 then min c (occ r.object l) else if r.object ∈ g.contents then c else 0
theorem many_no {g : Group} {l : List Int} {c : Int} {r : DivRule} (h : r.kind = 1 ∨ r.kind = 2 ∨ r.charge ≠ g.charge ∨ c = 0) : manyOf g l c r = 0 := by unfold manyOf; rw [if_pos h]
theorem many_in {g : Group} {l : List Int} {c : Int} {r : DivRule} (h : ¬ (r.kind = 1 ∨ r.kind = 2 ∨ r.charge ≠ g.charge ∨ c = 0)) (h5 : r.kind = 5) : manyOf g l c r = min c (occ r.object l) := by unfold manyOf; rw [if_neg h, if_pos h5]
theorem many_yes {g : Group} {l : List Int} {c : Int} {r : DivRule} (h : ¬ (r.kind = 1 ∨ r.kind = 2 ∨ r.charge ≠ g.charge ∨ c = 0)) (h5 : ¬ r.kind = 5) (hm : r.object ∈ g.contents) : manyOf g l c r = c := by unfold manyOf; rw [if_neg h, if_neg h5, if_pos hm]
theorem many_out {g : Group} {l : List Int} {c : Int} {r : DivRule} (h : ¬ (r.kind = 1 ∨ r.kind = 2 ∨ r.charge ≠ g.charge ∨ c = 0)) (h5 : ¬ r.kind = 5) (hm : ¬ r.object ∈ g.contents) : manyOf g l c r = 0 := by unfold manyOf; rw [if_neg h, if_neg h5, if_neg hm]
theorem many_bnd {g : Group} {l : List Int} {c : Int} {r : DivRule} (hc : 0 ≤ c) : 0 ≤ manyOf g l c r ∧ manyOf g l c r ≤ c := by
  have := occ_bnd r.object l
  unfold manyOf
  split
  · omega
  · split
    · omega
    · split <;> omega
/-- What a rule leaves of the skin and of the cells of a group. -/
noncomputable def stR (g : Group) (s : List Int × Int) (r : DivRule) : List Int × Int := (if r.kind = 5 then eraseN r.object (manyOf g s.1 s.2 r).toNat s.1 else s.1, s.2 - manyOf g s.1 s.2 r)
theorem stR_0 {g : Group} {l : List Int} {c : Int} {r : DivRule} (h : manyOf g l c r = 0) : stR g (l, c) r = (l, c) := by
  unfold stR; simp only [h]; split <;> simp [eraseN]
theorem stR_5 {g : Group} {l : List Int} {c : Int} {r : DivRule} (h5 : r.kind = 5) : stR g (l, c) r = (eraseN r.object (manyOf g l c r).toNat l, c - manyOf g l c r) := by unfold stR; simp only [if_pos h5]
theorem stR_n {g : Group} {l : List Int} {c : Int} {r : DivRule} (h5 : ¬ r.kind = 5) : stR g (l, c) r = (l, c - manyOf g l c r) := by unfold stR; simp only [if_neg h5]
noncomputable def stK (d : Division) (g : Group) (l : List Int) (k : Nat) : List Int × Int := (d.rules.take k).foldl (stR g) (l, g.count)
theorem stK_succ {d : Division} {g : Group} {l : List Int} {k : Nat} (hk : k < d.rules.length) : stK d g l (k + 1) = stR g (stK d g l k) d.rules[k] := by
  unfold stK; rw [List.take_succ_eq_append_getElem hk, List.foldl_append]; rfl
theorem stR_bnd {g : Group} {s : List Int × Int} {r : DivRule} (hc : 0 ≤ s.2) : (stR g s r).1.Sublist s.1 ∧ 0 ≤ (stR g s r).2 ∧ (stR g s r).2 ≤ s.2 := by
  have := many_bnd (g := g) (l := s.1) (r := r) hc
  unfold stR
  refine ⟨?_, by dsimp only; omega, by dsimp only; omega⟩
  dsimp only
  split
  · exact eraseN_sub _ _ _
  · exact List.Sublist.refl _
theorem stF_bnd {g : Group} : ∀ (rs : List DivRule) (s : List Int × Int), 0 ≤ s.2 → (rs.foldl (stR g) s).1.Sublist s.1 ∧ 0 ≤ (rs.foldl (stR g) s).2 ∧ (rs.foldl (stR g) s).2 ≤ s.2
  | [], s, h => ⟨List.Sublist.refl _, h, Int.le_refl _⟩
  | r :: rs, s, h => by
    have h1 := stR_bnd (g := g) (r := r) h
    have h2 := stF_bnd (g := g) rs (stR g s r) h1.2.1
    exact ⟨h2.1.trans h1.1, h2.2.1, Int.le_trans h2.2.2 h1.2.2⟩
theorem stK_bnd {d : Division} {g : Group} {l : List Int} {k : Nat} (h : 0 ≤ g.count) : (stK d g l k).1.Sublist l ∧ 0 ≤ (stK d g l k).2 ∧ (stK d g l k).2 ≤ g.count := stF_bnd _ (l, g.count) h
theorem stF_zero {g : Group} : ∀ (rs : List DivRule) (l : List Int), rs.foldl (stR g) (l, 0) = (l, 0)
  | [], l => rfl
  | r :: rs, l => by rw [List.foldl_cons, stR_0 (many_no (.inr (.inr (.inr rfl))))]; exact stF_zero rs l
/-- Where no cells are left, later rules do nothing. -/
theorem stK_zero {d : Division} {g : Group} {l : List Int} {k : Nat} (h : (stK d g l k).2 = 0) : stK d g l d.rules.length = stK d g l k := by
  have e : stK d g l d.rules.length = (d.rules.drop k).foldl (stR g) (stK d g l k) := by
    unfold stK; rw [List.take_length, ← List.foldl_append, List.take_append_drop]
  have e2 : stK d g l k = ((stK d g l k).1, 0) := by rw [← h]
  rw [e, e2, stF_zero]
/-- What a group leaves of the skin; and whether one of its cells uses a rule. -/
noncomputable def stG (d : Division) (l : List Int) (g : Group) : List Int := (stK d g l d.rules.length).1
def usedG (d : Division) (l : List Int) (g : Group) : Prop := (stK d g l d.rules.length).2 < g.count ∨ (0 < (stK d g l d.rules.length).2 ∧ ∃ x ∈ g.contents, d.hasR 1 g.charge x)
noncomputable def stA (d : Division) (c : Colony) (k : Nat) : List Int × Prop := (c.groups.take k).foldl (fun s g => (stG d s.1 g, s.2 ∨ usedG d s.1 g)) (c.skin, False)
theorem stA_succ {d : Division} {c : Colony} {k : Nat} (hk : k < c.groups.length) : stA d c (k + 1) = (stG d (stA d c k).1 c.groups[k], (stA d c k).2 ∨ usedG d (stA d c k).1 c.groups[k]) := by
  unfold stA; rw [List.take_succ_eq_append_getElem hk, List.foldl_append]; rfl
theorem stA_sub {d : Division} {c : Colony} (hc : ∀ g ∈ c.groups, 0 ≤ g.count) : ∀ k, k ≤ c.groups.length → (stA d c k).1.Sublist c.skin
  | 0, _ => List.Sublist.refl _
  | k + 1, h => by
    rw [stA_succ (by omega)]
    exact (stK_bnd (hc _ (List.getElem_mem (by omega)))).1.trans (stA_sub hc k (by omega))
/-- A colony is at rest. -/
def Rests (d : Division) (c : Colony) : Prop := ¬ ((stA d c c.groups.length).2 ∨ ∃ x ∈ (stA d c c.groups.length).1, d.hasR 2 0 x)
/-- What all cells use. -/
noncomputable def usK (d : Division) (g : Group) (l : List Int) : Nat → List Use
  | 0 => []
  | k + 1 => usK d g l k ++ (if 0 < manyOf g (stK d g l k).1 (stK d g l k).2 (d.rules.getD k rule0) then [⟨g, d.rules.getD k rule0, manyOf g (stK d g l k).1 (stK d g l k).2 (d.rules.getD k rule0)⟩] else [])
theorem usK_yes {d : Division} {g : Group} {l : List Int} {k : Nat} (hk : k < d.rules.length) (h : 0 < manyOf g (stK d g l k).1 (stK d g l k).2 d.rules[k]) : usK d g l (k + 1) = usK d g l k ++ [⟨g, d.rules[k], manyOf g (stK d g l k).1 (stK d g l k).2 d.rules[k]⟩] := by
  rw [usK, getD_get hk, if_pos h]
theorem usK_no {d : Division} {g : Group} {l : List Int} {k : Nat} (hk : k < d.rules.length) (h : ¬ 0 < manyOf g (stK d g l k).1 (stK d g l k).2 d.rules[k]) : usK d g l (k + 1) = usK d g l k := by
  rw [usK, getD_get hk, if_neg h, List.append_nil]
theorem usK_len {d : Division} {g : Group} {l : List Int} : ∀ k, (usK d g l k).length ≤ k
  | 0 => by simp [usK]
  | k + 1 => by
    have := usK_len (d := d) (g := g) (l := l) k
    rw [usK, List.length_append]
    split <;> simp <;> omega
noncomputable def usG (d : Division) (l : List Int) (g : Group) : List Use := usK d g l d.rules.length ++ (if 0 < (stK d g l d.rules.length).2 then [⟨g, rule0, (stK d g l d.rules.length).2⟩] else [])
theorem usG_len {d : Division} {g : Group} {l : List Int} : (usG d l g).length ≤ d.rules.length + 1 := by
  have := usK_len (d := d) (g := g) (l := l) d.rules.length
  unfold usG; rw [List.length_append]
  split <;> simp <;> omega
noncomputable def usA (d : Division) (c : Colony) : Nat → List Use
  | 0 => []
  | k + 1 => usA d c k ++ usG d (stA d c k).1 (c.groups.getD k ⟨0, [], 0⟩)
theorem usA_succ {d : Division} {c : Colony} {k : Nat} (hk : k < c.groups.length) : usA d c (k + 1) = usA d c k ++ usG d (stA d c k).1 c.groups[k] := by rw [usA, getD_get hk]
theorem usA_len {d : Division} {c : Colony} (hd : d.rules.length ≤ 120) : ∀ k, (usA d c k).length ≤ 121 * k
  | 0 => by simp [usA]
  | k + 1 => by
    have := usA_len hd (c := c) k
    have := usG_len (d := d) (g := c.groups.getD k ⟨0, [], 0⟩) (l := (stA d c k).1)
    rw [usA, List.length_append]; omega
/-! ### What is added keeps lists and counts within bounds -/
theorem insP_le (gs : List Group) (g : Group) : insP gs g ≤ gs.length := List.findIdx_le_length
theorem insM_len (gs : List Group) (g : Group) : (insM gs g).length ≤ gs.length + 1 := by
  have := insP_le gs g
  unfold insM
  split
  · rw [List.length_set]; omega
  · rw [List.length_append, List.length_cons, List.length_take, List.length_drop]; omega
theorem insM_cnt {gs : List Group} {g : Group} {B C : Int} (h : ∀ y ∈ gs, 0 ≤ y.count ∧ y.count ≤ B) (hg : 0 ≤ g.count ∧ g.count ≤ C) (hB : 0 ≤ B) : ∀ y ∈ insM gs g, 0 ≤ y.count ∧ y.count ≤ B + C := by
  have hd : 0 ≤ (gs.getD (insP gs g) ⟨5, [], 0⟩).count ∧ (gs.getD (insP gs g) ⟨5, [], 0⟩).count ≤ B := by
    by_cases q : insP gs g < gs.length
    · rw [getD_get q]; exact h _ (List.getElem_mem q)
    · have e : gs.getD (insP gs g) ⟨5, [], 0⟩ = ⟨5, [], 0⟩ := by rw [List.getD_eq_getElem?_getD, List.getElem?_eq_none (by omega)]; rfl
      rw [e]; exact ⟨Int.le_refl _, hB⟩
  intro y hy
  unfold insM at hy
  split at hy
  · rcases List.mem_or_eq_of_mem_set hy with q | q
    · have := h y q; omega
    · subst q; dsimp only; omega
  · rcases List.mem_append.1 hy with q | q
    · have := h y (List.mem_of_mem_take q); omega
    · rcases List.mem_cons.1 q with q | q
      · subst q; omega
      · have := h y (List.mem_of_mem_drop q); omega
end Go.Proofs.YtbhiaccbpbnbmaaGreat

/-
  A step of a colony: the reference lets cells use a main rule. No condition.
-/
namespace Go.Proofs.YtbhiaccbpbnbmaaGreat
open Go.AI
set_option maxRecDepth 8000
set_option maxHeartbeats 1600000

theorem HeapOf.rng {o most : Int} {l : List Int} (h : HeapOf o l most) : ∀ y ∈ l, 0 ≤ y ∧ y ≤ o - 1 := fun y hy => by
  obtain ⟨i, hi, rfl⟩ := List.getElem_of_mem hy
  exact (h.1 i hi).1
theorem grw_rng {d : Division} (hv : d.Valid) {kind charge x : Int} (hx : 0 ≤ x ∧ x ≤ d.objects - 1) : ∀ y ∈ d.grw kind charge x, 0 ≤ y ∧ y ≤ d.objects - 1 := by
  rcases fIdx_cases (FitR kind charge x) d.rules with ⟨k, hk, _, h2, h3⟩ | ⟨_, h⟩
  · rw [(grw_at hk h2 h3).1]
    exact (hv.2.2 _ (List.getElem_mem hk)).2.2.2.2.2.1.rng
  · rw [(grw_no h).1]; intro y hy; rw [List.mem_singleton] at hy; subst hy; exact hx
theorem grown_rng {d : Division} (hv : d.Valid) {kind charge : Int} {l : List Int} (hl : ∀ y ∈ l, 0 ≤ y ∧ y ≤ d.objects - 1) : ∀ y ∈ d.grown kind charge l, 0 ≤ y ∧ y ≤ d.objects - 1 := fun y hy => by
  unfold Division.grown at hy
  obtain ⟨s, hs, hy⟩ := List.mem_flatten.1 hy
  obtain ⟨x, hx, rfl⟩ := List.mem_map.1 hs
  exact grw_rng hv (hl x hx) y hy
/-- What a step has collected is within bounds. -/
def MvOk (d : Division) (B : Nat) (sk : List Int) (gs : List Group) : Prop := sk.length ≤ 5000 ∧ (∀ y ∈ sk, 0 ≤ y ∧ y ≤ d.objects - 1) ∧ gs.length ≤ B ∧ ∀ y ∈ gs, 0 ≤ y.count ∧ y.count ≤ 5000 * (B : Int)
theorem MvOk.mono {d : Division} {B B' : Nat} {sk : List Int} {gs : List Group} (h : MvOk d B sk gs) (hB : B ≤ B') : MvOk d B' sk gs := ⟨h.1, h.2.1, by have := h.2.2.1; omega, fun y hy => by have := h.2.2.2 y hy; omega⟩
theorem MvOk.add {d : Division} {B : Nat} {sk : List Int} {gs : List Group} (h : MvOk d B sk gs) {g : Group} (hg : 0 ≤ g.count ∧ g.count ≤ 5000) : MvOk d (B + 1) sk (insM gs g) := ⟨h.1, h.2.1, by have := h.2.2.1; have := insM_len gs g; omega, fun y hy => by
  have := insM_cnt h.2.2.2 hg (by omega) y hy
  omega⟩
theorem MvOk.skin {d : Division} {B : Nat} {sk sk' : List Int} {gs : List Group} (h : MvOk d B sk gs) (h1 : sk'.length ≤ 5000) (h2 : ∀ y ∈ sk', 0 ≤ y ∧ y ≤ d.objects - 1) : MvOk d B sk' gs := ⟨h1, h2, h.2.2.1, h.2.2.2⟩
theorem mem_rng2 {a b : List Int} {o : Int} (ha : ∀ y ∈ a, 0 ≤ y ∧ y ≤ o - 1) (hb : ∀ y ∈ b, 0 ≤ y ∧ y ≤ o - 1) : ∀ y ∈ a ++ b, 0 ≤ y ∧ y ≤ o - 1 := fun y hy => by
  rcases List.mem_append.1 hy with q | q
  · exact ha y q
  · exact hb y q
abbrev mvB (x : Nat) (d : Division) (left : List Int) (bs : Option Nat) (ns cs : Nat) (bc : Option Nat) (nc cc : Nat) (u : A) : Blk := ⟨some x, 96, 5, [.ip (encDivision d), .sl (left.map Go.AI.encI), .os bs ns cs, .os bc nc cc, u]⟩
abbrev mvS (bs : Option Nat) (cs : Nat) (sk : List Int) : Blk := ⟨bs, 2, cs * 1, (sk.map Go.AI.encI).flatten⟩
abbrev mvC (bc : Option Nat) (cc : Nat) (gs : List Group) : Blk := ⟨bc, 54, cc * 3, (gs.map encGroup).flatten⟩
end Go.Proofs.YtbhiaccbpbnbmaaGreat
