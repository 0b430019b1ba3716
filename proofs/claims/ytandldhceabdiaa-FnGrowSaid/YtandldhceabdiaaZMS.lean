/-
  Groups in order: the reference's l07Insert. No condition.
-/
import Derived.Test.YtandldhceabdiaaZPS7
import Derived.Test.YtandldhceabdiaaZFE
import Derived.Test.YtandldhceabdiaaZS7l
import Derived.Test.YtandldhceabdiaaZOP
namespace Go.Proofs.Ytandldhceabdiaa
open Go.AI
set_option maxRecDepth 8000
set_option maxHeartbeats 1600000

/-- The place of a group among groups. -/
noncomputable def insP (gs : List Group) (g : Group) : Nat := gs.findIdx fun x => dec (¬ Before x g)
theorem insP_at {gs : List Group} {g : Group} {k : Nat} (hk : k < gs.length) (h : ¬ Before gs[k] g) (hn : ∀ i (h : i < gs.length), i < k → Before gs[i] g) : insP gs g = k := by
  unfold insP
  refine (List.findIdx_eq hk).2 ⟨dec_t h, fun j hj => ?_⟩
  exact dec_f (fun q => q (hn j (by omega) hj))
theorem insP_end {gs : List Group} {g : Group} (hn : ∀ i (h : i < gs.length), Before gs[i] g) : insP gs g = gs.length := by
  unfold insP
  refine List.findIdx_eq_length.2 fun x hx => ?_
  obtain ⟨i, hi, rfl⟩ := List.getElem_of_mem hx
  exact dec_f (fun q => q (hn i hi))
/-- What a cell that is added makes of groups. -/
noncomputable def insM (gs : List Group) (g : Group) : List Group :=
  if (gs.getD (insP gs g) ⟨5, [], 0⟩).charge = g.charge ∧ (gs.getD (insP gs g) ⟨5, [], 0⟩).contents = g.contents then gs.set (insP gs g) { gs.getD (insP gs g) ⟨5, [], 0⟩ with count := (gs.getD (insP gs g) ⟨5, [], 0⟩).count + g.count }
  else gs.take (insP gs g) ++ g :: gs.drop (insP gs g)
theorem set_cnt : ∀ (gs : List Group) (k : Nat) (hk : k < gs.length) (s : Int), ((gs.map encGroup).flatten).set (k * 3 + 2) (.int s) = ((gs.set k { gs[k] with count := s }).map encGroup).flatten
  | x :: gs, 0, _, s => rfl
  | x :: gs, k + 1, hk, s => by
    have e : (k + 1) * 3 + 2 = (k * 3 + 2) + 1 + 1 + 1 := by omega
    rw [e]
    have ih := set_cnt gs k (by simpa using hk) s
    simp only [List.map_cons, List.flatten_cons, List.getElem_cons_succ, List.set_cons_succ]
    rw [← ih]; rfl
def toC3 (g : Group) : Cells 3 := ⟨encGroup g, rfl⟩
theorem o_l07Insert (gs : List Group) (g : Group) (b : Option Nat) (cap : Nat) (hl : gs.length ≤ 1000000) (hc : ∀ x ∈ gs, 0 ≤ x.count ∧ x.count ≤ 1000000000000) (hg : 0 ≤ g.count ∧ g.count ≤ 1000000) (hgc : g.charge ≤ 1) : Does Try.prog 78 [.os b gs.length cap, .agg (encGroup g)] [⟨b, 130, cap * 3, (gs.map encGroup).flatten⟩]
    (fun v h' => ∃ b' cap', v = .os b' (insM gs g).length cap' ∧ h' = [⟨b', 130, cap' * 3, ((insM gs g).map encGroup).flatten⟩]) := by
  refine fn_of_runD tyOk ztOk mix Try.func78 rfl (by decide) Try.ntmps78 (fun w0 F => ?_)
  change Run _ _ _ _ _ (_ :: F)
  repeat' (first
      | (refine j_go ?_; first
        | refine j_op0 rfl rfl rfl rfl ?_ | refine j_box rfl rfl rfl rfl rfl rfl ?_)
      | refine j_nil ?_
      | (refine r_go ?_; first | refine run_seq ?_ | refine run_region ?_ | refine run_block ?_)
      | refine seqQ_normal ?_)
  refine run_loop (fun k : Nat => [(0, .os b gs.length cap), (3, .ip (encGroup g)), (5, .int (k : Int))]) (fun _ => ⟨b, 130, cap * 3, (gs.map encGroup).flatten⟩ :: F) (fun k => k ≤ gs.length ∧ ∀ i (h : i < gs.length), i < k → Before gs[i] g) (fun k => gs.length - k) 0 ⟨rfl, rfl, rfl, trivial⟩ rfl ⟨Nat.zero_le _, fun _ _ q => absurd q (Nat.not_lt_zero _)⟩ (fun k ⟨kl, kp⟩ => ?_)
  by_cases hk : k < gs.length
  case pos =>
    refine run_some 0 rfl (fun q => by have := flat_len (f := encGroup) (z := 3) (fun _ => rfl) gs; rw [q] at this; simp at this; omega) (fun b2 hb2 => ?_)
    subst hb2
    repeat' (first
      | (refine j_go ?_; first
        | refine j_op0 rfl rfl rfl rfl ?_ | (refine j_kIdx rfl ?_; first | refine j_midx rfl rfl rfl rfl rfl (by first | omega | (simp only [List.length_append, List.length_cons, List.length_nil]; omega)) rfl rfl ?_) | (refine j_kLen rfl ?_; first | refine j_op rfl rfl rfl rfl ?_) | (refine j_kGuard rfl ?_; first | (refine (j_if rfl rfl rfl (fun hb => ?_) (fun hb => ?_)) <;> first | (exfalso; omega) | skip)))
      | (refine r_go ?_; first | refine run_seq ?_ | refine run_region ?_))
    refine j_kCall rfl rfl rfl rfl ?_
    refine jctq [⟨some b2, 130, cap * 3, (gs.map encGroup).flatten⟩] (c_l07Before gs[k] g) (Clo.raw _) (fun k hk => by simp only [List.mem_singleton] at hk; subst hk; simp) (FrzL.cons (Frz.ptrE (g := encGroup) (z := 3) (L := gs) (fun _ => rfl) hk (List.mem_singleton.2 rfl)) (FrzL.cons (Frz.same _ _) (FrzL.nil _))) rfl rfl ?_
    repeat' (first
      | (refine j_go ?_; first
        | refine j_op0 rfl rfl rfl rfl ?_ | (refine j_kIdx rfl ?_; first | refine j_midx rfl rfl rfl rfl rfl (by first | omega | (simp only [List.length_append, List.length_cons, List.length_nil]; omega)) rfl rfl ?_) | (refine j_kBin rfl ?_; first | refine j_in rfl rfl ⟨by omega, by omega⟩ rfl rfl ?_) | (refine j_kLen rfl ?_; first | refine j_op rfl rfl rfl rfl ?_) | (refine j_kGuard rfl ?_; first | (refine (j_if rfl rfl rfl (fun hb => ?_) (fun hb => ?_)) <;> first | (exfalso; omega) | skip)))
      | refine j_nil ?_
      | (refine r_go ?_; first | refine run_seq ?_ | refine run_region ?_ | (refine (run_if rfl (fun hb => ?_) (fun hb => ?_)) <;> first | (exfalso; omega) | skip) | refine run_block ?_ | refine run_exit ?_ | refine run_skip ?_ | refine run_regionD (by kernel_rfl) ?_)
      | refine seqQ_normal ?_ | refine seqQ_exit ?_ | refine blockQ_normal ?_ | refine blockQ_eq ?_ | refine loopQ_exit ?_)
    · exact loopQ_next (k + 1) ⟨by omega, all_step kp (fun _ => hb)⟩ (by omega) rfl ⟨rfl, rfl, nx _, trivial⟩
    have hp := insP_at hk (by assumption) kp
    have eC : (gs.map encGroup).flatten = ((gs.map toC3).map Subtype.val).flatten := by rw [List.map_map]; rfl
    have cl : (gs.map toC3).length = gs.length := List.length_map _
    have cg : (gs.map toC3)[k]'(by omega) = toC3 gs[k] := List.getElem_map _
    refine j_loadF 0 k 0 (L := gs.map toC3) rfl rfl rfl (by rw [eC]; rfl) (by omega) (by omega) (by decide) (fun rest => by rw [cg]; rfl) rfl rfl ?_
    repeat' (first
      | (refine j_go ?_; first
        | refine j_op0 rfl rfl rfl rfl ?_ | refine j_off rfl rfl rfl ?_ | (refine j_kIdx rfl ?_; first | refine j_midx rfl rfl rfl rfl rfl (by first | omega | (simp only [List.length_append, List.length_cons, List.length_nil]; omega)) rfl rfl ?_) | (refine j_kGuard rfl ?_; first | (refine (j_if rfl rfl rfl (fun hb => ?_) (fun hb => ?_)) <;> first | (exfalso; omega) | skip)))
      | refine j_nil ?_
      | (refine r_go ?_; first | refine run_seq ?_ | refine run_cond_f rfl ?_ | refine run_skip ?_)
      | refine seqQ_normal ?_)
    · refine j_loadF 0 k 1 (L := gs.map toC3) rfl rfl rfl (by rw [eC]; rfl) (by omega) (by omega) (by decide) (fun rest => by rw [cg]; rfl) rfl rfl ?_
      repeat' (first
      | (refine j_go ?_; first
        | refine j_op0 rfl rfl rfl rfl ?_ | (refine j_kCall rfl rfl rfl rfl ?_; first | refine jc (c_l00Same _ _) (LeL.refl _) rfl rfl ?_))
      | refine j_nil ?_
      | (refine r_go ?_; first | refine run_seq ?_ | (refine (run_if rfl (fun hb => ?_) (fun hb => ?_)) <;> first | (exfalso; omega) | skip) | refine run_skip ?_)
      | refine seqQ_normal ?_)
      · have bk := hc _ (List.getElem_mem hk)
        have eV : (gs.map encGroup).flatten = ((gs.map encGroup).flatten.map fun a => [a]).flatten := (sing_flat _).symm
        have fl := flat_len (f := encGroup) (z := 3) (fun _ => rfl) gs
        have kb : k * 3 + 2 < gs.length * 3 := by omega
        have gv : (gs.map encGroup).flatten[k * 3 + 2]'(by omega) = .int gs[k].count := by
          have := flat_get (f := encGroup) (z := 3) gs k 2 hk (show 2 < 3 by omega) (fun _ => rfl)
          rw [List.getElem?_eq_getElem (by omega)] at this
          exact Option.some.inj this
        repeat' (first
      | (refine j_goO ?_; first
        | refine j_op0O rfl rfl rfl rfl ?_ | (refine j_kIdxO rfl ?_; first | refine j_midxO rfl rfl rfl rfl rfl (by first | omega | (simp only [List.length_append, List.length_cons, List.length_nil]; omega)) rfl rfl ?_))
      | (refine r_go ?_; first | refine run_opn 5 [⟨0, true, false, 0⟩, ⟨1, true, false, 0⟩, ⟨2, true, false, 0⟩, ⟨3, true, false, 0⟩, ⟨4, true, false, 0⟩, ⟨5, true, false, 0⟩, ⟨6, true, false, 0⟩, ⟨7, true, false, 0⟩, ⟨8, true, false, 0⟩, ⟨9, true, false, 0⟩, ⟨10, false, true, 0⟩] rfl rfl (by kernel_rfl) ?_))
        refine j_mloadEO 0 (k * 3 + 2) (g := fun a => [a]) (L := (gs.map encGroup).flatten) (z := 1) rfl rfl rfl rfl (by rw [← eV]; rfl) (fun _ => rfl) (by omega) (by omega) (fun _ => by rw [gv]; rfl) rfl rfl ?_
        repeat' (first
      | (refine j_goO ?_; first
        | refine j_op0O rfl rfl rfl rfl ?_ | (refine j_kIdxO rfl ?_; first | refine j_midxO rfl rfl rfl rfl rfl (by first | omega | (simp only [List.length_append, List.length_cons, List.length_nil]; omega)) rfl rfl ?_) | (refine j_kBinO rfl ?_; first | refine j_inO rfl rfl ⟨by omega, by omega⟩ rfl rfl ?_)))
        refine j_storeEO 0 (k * 3 + 2) (g := fun a => [a]) (L := (gs.map encGroup).flatten) (A.int (gs[k].count + g.count)) rfl rfl rfl rfl rfl rfl (by rw [← eV]; rfl) rfl rfl rfl (fun _ => rfl) (by omega) (by omega) (fun _ hk => nomatch hk) ?_
        repeat' (first
      | (refine j_go ?_; first
        | refine j_op0 rfl rfl rfl rfl ?_)
      | refine j_nil ?_
      | refine j_nilO ?_
      | (refine r_go ?_; first | refine run_seq ?_ | refine run_region ?_ | refine run_ret ?_)
      | refine seqQ_normal ?_ | refine seqQ_ret ?_)
        have eM : insM gs g = gs.set k { gs[k] with count := gs[k].count + g.count } := by
          unfold insM; rw [hp, getD_get hk, if_pos ⟨by assumption, by assumption⟩]
        exact endD_ret (h1 := [_]) rfl (.cons (.tmp rfl) .nil) (Le.refl _) ⟨some b2, cap, by rw [eM, List.length_set]; rfl, by rw [sing_flat, set_cnt gs k hk, eM]⟩ (.inl rfl)
      · have lm : (gs.map encGroup).length = gs.length := List.length_map _
        have tl : (gs.take k).length = k := by rw [List.length_take]; omega
        have dl : (gs.drop k).length = gs.length - k := List.length_drop
        have eM : insM gs g = (gs.take k ++ [g]) ++ gs.drop k := by unfold insM; rw [hp, getD_get hk, if_neg (fun q => hb q.2)]; simp
        have e2 : gs.drop k = (gs.take (((gs.map encGroup).length : Nat) : Int).toNat).drop ((k : Int)).toNat := by
          simp only [Int.toNat_natCast, List.length_map, List.take_length]
        rw [eM]
        refine run_view (view_freeze (g := encGroup) (z := 3) (ys := gs) 0 0 rfl rfl rfl (fun _ => rfl) rfl rfl) ?_
        repeat' (first
      | (refine j_goO ?_; first
        | refine j_op0O rfl rfl rfl rfl ?_ | (refine j_kBslO rfl ?_; first | refine j_bs0O rfl rfl rfl rfl rfl rfl ?_ | refine j_bslO rfl rfl rfl rfl rfl rfl rfl rfl rfl rfl rfl ?_) | (refine j_kSliceO rfl ?_; first | refine j_sliceO rfl rfl rfl rfl rfl rfl (by omega) (fun _ => rfl) rfl rfl ?_))
      | (refine r_go ?_; first | refine run_opn 7 [⟨0, true, false, 0⟩, ⟨1, true, false, 0⟩, ⟨2, true, false, 0⟩, ⟨3, true, false, 0⟩, ⟨5, false, false, 0⟩, ⟨6, false, false, 0⟩, ⟨4, false, true, 0⟩, ⟨7, false, true, 0⟩, ⟨8, true, false, 0⟩] rfl rfl (by kernel_rfl) ?_))
        refine j_append0O (g := encGroup) (gs.take k) rfl (fun _ hk => nomatch hk) rfl rfl rfl rfl rfl rfl rfl rfl (fun _ => rfl) (fun _ _ => rfl) ⟨by omega, by omega⟩ rfl rfl (fun b3 c3 => ?_)
        skip
        refine j_appendO 0 (g := encGroup) (ys := gs.take k) [g] rfl (fun _ hk => nomatch hk) rfl rfl rfl rfl rfl rfl rfl rfl rfl rfl rfl rfl (fun _ => rfl) (fun _ _ => rfl) ⟨by simp only [List.length_cons, List.length_nil]; omega, by simp only [List.length_cons, List.length_nil]; omega⟩ rfl rfl (fun b4 c4 => ?_)
        repeat' (first
      | (refine j_go ?_; first
        | refine j_op0 rfl rfl rfl rfl ?_ | (refine j_kSlice rfl ?_; first | refine j_slice rfl rfl rfl rfl rfl rfl (by omega) (fun _ => rfl) rfl rfl ?_))
      | (refine j_goO ?_; first
        | refine j_op0O rfl rfl rfl rfl ?_)
      | refine j_nilO ?_
      | (refine r_go ?_; first | refine run_seq ?_ | refine run_region ?_)
      | refine seqQ_normal ?_)
        have l4 : (gs.take k ++ [g]).length = k + 1 := by rw [List.length_append, tl]; rfl
        refine j_append 0 (g := encGroup) (ys := gs.take k ++ [g]) (gs.drop k) rfl rfl rfl rfl rfl rfl rfl rfl rfl rfl rfl (by rw [e2]; rfl) (fun _ => rfl) (fun _ _ => rfl) ⟨by omega, by omega⟩ rfl rfl (fun b5 c5 => ?_)
        repeat' (first
      | (refine j_go ?_; first
        | refine j_op0 rfl rfl rfl rfl ?_)
      | refine j_nil ?_
      | (refine r_go ?_; first | refine run_ret ?_)
      | refine seqQ_normal ?_)
        exact endD_ret (h1 := [_]) rfl (.cons (.tmp rfl) .nil) (Le.refl _) ⟨b5, c5, rfl, rfl⟩ (.inl rfl)
    · have lm : (gs.map encGroup).length = gs.length := List.length_map _
      have tl : (gs.take k).length = k := by rw [List.length_take]; omega
      have dl : (gs.drop k).length = gs.length - k := List.length_drop
      have eM : insM gs g = (gs.take k ++ [g]) ++ gs.drop k := by unfold insM; rw [hp, getD_get hk, if_neg (fun q => hb q.1)]; simp
      have e2 : gs.drop k = (gs.take (((gs.map encGroup).length : Nat) : Int).toNat).drop ((k : Int)).toNat := by
        simp only [Int.toNat_natCast, List.length_map, List.take_length]
      rw [eM]
      refine run_view (view_freeze (g := encGroup) (z := 3) (ys := gs) 0 0 rfl rfl rfl (fun _ => rfl) rfl rfl) ?_
      repeat' (first
      | (refine j_goO ?_; first
        | refine j_op0O rfl rfl rfl rfl ?_ | (refine j_kBslO rfl ?_; first | refine j_bs0O rfl rfl rfl rfl rfl rfl ?_ | refine j_bslO rfl rfl rfl rfl rfl rfl rfl rfl rfl rfl rfl ?_) | (refine j_kSliceO rfl ?_; first | refine j_sliceO rfl rfl rfl rfl rfl rfl (by omega) (fun _ => rfl) rfl rfl ?_))
      | (refine r_go ?_; first | refine run_opn 7 [⟨0, true, false, 0⟩, ⟨1, true, false, 0⟩, ⟨2, true, false, 0⟩, ⟨3, true, false, 0⟩, ⟨5, false, false, 0⟩, ⟨6, false, false, 0⟩, ⟨4, false, true, 0⟩, ⟨7, false, true, 0⟩, ⟨8, true, false, 0⟩] rfl rfl (by kernel_rfl) ?_))
      refine j_append0O (g := encGroup) (gs.take k) rfl (fun _ hk => nomatch hk) rfl rfl rfl rfl rfl rfl rfl rfl (fun _ => rfl) (fun _ _ => rfl) ⟨by omega, by omega⟩ rfl rfl (fun b3 c3 => ?_)
      skip
      refine j_appendO 0 (g := encGroup) (ys := gs.take k) [g] rfl (fun _ hk => nomatch hk) rfl rfl rfl rfl rfl rfl rfl rfl rfl rfl rfl rfl (fun _ => rfl) (fun _ _ => rfl) ⟨by simp only [List.length_cons, List.length_nil]; omega, by simp only [List.length_cons, List.length_nil]; omega⟩ rfl rfl (fun b4 c4 => ?_)
      repeat' (first
      | (refine j_go ?_; first
        | refine j_op0 rfl rfl rfl rfl ?_ | (refine j_kSlice rfl ?_; first | refine j_slice rfl rfl rfl rfl rfl rfl (by omega) (fun _ => rfl) rfl rfl ?_))
      | (refine j_goO ?_; first
        | refine j_op0O rfl rfl rfl rfl ?_)
      | refine j_nilO ?_
      | (refine r_go ?_; first | refine run_seq ?_ | refine run_region ?_)
      | refine seqQ_normal ?_)
      have l4 : (gs.take k ++ [g]).length = k + 1 := by rw [List.length_append, tl]; rfl
      refine j_append 0 (g := encGroup) (ys := gs.take k ++ [g]) (gs.drop k) rfl rfl rfl rfl rfl rfl rfl rfl rfl rfl rfl (by rw [e2]; rfl) (fun _ => rfl) (fun _ _ => rfl) ⟨by omega, by omega⟩ rfl rfl (fun b5 c5 => ?_)
      repeat' (first
      | (refine j_go ?_; first
        | refine j_op0 rfl rfl rfl rfl ?_)
      | refine j_nil ?_
      | (refine r_go ?_; first | refine run_ret ?_)
      | refine seqQ_normal ?_)
      exact endD_ret (h1 := [_]) rfl (.cons (.tmp rfl) .nil) (Le.refl _) ⟨b5, c5, rfl, rfl⟩ (.inl rfl)
  have hke : k = gs.length := by omega
  subst hke
  have hp : insP gs g = gs.length := insP_end fun i hi => kp i hi hi
  have lm : (gs.map encGroup).length = gs.length := List.length_map _
  have tl : (gs.take gs.length).length = gs.length := by rw [List.take_length]
  have dl : (gs.drop gs.length).length = gs.length - gs.length := List.length_drop
  have eM : insM gs g = (gs.take gs.length ++ [g]) ++ gs.drop gs.length := by
    unfold insM; rw [hp, if_neg (fun q => by have := q.1; simp at this; omega)]; simp
  have e2 : gs.drop gs.length = (gs.take (((gs.map encGroup).length : Nat) : Int).toNat).drop ((gs.length : Int)).toNat := by
    simp only [Int.toNat_natCast, List.length_map, List.take_length]
  rw [eM]
  repeat' (first
      | (refine j_go ?_; first
        | refine j_op0 rfl rfl rfl rfl ?_ | refine j_off rfl rfl rfl ?_ | (refine j_kLen rfl ?_; first | refine j_op rfl rfl rfl rfl ?_) | (refine j_kGuard rfl ?_; first | (refine (j_if rfl rfl rfl (fun hb => ?_) (fun hb => ?_)) <;> first | (exfalso; omega) | skip)))
      | refine j_nil ?_
      | (refine r_go ?_; first | refine run_seq ?_ | refine run_region ?_ | refine run_cond_f rfl ?_ | refine run_exit ?_)
      | refine seqQ_normal ?_ | refine seqQ_exit ?_ | refine blockQ_eq ?_ | refine loopQ_exit ?_)
  refine run_view (view_freeze (g := encGroup) (z := 3) (ys := gs) 0 0 rfl rfl rfl (fun _ => rfl) rfl rfl) ?_
  repeat' (first
      | (refine j_go ?_; first
        | refine j_op0 rfl rfl rfl rfl ?_ | refine j_off rfl rfl rfl ?_ | (refine j_kLen rfl ?_; first | refine j_len rfl rfl rfl rfl rfl rfl ?_) | (refine j_kGuard rfl ?_; first | (refine (j_if rfl rfl rfl (fun hb => ?_) (fun hb => ?_)) <;> first | (exfalso; omega) | skip)))
      | refine j_nil ?_
      | (refine j_goO ?_; first
        | refine j_op0O rfl rfl rfl rfl ?_ | (refine j_kBslO rfl ?_; first | refine j_bs0O rfl rfl rfl rfl rfl rfl ?_ | refine j_bslO rfl rfl rfl rfl rfl rfl rfl rfl rfl rfl rfl ?_) | (refine j_kSliceO rfl ?_; first | refine j_sliceO rfl rfl rfl rfl rfl rfl (by omega) (fun _ => rfl) rfl rfl ?_))
      | (refine r_go ?_; first | refine run_seq ?_ | refine run_cond_f rfl ?_ | refine run_skip ?_ | refine run_opn 7 [⟨0, true, false, 0⟩, ⟨1, true, false, 0⟩, ⟨2, true, false, 0⟩, ⟨3, true, false, 0⟩, ⟨5, false, false, 0⟩, ⟨6, false, false, 0⟩, ⟨4, false, true, 0⟩, ⟨7, false, true, 0⟩, ⟨8, true, false, 0⟩] rfl rfl (by kernel_rfl) ?_ | refine run_regionD (by kernel_rfl) ?_)
      | refine seqQ_normal ?_)
  refine j_append0O (g := encGroup) (gs.take gs.length) rfl (fun _ hk => nomatch hk) rfl rfl rfl rfl rfl rfl rfl rfl (fun _ => rfl) (fun _ _ => rfl) ⟨by omega, by omega⟩ rfl rfl (fun b3 c3 => ?_)
  skip
  refine j_appendO 0 (g := encGroup) (ys := gs.take gs.length) [g] rfl (fun _ hk => nomatch hk) rfl rfl rfl rfl rfl rfl rfl rfl rfl rfl rfl rfl (fun _ => rfl) (fun _ _ => rfl) ⟨by simp only [List.length_cons, List.length_nil]; omega, by simp only [List.length_cons, List.length_nil]; omega⟩ rfl rfl (fun b4 c4 => ?_)
  repeat' (first
      | (refine j_go ?_; first
        | refine j_op0 rfl rfl rfl rfl ?_ | (refine j_kSlice rfl ?_; first | refine j_slice rfl rfl rfl rfl rfl rfl (by omega) (fun _ => rfl) rfl rfl ?_))
      | (refine j_goO ?_; first
        | refine j_op0O rfl rfl rfl rfl ?_)
      | refine j_nilO ?_
      | (refine r_go ?_; first | refine run_seq ?_ | refine run_region ?_)
      | refine seqQ_normal ?_)
  have l4 : (gs.take gs.length ++ [g]).length = gs.length + 1 := by rw [List.length_append, tl]; rfl
  refine j_append 0 (g := encGroup) (ys := gs.take gs.length ++ [g]) (gs.drop gs.length) rfl rfl rfl rfl rfl rfl rfl rfl rfl rfl rfl (by rw [e2]; rfl) (fun _ => rfl) (fun _ _ => rfl) ⟨by omega, by omega⟩ rfl rfl (fun b5 c5 => ?_)
  repeat' (first
      | (refine j_go ?_; first
        | refine j_op0 rfl rfl rfl rfl ?_)
      | refine j_nil ?_
      | (refine r_go ?_; first | refine run_ret ?_)
      | refine seqQ_normal ?_)
  exact endD_ret (h1 := [_]) rfl (.cons (.tmp rfl) .nil) (Le.refl _) ⟨b5, c5, rfl, rfl⟩ (.inl rfl)
end Go.Proofs.Ytandldhceabdiaa

/-
  A step of a colony: the reference's steps over what it collects. No condition.
-/
namespace Go.Proofs.Ytandldhceabdiaa
open Go.AI
set_option maxRecDepth 8000
set_option maxHeartbeats 1600000

end Go.Proofs.Ytandldhceabdiaa

/-
  A step of a colony: the reference adds cells. No condition.
-/
namespace Go.Proofs.Ytandldhceabdiaa
open Go.AI
set_option maxRecDepth 8000
set_option maxHeartbeats 1600000

end Go.Proofs.Ytandldhceabdiaa

/-
  What all cells of a colony use in a step, as data; plain facts. No condition.
-/
namespace Go.Proofs.Ytandldhceabdiaa
open Go.AI
set_option maxRecDepth 8000
set_option maxHeartbeats 1600000

structure Use where
  g : Group
  r : DivRule
  many : Int
open Classical in
/-- How many of so many cells of a group use a rule, with so many objects in the skin. -/
noncomputable def manyOf (g : Group) (l : List Int) (c : Int) (r : DivRule) : Int :=
  if r.kind = 1 ∨ r.kind = 2 ∨ r.charge ≠ g.charge ∨ c = 0 then 0 else if r.kind = 5 then min c (occ r.object l) else if r.object ∈ g.contents then c else 0
/-! ### What is added keeps lists and counts within bounds -/
theorem insP_le (gs : List Group) (g : Group) : insP gs g ≤ gs.length := List.findIdx_le_length
theorem insM_len (gs : List Group) (g : Group) : (insM gs g).length ≤ gs.length + 1 := by
  have := insP_le gs g
  unfold insM
  split
  · rw [List.length_set]; omega
  · rw [List.length_append, List.length_cons, List.length_take, List.length_drop]; omega
theorem insM_cnt {gs : List Group} {g : Group} {B C : Int} (h : ∀ y ∈ gs, 0 ≤ y.count ∧ y.count ≤ B) (hg : 0 ≤ g.count ∧ g.count ≤ C) (hB : 0 ≤ B) : ∀ y ∈ insM gs g, 0 ≤ y.count ∧ y.count ≤ B + C := by
  have hd : 0 ≤ (gs.getD (insP gs g) ⟨5, [], 0⟩).count ∧ (gs.getD (insP gs g) ⟨5, [], 0⟩).count ≤ B := by
    by_cases q : insP gs g < gs.length
    · rw [getD_get q]; exact h _ (List.getElem_mem q)
    · have e : gs.getD (insP gs g) ⟨5, [], 0⟩ = ⟨5, [], 0⟩ := by rw [List.getD_eq_getElem?_getD, List.getElem?_eq_none (by omega)]; rfl
      rw [e]; exact ⟨Int.le_refl _, hB⟩
  intro y hy
  unfold insM at hy
  split at hy
  · rcases List.mem_or_eq_of_mem_set hy with q | q
    · have := h y q; omega
    · subst q; dsimp only; omega
  · rcases List.mem_append.1 hy with q | q
    · have := h y (List.mem_of_mem_take q); omega
    · rcases List.mem_cons.1 q with q | q
      · subst q; omega
      · have := h y (List.mem_of_mem_drop q); omega
end Go.Proofs.Ytandldhceabdiaa

/-
  A step of a colony: the reference lets cells use a main rule. No condition.
-/
namespace Go.Proofs.Ytandldhceabdiaa
open Go.AI
set_option maxRecDepth 8000
set_option maxHeartbeats 1600000

theorem HeapOf.rng {o most : Int} {l : List Int} (h : HeapOf o l most) : ∀ y ∈ l, 0 ≤ y ∧ y ≤ o - 1 := fun y hy => by
  obtain ⟨i, hi, rfl⟩ := List.getElem_of_mem hy
  exact (h.1 i hi).1
theorem grw_rng {d : Division} (hv : d.Valid) {kind charge x : Int} (hx : 0 ≤ x ∧ x ≤ d.objects - 1) : ∀ y ∈ d.grw kind charge x, 0 ≤ y ∧ y ≤ d.objects - 1 := by
  rcases fIdx_cases (FitR kind charge x) d.rules with ⟨k, hk, _, h2, h3⟩ | ⟨_, h⟩
  · rw [(grw_at hk h2 h3).1]
    exact (hv.2.2 _ (List.getElem_mem hk)).2.2.2.2.2.1.rng
  · rw [(grw_no h).1]; intro y hy; rw [List.mem_singleton] at hy; subst hy; exact hx
theorem grown_rng {d : Division} (hv : d.Valid) {kind charge : Int} {l : List Int} (hl : ∀ y ∈ l, 0 ≤ y ∧ y ≤ d.objects - 1) : ∀ y ∈ d.grown kind charge l, 0 ≤ y ∧ y ≤ d.objects - 1 := fun y hy => by
  unfold Division.grown at hy
  obtain ⟨s, hs, hy⟩ := List.mem_flatten.1 hy
  obtain ⟨x, hx, rfl⟩ := List.mem_map.1 hs
  exact grw_rng hv (hl x hx) y hy
/-- What a step has collected is within bounds. -/
def MvOk (d : Division) (B : Nat) (sk : List Int) (gs : List Group) : Prop := sk.length ≤ 5000 ∧ (∀ y ∈ sk, 0 ≤ y ∧ y ≤ d.objects - 1) ∧ gs.length ≤ B ∧ ∀ y ∈ gs, 0 ≤ y.count ∧ y.count ≤ 5000 * (B : Int)
theorem MvOk.mono {d : Division} {B B' : Nat} {sk : List Int} {gs : List Group} (h : MvOk d B sk gs) (hB : B ≤ B') : MvOk d B' sk gs := ⟨h.1, h.2.1, by have := h.2.2.1; omega, fun y hy => by have := h.2.2.2 y hy; omega⟩
theorem MvOk.add {d : Division} {B : Nat} {sk : List Int} {gs : List Group} (h : MvOk d B sk gs) {g : Group} (hg : 0 ≤ g.count ∧ g.count ≤ 5000) : MvOk d (B + 1) sk (insM gs g) := ⟨h.1, h.2.1, by have := h.2.2.1; have := insM_len gs g; omega, fun y hy => by
  have := insM_cnt h.2.2.2 hg (by omega) y hy
  omega⟩
theorem MvOk.skin {d : Division} {B : Nat} {sk sk' : List Int} {gs : List Group} (h : MvOk d B sk gs) (h1 : sk'.length ≤ 5000) (h2 : ∀ y ∈ sk', 0 ≤ y ∧ y ≤ d.objects - 1) : MvOk d B sk' gs := ⟨h1, h2, h.2.2.1, h.2.2.2⟩
end Go.Proofs.Ytandldhceabdiaa

/-
  Groups in memory of the call's own: stretches of them change places. No condition.
-/
namespace Go.Proofs.Ytandldhceabdiaa
open Go.AI
set_option maxRecDepth 8000
set_option maxHeartbeats 1600000

/-- A group whose contents lie in memory of the call's own. -/
structure Tri where
  g : Group
  b : Option Nat
  cap : Nat
def Tri.cs (t : Tri) : List A := [.int t.g.charge, .os t.b t.g.contents.length t.cap, .int t.g.count]
def Tri.blk (t : Tri) : Blk := ⟨t.b, 2, t.cap * 1, (t.g.contents.map Go.AI.encI).flatten⟩
abbrev grB (b : Nat) (cap : Nat) (L : List Tri) : Blk := ⟨some b, 130, cap * 3, (L.map Tri.cs).flatten⟩
section
variable {C : Cx} {n : Nat} {Q : Exit → Env → Heap → Prop} {e : Env} {h : Heap} {d : Bool} {l os : List Oper} {o : Oper} {f : Fl} {fs : List Fl} {B : List (Nat × Blk)}
/-- A group out of a list of the call's own. -/
theorem j_ldT (i m : Nat) {t : Tri} {L : List Tri} {T b p T' room dd : Nat} {x : Operand} (hw : wantE l e o = some true) (ho : o.op = .load T x) (hx : evO e x = some (.op (some b) p)) (hi : h[i]? = some ⟨some b, T', room, (L.map Tri.cs).flatten⟩)
    (hp : p = m * 3) (hm : m < L.length) (ht : L[m] = t) (hv : ∀ (t : Tri) rest, loadA C.ty T (t.cs ++ rest) = some (.agg t.cs)) (hd : o.dst = some dd) (hn : Nat.blt dd n = true) (hj : J d C n l os Q ((dd, .agg t.cs) :: e) h) : J d C n l (o :: os) Q e h :=
  j_mloadE i m (g := Tri.cs) (L := L) (z := 3) hw ho hx hi (fun _ => rfl) hp hm (fun rest => by rw [ht]; exact hv t rest) hd hn hj
theorem j_ldTO (i m : Nat) {t : Tri} {L : List Tri} {T b p T' room dd : Nat} {x : Operand} (hti : f.tight = true) (hw : wantE l e o = some true) (ho : o.op = .load T x) (hx : evO e x = some (.op (some b) p)) (hi : h[i]? = some ⟨some b, T', room, (L.map Tri.cs).flatten⟩)
    (hp : p = m * 3) (hm : m < L.length) (ht : L[m] = t) (hv : ∀ (t : Tri) rest, loadA C.ty T (t.cs ++ rest) = some (.agg t.cs)) (hd : o.dst = some dd) (hn : Nat.blt dd n = true) (hj : JO fs B C n l os Q ((dd, .agg t.cs) :: e) h) : JO (f :: fs) B C n l (o :: os) Q e h :=
  j_mloadEO i m (g := Tri.cs) (L := L) (z := 3) hti hw ho hx hi (fun _ => rfl) hp hm (fun rest => by rw [ht]; exact hv t rest) hd hn hj
end
theorem o_swapRange (b cap : Nat) (c : A) (U X M Y V : List Tri) (n N a1 a2 : Nat) (hx : X.length = n) (hy : Y.length = n) (hN : N = U.length + n + M.length + n + V.length) (h1 : a1 = U.length) (h2 : a2 = U.length + n + M.length) (hL : N ≤ 100000000) :
    Does Try.prog 261 [.os (some b) N cap, .int (a1 : Int), .int (a2 : Int), .int (n : Int), c] [grB b cap (U ++ X ++ M ++ Y ++ V)] (fun _ h' => h' = [grB b cap (U ++ Y ++ M ++ X ++ V)]) := by
  refine fn_of_runD tyOk ztOk mix Try.func261 rfl (by decide) Try.ntmps261 (fun w0 F => ?_)
  change Run _ _ _ _ _ (_ :: F)
  repeat' (first
      | (refine j_go ?_; first
        | refine j_op0 rfl rfl rfl rfl ?_)
      | refine j_nil ?_
      | (refine r_go ?_; first | refine run_seq ?_ | refine run_region ?_ | refine run_block ?_)
      | refine seqQ_normal ?_)
  refine run_loop (fun k : Nat => [(0, .os (some b) N cap), (1, .int (a1 : Int)), (2, .int (a2 : Int)), (3, .int (n : Int)), (10, .int (k : Int))]) (fun k => grB b cap (swK U X M Y V k) :: F) (fun k => k ≤ n) (fun k => n - k) 0 ⟨rfl, rfl, rfl, rfl, rfl, trivial⟩ (by rw [swK_zero]) (Nat.zero_le _) (fun k kl => ?_)
  by_cases hk : k < n
  · have sl := swK_len (U := U) (M := M) (V := V) hx hy kl
    have ex := swK_x (U := U) (M := M) (V := V) hx hy hk (by omega)
    have ey := swK_y (U := U) (M := M) (V := V) hx hy hk (by omega)
    have nx' := swK_next (U := U) (M := M) (V := V) hx hy hk
    repeat' (first
      | (refine j_go ?_; first
        | refine j_op0 rfl rfl rfl rfl ?_)
      | refine j_nil ?_
      | (refine j_goO ?_; first
        | refine j_op0O rfl rfl rfl rfl ?_ | (refine j_kIdxO rfl ?_; first | refine j_midxO rfl rfl rfl rfl rfl (by first | omega | (simp only [List.length_append, List.length_cons, List.length_nil]; omega)) rfl rfl ?_) | (refine j_kBinO rfl ?_; first | refine j_inO rfl rfl ⟨by omega, by omega⟩ rfl rfl ?_))
      | (refine r_go ?_; first | refine run_seq ?_ | refine run_region ?_ | (refine (run_if rfl (fun hb => ?_) (fun hb => ?_)) <;> first | (exfalso; omega) | skip) | refine run_block ?_ | refine run_skip ?_ | refine run_opn 3 [⟨0, true, false, 0⟩, ⟨1, true, false, 0⟩, ⟨2, true, false, 0⟩, ⟨3, true, false, 0⟩, ⟨4, false, false, 0⟩, ⟨5, false, false, 0⟩, ⟨6, false, false, 0⟩, ⟨7, false, false, 0⟩, ⟨8, true, false, 0⟩, ⟨9, true, false, 0⟩, ⟨10, true, false, 0⟩, ⟨11, true, false, 0⟩, ⟨12, true, false, 0⟩, ⟨13, true, false, 0⟩, ⟨14, true, false, 0⟩, ⟨15, true, false, 0⟩, ⟨16, true, false, 0⟩, ⟨17, true, false, 0⟩, ⟨18, true, false, 0⟩, ⟨19, true, false, 0⟩, ⟨20, true, false, 0⟩, ⟨21, false, true, 0⟩, ⟨22, true, false, 0⟩, ⟨23, false, true, 0⟩] rfl rfl (by kernel_rfl) ?_)
      | refine seqQ_normal ?_)
    refine j_ldTO 0 (U.length + n + M.length + k) (L := swK U X M Y V k) rfl rfl rfl rfl rfl (by omega) (by omega) ey (fun _ _ => loadSt rfl rfl) rfl rfl ?_
    repeat' (first
      | (refine j_goO ?_; first
        | refine j_op0O rfl rfl rfl rfl ?_ | (refine j_kIdxO rfl ?_; first | refine j_midxO rfl rfl rfl rfl rfl (by first | omega | (simp only [List.length_append, List.length_cons, List.length_nil]; omega)) rfl rfl ?_) | (refine j_kBinO rfl ?_; first | refine j_inO rfl rfl ⟨by omega, by omega⟩ rfl rfl ?_)))
    refine j_ldTO 0 (U.length + k) (L := swK U X M Y V k) rfl rfl rfl rfl rfl (by omega) (by omega) ex (fun _ _ => loadSt rfl rfl) rfl rfl ?_
    repeat' (first
      | (refine j_goO ?_; first
        | (refine j_kIdxO rfl ?_; first | refine j_midxO rfl rfl rfl rfl rfl (by first | omega | (simp only [List.length_append, List.length_cons, List.length_nil]; omega)) rfl rfl ?_)))
    refine j_storeEO 0 (U.length + k) (g := Tri.cs) (Y[k]'(by omega)) rfl rfl rfl rfl rfl rfl rfl rfl rfl rfl (fun _ => rfl) (by omega) (by omega) (fun _ hk => nomatch hk) ?_
    repeat' (first
      | (refine j_goO ?_; first
        | (refine j_kIdxO rfl ?_; first | refine j_midxO rfl rfl rfl rfl rfl (by first | omega | (simp only [List.length_append, List.length_cons, List.length_nil]; omega)) rfl rfl ?_)))
    refine j_storeEO 0 (U.length + n + M.length + k) (g := Tri.cs) (X[k]'(by omega)) rfl rfl rfl rfl rfl rfl rfl rfl rfl rfl (fun _ => rfl) (by omega) (by rw [List.length_set]; omega) (fun _ hk => nomatch hk) ?_
    rw [nx']
    repeat' (first
      | (refine j_go ?_; first
        | refine j_op0 rfl rfl rfl rfl ?_ | (refine j_kBin rfl ?_; first | refine j_in rfl rfl ⟨by omega, by omega⟩ rfl rfl ?_))
      | refine j_nil ?_
      | refine j_nilO ?_
      | (refine r_go ?_; first | refine run_region ?_)
      | refine seqQ_normal ?_ | refine blockQ_normal ?_)
    exact loopQ_next (k + 1) (by omega) (by omega) rfl ⟨rfl, rfl, rfl, rfl, nx _, trivial⟩
  · obtain rfl : k = n := by omega
    repeat' (first
      | (refine j_go ?_; first
        | refine j_op0 rfl rfl rfl rfl ?_)
      | refine j_nil ?_
      | (refine r_go ?_; first | refine run_seq ?_ | refine run_region ?_ | (refine (run_if rfl (fun hb => ?_) (fun hb => ?_)) <;> first | (exfalso; omega) | skip) | refine run_exit ?_)
      | refine seqQ_normal ?_ | refine seqQ_exit ?_ | refine blockQ_eq ?_ | refine loopQ_exit ?_)
    rw [swK_all hx hy]
    exact endD_ret (h1 := [_]) rfl .nil (Le.refl _) rfl (.inr rfl)
theorem o_rotate (b cap N m : Nat) (c : A) (hL : N ≤ 100000000) (P X Y S : List Tri) (hX : 0 < X.length) (hY : 0 < Y.length) (hm : P.length + X.length = m) (hN : P.length + X.length + Y.length + S.length = N) (a e : Nat) (ha : a = P.length) (he : e = m + Y.length) :
    Does Try.prog 253 [.os (some b) N cap, .int (a : Int), .int (m : Int), .int (e : Int), c] [grB b cap (P ++ X ++ Y ++ S)] (fun _ h' => h' = [grB b cap (P ++ Y ++ X ++ S)]) := by
  refine fn_of_runD tyOk ztOk mix Try.func253 rfl (by decide) Try.ntmps253 (fun w0 F => ?_)
  change Run _ _ _ _ _ (_ :: F)
  repeat' (first
      | (refine j_go ?_; first
        | refine j_op0 rfl rfl rfl rfl ?_ | (refine j_kBin rfl ?_; first | refine j_in rfl rfl ⟨by omega, by omega⟩ rfl rfl ?_))
      | refine j_nil ?_
      | (refine r_go ?_; first | refine run_seq ?_ | refine run_region ?_ | refine run_block ?_)
      | refine seqQ_normal ?_)
  refine run_loop (fun x : List Tri × List Tri × List Tri × List Tri => [(0, .os (some b) N cap), (2, .int (m : Int)), (4, c), (10, .int (x.2.1.length : Int)), (11, .int (x.2.2.1.length : Int))])
    (fun x => grB b cap (x.1 ++ x.2.1 ++ x.2.2.1 ++ x.2.2.2) :: F)
    (fun x => x.1 ++ x.2.2.1 ++ x.2.1 ++ x.2.2.2 = P ++ Y ++ X ++ S ∧ x.1.length + x.2.1.length = m ∧ 0 < x.2.1.length ∧ 0 < x.2.2.1.length ∧ x.1.length + x.2.1.length + x.2.2.1.length + x.2.2.2.length = N) (fun x => x.2.1.length + x.2.2.1.length) (P, X, Y, S)
    ⟨rfl, rfl, rfl, si (by dsimp only; omega), si (by dsimp only; omega), trivial⟩ rfl ⟨rfl, hm, hX, hY, hN⟩ (fun ⟨P', X', Y', S'⟩ ⟨q1, q2, q3, q4, q5⟩ => ?_)
  dsimp only at q1 q2 q3 q4 q5 ⊢
  repeat' (first
      | (refine j_go ?_; first
        | refine j_op0 rfl rfl rfl rfl ?_ | (refine j_kBin rfl ?_; first | refine j_in rfl rfl ⟨by omega, by omega⟩ rfl rfl ?_))
      | refine j_nil ?_
      | (refine r_go ?_; first | refine run_seq ?_ | refine run_region ?_ | (refine (run_if rfl (fun hb => ?_) (fun hb => ?_)) <;> first | (exfalso; omega) | skip) | (refine (run_ifn rfl (fun hb => ?_) (fun hb => ?_)) <;> first | (exfalso; omega) | skip) | refine run_block ?_ | refine run_exit ?_ | refine run_skip ?_)
      | refine seqQ_normal ?_ | refine seqQ_exit ?_ | refine blockQ_eq ?_ | refine loopQ_exit ?_)
  · have hgt : Y'.length < X'.length := by omega
    have lt1 : (X'.take Y'.length).length = Y'.length := by rw [List.length_take]; omega
    have ld1 : (X'.drop Y'.length).length = X'.length - Y'.length := List.length_drop
    have cS := o_swapRange b cap c P' (X'.take Y'.length) (X'.drop Y'.length) Y' S' Y'.length N (m - X'.length) m lt1 rfl (by omega) (by omega) (by omega) hL
    rw [List.append_assoc P', List.take_append_drop] at cS
    refine j_kCall rfl rfl rfl rfl ?_
    refine jcp F cS (List.Perm.refl _) (LeL.cons (Le.refl _) (LeL.cons (le_eqi (by omega)) (LeL.refl _))) rfl rfl (fun v h1 hR => ?_)
    subst hR
    repeat' (first
      | (refine j_go ?_; first
        | refine j_op0 rfl rfl rfl rfl ?_ | (refine j_kBin rfl ?_; first | refine j_in rfl rfl ⟨by omega, by omega⟩ rfl rfl ?_))
      | refine j_nil ?_
      | (refine r_go ?_; first | refine run_region ?_)
      | refine seqQ_normal ?_ | refine blockQ_normal ?_)
    exact loopQ_next (P' ++ Y', X'.drop Y'.length, X'.take Y'.length, S') ⟨by dsimp only; rw [← q1, List.append_assoc (P' ++ Y'), List.take_append_drop], by dsimp only; rw [List.length_append]; omega, by dsimp only; omega, by dsimp only; omega, by dsimp only; rw [List.length_append]; omega⟩ (by dsimp only; omega) rfl ⟨rfl, rfl, rfl, si (by dsimp only; omega), si (by dsimp only; omega), trivial⟩
  · have hlt : X'.length < Y'.length := by omega
    have lt1 : (Y'.take (Y'.length - X'.length)).length = Y'.length - X'.length := by rw [List.length_take]; omega
    have ld1 : (Y'.drop (Y'.length - X'.length)).length = X'.length := by rw [List.length_drop]; omega
    have cS := o_swapRange b cap c P' X' (Y'.take (Y'.length - X'.length)) (Y'.drop (Y'.length - X'.length)) S' X'.length N (m - X'.length) (m + Y'.length - X'.length) rfl ld1 (by omega) (by omega) (by omega) hL
    rw [List.append_assoc (P' ++ X'), List.take_append_drop] at cS
    refine j_kCall rfl rfl rfl rfl ?_
    refine jcp F cS (List.Perm.refl _) (LeL.cons (Le.refl _) (LeL.cons (le_eqi (by omega)) (LeL.cons (le_eqi (by omega)) (LeL.refl _)))) rfl rfl (fun v h1 hR => ?_)
    subst hR
    repeat' (first
      | (refine j_go ?_; first
        | refine j_op0 rfl rfl rfl rfl ?_ | (refine j_kBin rfl ?_; first | refine j_in rfl rfl ⟨by omega, by omega⟩ rfl rfl ?_))
      | refine j_nil ?_
      | (refine r_go ?_; first | refine run_region ?_)
      | refine seqQ_normal ?_ | refine blockQ_normal ?_)
    exact loopQ_next (P', Y'.drop (Y'.length - X'.length), Y'.take (Y'.length - X'.length), X' ++ S') ⟨by dsimp only; rw [← q1, List.append_assoc P' (Y'.take _), List.take_append_drop, List.append_assoc (P' ++ Y')], by dsimp only; omega, by dsimp only; omega, by dsimp only; omega, by dsimp only; rw [List.length_append]; omega⟩ (by dsimp only; omega) (by dsimp only; rw [← List.append_assoc]; rfl) ⟨rfl, rfl, rfl, si (by dsimp only; omega), si (by dsimp only; omega), trivial⟩
  · have heq : X'.length = Y'.length := by omega
    have cS := o_swapRange b cap c P' X' [] Y' S' X'.length N (m - X'.length) m rfl heq.symm (by simp only [List.length_nil]; omega) (by omega) (by simp only [List.length_nil]; omega) hL
    rw [List.append_nil, List.append_nil, q1] at cS
    refine j_kCall rfl rfl rfl rfl ?_
    refine jcp F cS (List.Perm.refl _) (LeL.cons (Le.refl _) (LeL.cons (le_eqi (by omega)) (LeL.refl _))) rfl rfl (fun v h1 hR => ?_)
    subst hR
    repeat' (first
      | refine j_nil ?_)
    exact endD_ret (h1 := [_]) rfl .nil (Le.refl _) rfl (.inr rfl)
end Go.Proofs.Ytandldhceabdiaa
