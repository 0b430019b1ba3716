/-
  Groups in order: the reference's l07Insert. No condition.
-/
import Derived.Test.YtandldhceabdiaaZS7n
import Derived.Test.YtandldhceabdiaaZVC
import Derived.Test.YtandldhceabdiaaZPS7
import Derived.Test.YtandldhceabdiaaZMT
import Derived.Test.YtandldhceabdiaaZG7
import Derived.KernelRfl
namespace Go.Proofs.Ytandldhceabdiaa
open Go.AI
set_option maxRecDepth 8000
set_option maxHeartbeats 1600000

/-- The place of a group among groups. -/
noncomputable def insP (gs : List Group) (g : Group) : Nat := gs.findIdx fun x => dec (¬ Before x g)
theorem insP_at {gs : List Group} {g : Group} {k : Nat} (hk : k < gs.length) (h : ¬ Before gs[k] g) (hn : ∀ i (h : i < gs.length), i < k → Before gs[i] g) : insP gs g = k := by
  unfold insP
  refine (List.findIdx_eq hk).2 ⟨dec_t h, fun j hj => ?_⟩
  exact dec_f (fun q => q (hn j (by omega) hj))
theorem insP_end {gs : List Group} {g : Group} (hn : ∀ i (h : i < gs.length), Before gs[i] g) : insP gs g = gs.length := by
  unfold insP
  refine List.findIdx_eq_length.2 fun x hx => ?_
  obtain ⟨i, hi, rfl⟩ := List.getElem_of_mem hx
  exact dec_f (fun q => q (hn i hi))
/-- What a cell that is added makes of groups. -/
noncomputable def insM (gs : List Group) (g : Group) : List Group :=
  if (gs.getD (insP gs g) ⟨5, [], 0⟩).charge = g.charge ∧ (gs.getD (insP gs g) ⟨5, [], 0⟩).contents = g.contents then gs.set (insP gs g) { gs.getD (insP gs g) ⟨5, [], 0⟩ with count := (gs.getD (insP gs g) ⟨5, [], 0⟩).count + g.count }
  else gs.take (insP gs g) ++ g :: gs.drop (insP gs g)
theorem set_cnt : ∀ (gs : List Group) (k : Nat) (hk : k < gs.length) (s : Int), ((gs.map encGroup).flatten).set (k * 3 + 2) (.int s) = ((gs.set k { gs[k] with count := s }).map encGroup).flatten
  | x :: gs, 0, _, s => rfl
  | x :: gs, k + 1, hk, s => by
    have e : (k + 1) * 3 + 2 = (k * 3 + 2) + 1 + 1 + 1 := by omega
    rw [e]
    have ih := set_cnt gs k (by simpa using hk) s
    simp only [List.map_cons, List.flatten_cons, List.getElem_cons_succ, List.set_cons_succ]
    rw [← ih]; rfl
def toC3 (g : Group) : Cells 3 := ⟨encGroup g, rfl⟩
theorem o_l07Insert (gs : List Group) (g : Group) (b : Option Nat) (cap : Nat) (hl : gs.length ≤ 1000000) (hc : ∀ x ∈ gs, 0 ≤ x.count ∧ x.count ≤ 1000000000000) (hg : 0 ≤ g.count ∧ g.count ≤ 1000000) (hgc : g.charge ≤ 1) : Does Try.prog 78 [.os b gs.length cap, .agg (encGroup g)] [⟨b, 130, cap * 3, (gs.map encGroup).flatten⟩]
    (fun v h' => ∃ b' cap', v = .os b' (insM gs g).length cap' ∧ h' = [⟨b', 130, cap' * 3, ((insM gs g).map encGroup).flatten⟩]) := by
  refine fn_of_runD tyOk ztOk mix Try.func78 rfl (by decide) Try.ntmps78 (fun w0 F => ?_)
  change Run _ _ _ _ _ (_ :: F)
  repeat' (first
      | (refine j_go ?_; first
        | refine j_op0 rfl rfl rfl rfl ?_ | refine j_box rfl rfl rfl rfl rfl rfl ?_)
      | refine j_nil ?_
      | (refine r_go ?_; first | refine run_seq ?_ | refine run_region ?_ | refine run_block ?_)
      | refine seqQ_normal ?_)
  refine run_loop (fun k : Nat => [(0, .os b gs.length cap), (3, .ip (encGroup g)), (5, .int (k : Int))]) (fun _ => ⟨b, 130, cap * 3, (gs.map encGroup).flatten⟩ :: F) (fun k => k ≤ gs.length ∧ ∀ i (h : i < gs.length), i < k → Before gs[i] g) (fun k => gs.length - k) 0 ⟨rfl, rfl, rfl, trivial⟩ rfl ⟨Nat.zero_le _, fun _ _ q => absurd q (Nat.not_lt_zero _)⟩ (fun k ⟨kl, kp⟩ => ?_)
  by_cases hk : k < gs.length
  case pos =>
    refine run_some 0 rfl (fun q => by have := flat_len (f := encGroup) (z := 3) (fun _ => rfl) gs; rw [q] at this; simp at this; omega) (fun b2 hb2 => ?_)
    subst hb2
    repeat' (first
      | (refine j_go ?_; first
        | refine j_op0 rfl rfl rfl rfl ?_ | (refine j_kIdx rfl ?_; first | refine j_midx rfl rfl rfl rfl rfl (by first | omega | (simp only [List.length_append, List.length_cons, List.length_nil]; omega)) rfl rfl ?_) | (refine j_kLen rfl ?_; first | refine j_op rfl rfl rfl rfl ?_) | (refine j_kGuard rfl ?_; first | (refine (j_if rfl rfl rfl (fun hb => ?_) (fun hb => ?_)) <;> first | (exfalso; omega) | skip)))
      | (refine r_go ?_; first | refine run_seq ?_ | refine run_region ?_))
    refine j_kCall rfl rfl rfl rfl ?_
    refine jctq [⟨some b2, 130, cap * 3, (gs.map encGroup).flatten⟩] (c_l07Before gs[k] g) (Clo.raw _) (fun k hk => by simp only [List.mem_singleton] at hk; subst hk; simp) (FrzL.cons (Frz.ptrE (g := encGroup) (z := 3) (L := gs) (fun _ => rfl) hk (List.mem_singleton.2 rfl)) (FrzL.cons (Frz.same _ _) (FrzL.nil _))) rfl rfl ?_
    repeat' (first
      | (refine j_go ?_; first
        | refine j_op0 rfl rfl rfl rfl ?_ | (refine j_kIdx rfl ?_; first | refine j_midx rfl rfl rfl rfl rfl (by first | omega | (simp only [List.length_append, List.length_cons, List.length_nil]; omega)) rfl rfl ?_) | (refine j_kBin rfl ?_; first | refine j_in rfl rfl ⟨by omega, by omega⟩ rfl rfl ?_) | (refine j_kLen rfl ?_; first | refine j_op rfl rfl rfl rfl ?_) | (refine j_kGuard rfl ?_; first | (refine (j_if rfl rfl rfl (fun hb => ?_) (fun hb => ?_)) <;> first | (exfalso; omega) | skip)))
      | refine j_nil ?_
      | (refine r_go ?_; first | refine run_seq ?_ | refine run_region ?_ | (refine (run_if rfl (fun hb => ?_) (fun hb => ?_)) <;> first | (exfalso; omega) | skip) | refine run_block ?_ | refine run_exit ?_ | refine run_skip ?_ | refine run_regionD (by kernel_rfl) ?_)
      | refine seqQ_normal ?_ | refine seqQ_exit ?_ | refine blockQ_normal ?_ | refine blockQ_eq ?_ | refine loopQ_exit ?_)
    · exact loopQ_next (k + 1) ⟨by omega, all_step kp (fun _ => hb)⟩ (by omega) rfl ⟨rfl, rfl, nx _, trivial⟩
    have hp := insP_at hk (by assumption) kp
    have eC : (gs.map encGroup).flatten = ((gs.map toC3).map Subtype.val).flatten := by rw [List.map_map]; rfl
    have cl : (gs.map toC3).length = gs.length := List.length_map _
    have cg : (gs.map toC3)[k]'(by omega) = toC3 gs[k] := List.getElem_map _
    refine j_loadF 0 k 0 (L := gs.map toC3) rfl rfl rfl (by rw [eC]; rfl) (by omega) (by omega) (by decide) (fun rest => by rw [cg]; rfl) rfl rfl ?_
    repeat' (first
      | (refine j_go ?_; first
        | refine j_op0 rfl rfl rfl rfl ?_ | refine j_off rfl rfl rfl ?_ | (refine j_kIdx rfl ?_; first | refine j_midx rfl rfl rfl rfl rfl (by first | omega | (simp only [List.length_append, List.length_cons, List.length_nil]; omega)) rfl rfl ?_) | (refine j_kGuard rfl ?_; first | (refine (j_if rfl rfl rfl (fun hb => ?_) (fun hb => ?_)) <;> first | (exfalso; omega) | skip)))
      | refine j_nil ?_
      | (refine r_go ?_; first | refine run_seq ?_ | refine run_cond_f rfl ?_ | refine run_skip ?_)
      | refine seqQ_normal ?_)
    · refine j_loadF 0 k 1 (L := gs.map toC3) rfl rfl rfl (by rw [eC]; rfl) (by omega) (by omega) (by decide) (fun rest => by rw [cg]; rfl) rfl rfl ?_
      repeat' (first
      | (refine j_go ?_; first
        | refine j_op0 rfl rfl rfl rfl ?_ | (refine j_kCall rfl rfl rfl rfl ?_; first | refine jc (c_l00Same _ _) (LeL.refl _) rfl rfl ?_))
      | refine j_nil ?_
      | (refine r_go ?_; first | refine run_seq ?_ | (refine (run_if rfl (fun hb => ?_) (fun hb => ?_)) <;> first | (exfalso; omega) | skip) | refine run_skip ?_)
      | refine seqQ_normal ?_)
      · have bk := hc _ (List.getElem_mem hk)
        have eV : (gs.map encGroup).flatten = ((gs.map encGroup).flatten.map fun a => [a]).flatten := (sing_flat _).symm
        have fl := flat_len (f := encGroup) (z := 3) (fun _ => rfl) gs
        have kb : k * 3 + 2 < gs.length * 3 := by omega
        have gv : (gs.map encGroup).flatten[k * 3 + 2]'(by omega) = .int gs[k].count := by
          have := flat_get (f := encGroup) (z := 3) gs k 2 hk (show 2 < 3 by omega) (fun _ => rfl)
          rw [List.getElem?_eq_getElem (by omega)] at this
          exact Option.some.inj this
        repeat' (first
      | (refine j_goO ?_; first
        | refine j_op0O rfl rfl rfl rfl ?_ | (refine j_kIdxO rfl ?_; first | refine j_midxO rfl rfl rfl rfl rfl (by first | omega | (simp only [List.length_append, List.length_cons, List.length_nil]; omega)) rfl rfl ?_))
      | (refine r_go ?_; first | refine run_opn 5 [⟨0, true, false, 0⟩, ⟨1, true, false, 0⟩, ⟨2, true, false, 0⟩, ⟨3, true, false, 0⟩, ⟨4, true, false, 0⟩, ⟨5, true, false, 0⟩, ⟨6, true, false, 0⟩, ⟨7, true, false, 0⟩, ⟨8, true, false, 0⟩, ⟨9, true, false, 0⟩, ⟨10, false, true, 0⟩] rfl rfl (by kernel_rfl) ?_))
        refine j_mloadEO 0 (k * 3 + 2) (g := fun a => [a]) (L := (gs.map encGroup).flatten) (z := 1) rfl rfl rfl rfl (by rw [← eV]; rfl) (fun _ => rfl) (by omega) (by omega) (fun _ => by rw [gv]; rfl) rfl rfl ?_
        repeat' (first
      | (refine j_goO ?_; first
        | refine j_op0O rfl rfl rfl rfl ?_ | (refine j_kIdxO rfl ?_; first | refine j_midxO rfl rfl rfl rfl rfl (by first | omega | (simp only [List.length_append, List.length_cons, List.length_nil]; omega)) rfl rfl ?_) | (refine j_kBinO rfl ?_; first | refine j_inO rfl rfl ⟨by omega, by omega⟩ rfl rfl ?_)))
        refine j_storeEO 0 (k * 3 + 2) (g := fun a => [a]) (L := (gs.map encGroup).flatten) (A.int (gs[k].count + g.count)) rfl rfl rfl rfl rfl rfl (by rw [← eV]; rfl) rfl rfl rfl (fun _ => rfl) (by omega) (by omega) (fun _ hk => nomatch hk) ?_
        repeat' (first
      | (refine j_go ?_; first
        | refine j_op0 rfl rfl rfl rfl ?_)
      | refine j_nil ?_
      | refine j_nilO ?_
      | (refine r_go ?_; first | refine run_seq ?_ | refine run_region ?_ | refine run_ret ?_)
      | refine seqQ_normal ?_ | refine seqQ_ret ?_)
        have eM : insM gs g = gs.set k { gs[k] with count := gs[k].count + g.count } := by
          unfold insM; rw [hp, getD_get hk, if_pos ⟨by assumption, by assumption⟩]
        exact endD_ret (h1 := [_]) rfl (.cons (.tmp rfl) .nil) (Le.refl _) ⟨some b2, cap, by rw [eM, List.length_set]; rfl, by rw [sing_flat, set_cnt gs k hk, eM]⟩ (.inl rfl)
      · have lm : (gs.map encGroup).length = gs.length := List.length_map _
        have tl : (gs.take k).length = k := by rw [List.length_take]; omega
        have dl : (gs.drop k).length = gs.length - k := List.length_drop
        have eM : insM gs g = (gs.take k ++ [g]) ++ gs.drop k := by unfold insM; rw [hp, getD_get hk, if_neg (fun q => hb q.2)]; simp
        have e2 : gs.drop k = (gs.take (((gs.map encGroup).length : Nat) : Int).toNat).drop ((k : Int)).toNat := by
          simp only [Int.toNat_natCast, List.length_map, List.take_length]
        rw [eM]
        refine run_view (view_freeze (g := encGroup) (z := 3) (ys := gs) 0 0 rfl rfl rfl (fun _ => rfl) rfl rfl) ?_
        repeat' (first
      | (refine j_goO ?_; first
        | refine j_op0O rfl rfl rfl rfl ?_ | (refine j_kBslO rfl ?_; first | refine j_bs0O rfl rfl rfl rfl rfl rfl ?_ | refine j_bslO rfl rfl rfl rfl rfl rfl rfl rfl rfl rfl rfl ?_) | (refine j_kSliceO rfl ?_; first | refine j_sliceO rfl rfl rfl rfl rfl rfl (by omega) (fun _ => rfl) rfl rfl ?_))
      | (refine r_go ?_; first | refine run_opn 7 [⟨0, true, false, 0⟩, ⟨1, true, false, 0⟩, ⟨2, true, false, 0⟩, ⟨3, true, false, 0⟩, ⟨5, false, false, 0⟩, ⟨6, false, false, 0⟩, ⟨4, false, true, 0⟩, ⟨7, false, true, 0⟩, ⟨8, true, false, 0⟩] rfl rfl (by kernel_rfl) ?_))
        refine j_append0O (g := encGroup) (gs.take k) rfl (fun _ hk => nomatch hk) rfl rfl rfl rfl rfl rfl rfl rfl (fun _ => rfl) (fun _ _ => rfl) ⟨by omega, by omega⟩ rfl rfl (fun b3 c3 => ?_)
        skip
        refine j_appendO 0 (g := encGroup) (ys := gs.take k) [g] rfl (fun _ hk => nomatch hk) rfl rfl rfl rfl rfl rfl rfl rfl rfl rfl rfl rfl (fun _ => rfl) (fun _ _ => rfl) ⟨by simp only [List.length_cons, List.length_nil]; omega, by simp only [List.length_cons, List.length_nil]; omega⟩ rfl rfl (fun b4 c4 => ?_)
        repeat' (first
      | (refine j_go ?_; first
        | refine j_op0 rfl rfl rfl rfl ?_ | (refine j_kSlice rfl ?_; first | refine j_slice rfl rfl rfl rfl rfl rfl (by omega) (fun _ => rfl) rfl rfl ?_))
      | (refine j_goO ?_; first
        | refine j_op0O rfl rfl rfl rfl ?_)
      | refine j_nilO ?_
      | (refine r_go ?_; first | refine run_seq ?_ | refine run_region ?_)
      | refine seqQ_normal ?_)
        have l4 : (gs.take k ++ [g]).length = k + 1 := by rw [List.length_append, tl]; rfl
        refine j_append 0 (g := encGroup) (ys := gs.take k ++ [g]) (gs.drop k) rfl rfl rfl rfl rfl rfl rfl rfl rfl rfl rfl (by rw [e2]; rfl) (fun _ => rfl) (fun _ _ => rfl) ⟨by omega, by omega⟩ rfl rfl (fun b5 c5 => ?_)
        repeat' (first
      | (refine j_go ?_; first
        | refine j_op0 rfl rfl rfl rfl ?_)
      | refine j_nil ?_
      | (refine r_go ?_; first | refine run_ret ?_)
      | refine seqQ_normal ?_)
        exact endD_ret (h1 := [_]) rfl (.cons (.tmp rfl) .nil) (Le.refl _) ⟨b5, c5, rfl, rfl⟩ (.inl rfl)
    · have lm : (gs.map encGroup).length = gs.length := List.length_map _
      have tl : (gs.take k).length = k := by rw [List.length_take]; omega
      have dl : (gs.drop k).length = gs.length - k := List.length_drop
      have eM : insM gs g = (gs.take k ++ [g]) ++ gs.drop k := by unfold insM; rw [hp, getD_get hk, if_neg (fun q => hb q.1)]; simp
      have e2 : gs.drop k = (gs.take (((gs.map encGroup).length : Nat) : Int).toNat).drop ((k : Int)).toNat := by
        simp only [Int.toNat_natCast, List.length_map, List.take_length]
      rw [eM]
      refine run_view (view_freeze (g := encGroup) (z := 3) (ys := gs) 0 0 rfl rfl rfl (fun _ => rfl) rfl rfl) ?_
      repeat' (first
      | (refine j_goO ?_; first
        | refine j_op0O rfl rfl rfl rfl ?_ | (refine j_kBslO rfl ?_; first | refine j_bs0O rfl rfl rfl rfl rfl rfl ?_ | refine j_bslO rfl rfl rfl rfl rfl rfl rfl rfl rfl rfl rfl ?_) | (refine j_kSliceO rfl ?_; first | refine j_sliceO rfl rfl rfl rfl rfl rfl (by omega) (fun _ => rfl) rfl rfl ?_))
      | (refine r_go ?_; first | refine run_opn 7 [⟨0, true, false, 0⟩, ⟨1, true, false, 0⟩, ⟨2, true, false, 0⟩, ⟨3, true, false, 0⟩, ⟨5, false, false, 0⟩, ⟨6, false, false, 0⟩, ⟨4, false, true, 0⟩, ⟨7, false, true, 0⟩, ⟨8, true, false, 0⟩] rfl rfl (by kernel_rfl) ?_))
      refine j_append0O (g := encGroup) (gs.take k) rfl (fun _ hk => nomatch hk) rfl rfl rfl rfl rfl rfl rfl rfl (fun _ => rfl) (fun _ _ => rfl) ⟨by omega, by omega⟩ rfl rfl (fun b3 c3 => ?_)
      skip
      refine j_appendO 0 (g := encGroup) (ys := gs.take k) [g] rfl (fun _ hk => nomatch hk) rfl rfl rfl rfl rfl rfl rfl rfl rfl rfl rfl rfl (fun _ => rfl) (fun _ _ => rfl) ⟨by simp only [List.length_cons, List.length_nil]; omega, by simp only [List.length_cons, List.length_nil]; omega⟩ rfl rfl (fun b4 c4 => ?_)
      repeat' (first
      | (refine j_go ?_; first
        | refine j_op0 rfl rfl rfl rfl ?_ | (refine j_kSlice rfl ?_; first | refine j_slice rfl rfl rfl rfl rfl rfl (by omega) (fun _ => rfl) rfl rfl ?_))
      | (refine j_goO ?_; first
        | refine j_op0O rfl rfl rfl rfl ?_)
      | refine j_nilO ?_
      | (refine r_go ?_; first | refine run_seq ?_ | refine run_region ?_)
      | refine seqQ_normal ?_)
      have l4 : (gs.take k ++ [g]).length = k + 1 := by rw [List.length_append, tl]; rfl
      refine j_append 0 (g := encGroup) (ys := gs.take k ++ [g]) (gs.drop k) rfl rfl rfl rfl rfl rfl rfl rfl rfl rfl rfl (by rw [e2]; rfl) (fun _ => rfl) (fun _ _ => rfl) ⟨by omega, by omega⟩ rfl rfl (fun b5 c5 => ?_)
      repeat' (first
      | (refine j_go ?_; first
        | refine j_op0 rfl rfl rfl rfl ?_)
      | refine j_nil ?_
      | (refine r_go ?_; first | refine run_ret ?_)
      | refine seqQ_normal ?_)
      exact endD_ret (h1 := [_]) rfl (.cons (.tmp rfl) .nil) (Le.refl _) ⟨b5, c5, rfl, rfl⟩ (.inl rfl)
  have hke : k = gs.length := by omega
  subst hke
  have hp : insP gs g = gs.length := insP_end fun i hi => kp i hi hi
  have lm : (gs.map encGroup).length = gs.length := List.length_map _
  have tl : (gs.take gs.length).length = gs.length := by rw [List.take_length]
  have dl : (gs.drop gs.length).length = gs.length - gs.length := List.length_drop
  have eM : insM gs g = (gs.take gs.length ++ [g]) ++ gs.drop gs.length := by
    unfold insM; rw [hp, if_neg (fun q => by have := q.1; simp at this; omega)]; simp
  have e2 : gs.drop gs.length = (gs.take (((gs.map encGroup).length : Nat) : Int).toNat).drop ((gs.length : Int)).toNat := by
    simp only [Int.toNat_natCast, List.length_map, List.take_length]
  rw [eM]
  repeat' (first
      | (refine j_go ?_; first
        | refine j_op0 rfl rfl rfl rfl ?_ | refine j_off rfl rfl rfl ?_ | (refine j_kLen rfl ?_; first | refine j_op rfl rfl rfl rfl ?_) | (refine j_kGuard rfl ?_; first | (refine (j_if rfl rfl rfl (fun hb => ?_) (fun hb => ?_)) <;> first | (exfalso; omega) | skip)))
      | refine j_nil ?_
      | (refine r_go ?_; first | refine run_seq ?_ | refine run_region ?_ | refine run_cond_f rfl ?_ | refine run_exit ?_)
      | refine seqQ_normal ?_ | refine seqQ_exit ?_ | refine blockQ_eq ?_ | refine loopQ_exit ?_)
  refine run_view (view_freeze (g := encGroup) (z := 3) (ys := gs) 0 0 rfl rfl rfl (fun _ => rfl) rfl rfl) ?_
  repeat' (first
      | (refine j_go ?_; first
        | refine j_op0 rfl rfl rfl rfl ?_ | refine j_off rfl rfl rfl ?_ | (refine j_kLen rfl ?_; first | refine j_len rfl rfl rfl rfl rfl rfl ?_) | (refine j_kGuard rfl ?_; first | (refine (j_if rfl rfl rfl (fun hb => ?_) (fun hb => ?_)) <;> first | (exfalso; omega) | skip)))
      | refine j_nil ?_
      | (refine j_goO ?_; first
        | refine j_op0O rfl rfl rfl rfl ?_ | (refine j_kBslO rfl ?_; first | refine j_bs0O rfl rfl rfl rfl rfl rfl ?_ | refine j_bslO rfl rfl rfl rfl rfl rfl rfl rfl rfl rfl rfl ?_) | (refine j_kSliceO rfl ?_; first | refine j_sliceO rfl rfl rfl rfl rfl rfl (by omega) (fun _ => rfl) rfl rfl ?_))
      | (refine r_go ?_; first | refine run_seq ?_ | refine run_cond_f rfl ?_ | refine run_skip ?_ | refine run_opn 7 [⟨0, true, false, 0⟩, ⟨1, true, false, 0⟩, ⟨2, true, false, 0⟩, ⟨3, true, false, 0⟩, ⟨5, false, false, 0⟩, ⟨6, false, false, 0⟩, ⟨4, false, true, 0⟩, ⟨7, false, true, 0⟩, ⟨8, true, false, 0⟩] rfl rfl (by kernel_rfl) ?_ | refine run_regionD (by kernel_rfl) ?_)
      | refine seqQ_normal ?_)
  refine j_append0O (g := encGroup) (gs.take gs.length) rfl (fun _ hk => nomatch hk) rfl rfl rfl rfl rfl rfl rfl rfl (fun _ => rfl) (fun _ _ => rfl) ⟨by omega, by omega⟩ rfl rfl (fun b3 c3 => ?_)
  skip
  refine j_appendO 0 (g := encGroup) (ys := gs.take gs.length) [g] rfl (fun _ hk => nomatch hk) rfl rfl rfl rfl rfl rfl rfl rfl rfl rfl rfl rfl (fun _ => rfl) (fun _ _ => rfl) ⟨by simp only [List.length_cons, List.length_nil]; omega, by simp only [List.length_cons, List.length_nil]; omega⟩ rfl rfl (fun b4 c4 => ?_)
  repeat' (first
      | (refine j_go ?_; first
        | refine j_op0 rfl rfl rfl rfl ?_ | (refine j_kSlice rfl ?_; first | refine j_slice rfl rfl rfl rfl rfl rfl (by omega) (fun _ => rfl) rfl rfl ?_))
      | (refine j_goO ?_; first
        | refine j_op0O rfl rfl rfl rfl ?_)
      | refine j_nilO ?_
      | (refine r_go ?_; first | refine run_seq ?_ | refine run_region ?_)
      | refine seqQ_normal ?_)
  have l4 : (gs.take gs.length ++ [g]).length = gs.length + 1 := by rw [List.length_append, tl]; rfl
  refine j_append 0 (g := encGroup) (ys := gs.take gs.length ++ [g]) (gs.drop gs.length) rfl rfl rfl rfl rfl rfl rfl rfl rfl rfl rfl (by rw [e2]; rfl) (fun _ => rfl) (fun _ _ => rfl) ⟨by omega, by omega⟩ rfl rfl (fun b5 c5 => ?_)
  repeat' (first
      | (refine j_go ?_; first
        | refine j_op0 rfl rfl rfl rfl ?_)
      | refine j_nil ?_
      | (refine r_go ?_; first | refine run_ret ?_)
      | refine seqQ_normal ?_)
  exact endD_ret (h1 := [_]) rfl (.cons (.tmp rfl) .nil) (Le.refl _) ⟨b5, c5, rfl, rfl⟩ (.inl rfl)
end Go.Proofs.Ytandldhceabdiaa

/-
  A step of a colony: the reference's steps over what it collects. No condition.
-/
namespace Go.Proofs.Ytandldhceabdiaa
open Go.AI
set_option maxRecDepth 8000
set_option maxHeartbeats 1600000

end Go.Proofs.Ytandldhceabdiaa

/-
  A step of a colony: the reference adds cells. No condition.
-/
namespace Go.Proofs.Ytandldhceabdiaa
open Go.AI
set_option maxRecDepth 8000
set_option maxHeartbeats 1600000

end Go.Proofs.Ytandldhceabdiaa

/-
  What all cells of a colony use in a step, as data; plain facts. No condition.
-/
namespace Go.Proofs.Ytandldhceabdiaa
open Go.AI
set_option maxRecDepth 8000
set_option maxHeartbeats 1600000

structure Use where
  g : Group
  r : DivRule
  many : Int
open Classical in
/-- How many of so many cells of a group use a rule, with so many objects in the skin. -/
noncomputable def manyOf (g : Group) (l : List Int) (c : Int) (r : DivRule) : Int :=
  if r.kind = 1 ∨ r.kind = 2 ∨ r.charge ≠ g.charge ∨ c = 0 then 0 else if r.kind = 5 then min c (occ r.object l) else if r.object ∈ g.contents then c else 0
/-! ### What is added keeps lists and counts within bounds -/
theorem insP_le (gs : List Group) (g : Group) : insP gs g ≤ gs.length := List.findIdx_le_length
theorem insM_len (gs : List Group) (g : Group) : (insM gs g).length ≤ gs.length + 1 := by
  have := insP_le gs g
  unfold insM
  split
  · rw [List.length_set]; omega
  · rw [List.length_append, List.length_cons, List.length_take, List.length_drop]; omega
theorem insM_cnt {gs : List Group} {g : Group} {B C : Int} (h : ∀ y ∈ gs, 0 ≤ y.count ∧ y.count ≤ B) (hg : 0 ≤ g.count ∧ g.count ≤ C) (hB : 0 ≤ B) : ∀ y ∈ insM gs g, 0 ≤ y.count ∧ y.count ≤ B + C := by
  have hd : 0 ≤ (gs.getD (insP gs g) ⟨5, [], 0⟩).count ∧ (gs.getD (insP gs g) ⟨5, [], 0⟩).count ≤ B := by
    by_cases q : insP gs g < gs.length
    · rw [getD_get q]; exact h _ (List.getElem_mem q)
    · have e : gs.getD (insP gs g) ⟨5, [], 0⟩ = ⟨5, [], 0⟩ := by rw [List.getD_eq_getElem?_getD, List.getElem?_eq_none (by omega)]; rfl
      rw [e]; exact ⟨Int.le_refl _, hB⟩
  intro y hy
  unfold insM at hy
  split at hy
  · rcases List.mem_or_eq_of_mem_set hy with q | q
    · have := h y q; omega
    · subst q; dsimp only; omega
  · rcases List.mem_append.1 hy with q | q
    · have := h y (List.mem_of_mem_take q); omega
    · rcases List.mem_cons.1 q with q | q
      · subst q; omega
      · have := h y (List.mem_of_mem_drop q); omega
end Go.Proofs.Ytandldhceabdiaa

/-
  Groups with equal ones brought together: there is but one such list in order. Plain; no condition.
-/
namespace Go.Proofs.Ytandldhceabdiaa
open Go.AI
set_option maxRecDepth 8000
set_option maxHeartbeats 1600000

theorem less_tri : ∀ {a b : List Int}, ¬ less a b → ¬ less b a → a = b
  | [], [], _, _ => rfl
  | [], _ :: _, h, _ => absurd h (by simp [less])
  | _ :: _, [], _, h => absurd h (by simp [less])
  | x :: a, y :: b, h, q => by
    simp only [less, not_or, not_and] at h q
    have e : x = y := by omega
    rw [e, less_tri (h.2 e) (q.2 e.symm)]
/-- Two groups are of one kind. -/
def SameK (a b : Group) : Prop := a.charge = b.charge ∧ a.contents = b.contents
theorem bef_tri {a b : Group} (h : ¬ Before a b) (q : ¬ Before b a) : SameK a b := by
  unfold Before at h q
  have e : a.charge = b.charge := by
    have h1 : ¬ a.charge < b.charge := fun r => h (.inl r)
    have h2 : ¬ b.charge < a.charge := fun r => q (.inl r)
    omega
  exact ⟨e, less_tri (fun r => h (.inr ⟨e, r⟩)) (fun r => q (.inr ⟨e.symm, r⟩))⟩
theorem bef_trans {a b c : Group} (h : Before a b) (q : Before b c) : Before a c := (bef_neg (b := c) h).elim id fun r => absurd r (bef_asym q)
theorem bef_irr {a b : Group} (h : Before a b) : ¬ SameK a b := fun q => by
  have e : ∀ c : Group, Before c b ↔ Before c a := fun c => by unfold Before; rw [q.1, q.2]
  have h2 := (e a).1 h
  exact bef_asym h2 h2
theorem bef_k {a b c : Group} (q : SameK a b) : (Before a c ↔ Before b c) ∧ (Before c a ↔ Before c b) := by
  unfold Before; rw [q.1, q.2]; exact ⟨Iff.rfl, Iff.rfl⟩

theorem sumF_ap2 {α : Type} (f : α → Int) : ∀ a b : List α, sumF f (a ++ b) = sumF f a + sumF f b
  | [], b => by simp [sumF]
  | x :: a, b => by simp only [List.cons_append, sumF]; rw [sumF_ap2 f a b]; omega
theorem sumF_perm {α : Type} (f : α → Int) {a b : List α} (h : a.Perm b) : sumF f a = sumF f b := by
  induction h with
  | nil => rfl
  | cons x _ ih => simp only [sumF]; rw [ih]
  | swap x y l => simp only [sumF]; omega
  | trans _ _ i1 i2 => exact i1.trans i2
open Classical in
/-- So many cells of a kind a group holds. -/
noncomputable def ofK (k : Group) (g : Group) : Int := if SameK k g then g.count else 0
noncomputable def sumK (k : Group) (l : List Group) : Int := sumF (ofK k) l
/-- Groups in order, each kind once, with all the cells of gs. -/
structure Agg (gs ks : List Group) : Prop where
  asc : ks.Pairwise Before
  pos : ∀ x ∈ ks, 0 < x.count
  eqv : ∀ k, sumK k ks = sumK k gs
  sum : sumF Group.count ks = sumF Group.count gs
theorem Agg.nil : Agg [] [] := ⟨List.Pairwise.nil, fun _ h => absurd h (by simp), fun _ => rfl, rfl⟩
theorem Agg.perm {gs gs' ks : List Group} (h : Agg gs ks) (p : gs.Perm gs') : Agg gs' ks := ⟨h.asc, h.pos, fun k => (h.eqv k).trans (sumF_perm _ p), h.sum.trans (sumF_perm _ p)⟩
theorem ofK_pos {k g : Group} (h : SameK k g) : ofK k g = g.count := if_pos h
theorem ofK_neg {k g : Group} (h : ¬ SameK k g) : ofK k g = 0 := if_neg h
theorem sumK_none {k : Group} : ∀ {l : List Group}, (∀ x ∈ l, ¬ SameK k x) → sumK k l = 0
  | [], _ => rfl
  | x :: l, h => by
    have := sumK_none (k := k) (l := l) (fun y hy => h y (List.mem_cons_of_mem _ hy))
    unfold sumK at this ⊢
    simp only [sumF]
    rw [this, ofK_neg (h x List.mem_cons_self)]; rfl
theorem sumK_pos {k : Group} : ∀ {l : List Group}, (∀ x ∈ l, 0 < x.count) → ∀ x ∈ l, SameK k x → 0 < sumK k l
  | [], _, _, hx, _ => absurd hx (by simp)
  | y :: l, h, x, hx, q => by
    have hn : 0 ≤ sumF (ofK k) l := sumF_nn _ _ fun z hz => by
      by_cases r : SameK k z
      · rw [ofK_pos r]; have := h z (List.mem_cons_of_mem _ hz); omega
      · rw [ofK_neg r]; omega
    have hy : 0 ≤ ofK k y := by
      by_cases r : SameK k y
      · rw [ofK_pos r]; have := h y List.mem_cons_self; omega
      · rw [ofK_neg r]; omega
    unfold sumK; simp only [sumF]
    rcases List.mem_cons.1 hx with rfl | hx
    · rw [ofK_pos q] at *; have := h x List.mem_cons_self; omega
    · have := sumK_pos (k := k) (l := l) (fun z hz => h z (List.mem_cons_of_mem _ hz)) x hx q
      unfold sumK at this; omega
theorem asc_uniq : ∀ {a b : List Group}, a.Pairwise Before → b.Pairwise Before → (∀ x ∈ a, 0 < x.count) → (∀ x ∈ b, 0 < x.count) → (∀ k, sumK k a = sumK k b) → a = b
  | [], [], _, _, _, _, _ => rfl
  | [], y :: b, _, _, _, pb, h => by
    have h1 := sumK_pos pb y List.mem_cons_self ⟨rfl, rfl⟩
    rw [← h y] at h1
    exact absurd h1 (by simp [sumK, sumF])
  | x :: a, [], _, _, pa, _, h => by
    have h1 := sumK_pos pa x List.mem_cons_self ⟨rfl, rfl⟩
    rw [h x] at h1
    exact absurd h1 (by simp [sumK, sumF])
  | x :: a, y :: b, sa, sb, pa, pb, h => by
    rw [List.pairwise_cons] at sa sb
    have hx : ¬ Before y x ∨ True := .inr trivial
    have f1 : ∀ {u : Group} {l : List Group}, ¬ (∃ z ∈ l, SameK u z) → sumK u l = 0 := fun hn => sumK_none fun z hz q => hn ⟨z, hz, q⟩
    have k1 : ¬ Before x y := fun q => by
      have h1 := sumK_pos pa x List.mem_cons_self ⟨rfl, rfl⟩
      rw [h x, sumK_none (fun z hz r => ?_)] at h1
      · exact absurd h1 (Int.lt_irrefl _)
      · rcases List.mem_cons.1 hz with rfl | hz
        · exact bef_irr q r
        · exact bef_irr (bef_trans q (sb.1 z hz)) r
    have k2 : ¬ Before y x := fun q => by
      have h1 := sumK_pos pb y List.mem_cons_self ⟨rfl, rfl⟩
      rw [← h y, sumK_none (fun z hz r => ?_)] at h1
      · exact absurd h1 (Int.lt_irrefl _)
      · rcases List.mem_cons.1 hz with rfl | hz
        · exact bef_irr q r
        · exact bef_irr (bef_trans q (sa.1 z hz)) r
    have hk := bef_tri k1 k2
    have e1 : sumK x (x :: a) = x.count := by
      have := sumK_none (k := x) (l := a) (fun z hz => bef_irr (sa.1 z hz))
      unfold sumK at this ⊢
      simp only [sumF]; rw [this, ofK_pos ⟨rfl, rfl⟩]; omega
    have e2 : sumK x (y :: b) = y.count := by
      have := sumK_none (k := x) (l := b) (fun z hz => bef_irr ((bef_k hk).1.2 (sb.1 z hz)))
      unfold sumK at this ⊢
      simp only [sumF]; rw [this, ofK_pos hk]; omega
    have e3 : x = y := by
      have := h x
      rw [e1, e2] at this
      obtain ⟨xc, xl, xn⟩ := x
      obtain ⟨yc, yl, yn⟩ := y
      obtain ⟨q1, q2⟩ := hk
      dsimp only at q1 q2 this
      rw [q1, q2, this]
    subst e3
    rw [asc_uniq sa.2 sb.2 (fun z hz => pa z (List.mem_cons_of_mem _ hz)) (fun z hz => pb z (List.mem_cons_of_mem _ hz)) fun k => by
      have := h k
      unfold sumK at this ⊢
      simp only [sumF] at this; omega]
theorem Agg.uniq {gs a b : List Group} (h : Agg gs a) (q : Agg gs b) : a = b := asc_uniq h.asc q.asc h.pos q.pos fun k => (h.eqv k).trans (q.eqv k).symm
/-- One more group: within a group of its kind, or by itself. -/
theorem Agg.put {gs U V : List Group} {g : Group} (h : Agg gs (U ++ V)) (hg : 0 < g.count) (h1 : ∀ x ∈ U, Before x g) (h2 : ∀ x ∈ V, Before g x) : Agg (gs ++ [g]) (U ++ g :: V) where
  asc := by
    have := List.pairwise_append.1 h.asc
    refine List.pairwise_append.2 ⟨this.1, List.pairwise_cons.2 ⟨h2, this.2.1⟩, fun a ha b hb => ?_⟩
    rcases List.mem_cons.1 hb with rfl | hb
    · exact h1 a ha
    · exact this.2.2 a ha b hb
  pos x hx := by
    rcases List.mem_append.1 hx with q | q
    · exact h.pos x (List.mem_append_left _ q)
    · rcases List.mem_cons.1 q with rfl | q
      · exact hg
      · exact h.pos x (List.mem_append_right _ q)
  eqv k := by
    have := h.eqv k
    unfold sumK at this ⊢
    rw [sumF_ap2] at this
    rw [sumF_ap2, sumF_ap2]; simp only [sumF]; omega
  sum := by
    have := h.sum
    rw [sumF_ap2] at this
    rw [sumF_ap2, sumF_ap2]; simp only [sumF]; omega
theorem Agg.add {gs U V : List Group} {u g u' : Group} (h : Agg gs (U ++ u :: V)) (hg : 0 < g.count) (hk : SameK u g) (hk' : SameK u u') (hc : u'.count = u.count + g.count) : Agg (gs ++ [g]) (U ++ u' :: V) where
  asc := by
    have := List.pairwise_append.1 h.asc
    have t2 := List.pairwise_cons.1 this.2.1
    refine List.pairwise_append.2 ⟨this.1, List.pairwise_cons.2 ⟨fun x hx => (bef_k hk').1.1 (t2.1 x hx), t2.2⟩, fun a ha b hb => ?_⟩
    rcases List.mem_cons.1 hb with rfl | hb
    · exact (bef_k hk').2.1 (this.2.2 a ha u List.mem_cons_self)
    · exact this.2.2 a ha b (List.mem_cons_of_mem _ hb)
  pos x hx := by
    rcases List.mem_append.1 hx with q | q
    · exact h.pos x (List.mem_append_left _ q)
    · rcases List.mem_cons.1 q with rfl | q
      · have := h.pos u (List.mem_append_right _ List.mem_cons_self); omega
      · exact h.pos x (List.mem_append_right _ (List.mem_cons_of_mem _ q))
  eqv k := by
    have := h.eqv k
    have e : ofK k u' = ofK k u + ofK k g := by
      by_cases q : SameK k u
      · rw [ofK_pos q, ofK_pos ⟨q.1.trans hk.1, q.2.trans hk.2⟩, ofK_pos ⟨q.1.trans hk'.1, q.2.trans hk'.2⟩, hc]
      · rw [ofK_neg q, ofK_neg (fun r => q ⟨r.1.trans hk.1.symm, r.2.trans hk.2.symm⟩), ofK_neg (fun r => q ⟨r.1.trans hk'.1.symm, r.2.trans hk'.2.symm⟩)]; rfl
    unfold sumK at this ⊢
    rw [sumF_ap2] at this
    rw [sumF_ap2, sumF_ap2]; simp only [sumF] at this ⊢; omega
  sum := by
    have := h.sum
    rw [sumF_ap2] at this
    rw [sumF_ap2, sumF_ap2]; simp only [sumF] at this ⊢; omega
theorem insP_bef {gs : List Group} {g : Group} {i : Nat} (h : i < gs.length) (hi : i < insP gs g) : Before gs[i] g := by
  unfold insP at hi
  have := List.not_of_lt_findIdx hi
  by_cases q : Before gs[i] g
  · exact q
  · rw [dec_t q] at this; simp at this
theorem insP_not {gs : List Group} {g : Group} (h : insP gs g < gs.length) : ¬ Before gs[insP gs g] g := by
  have := List.findIdx_getElem (xs := gs) (p := fun x => dec (¬ Before x g)) (w := h)
  exact dec_iff.1 this
theorem Agg.ins {gs ks : List Group} {g : Group} (h : Agg gs ks) (hg : 0 < g.count) (hc : g.charge ≤ 1) : Agg (gs ++ [g]) (insM ks g) := by
  have hp := insP_le ks g
  have h1 : ∀ x ∈ ks.take (insP ks g), Before x g := fun x hx => by
    obtain ⟨i, hi, rfl⟩ := List.getElem_of_mem hx
    rw [List.length_take] at hi
    rw [List.getElem_take]
    exact insP_bef (by omega) (by omega)
  by_cases q : insP ks g < ks.length
  · have e : ks = ks.take (insP ks g) ++ ks[insP ks g] :: ks.drop (insP ks g + 1) := by rw [← List.drop_eq_getElem_cons q, List.take_append_drop]
    have hn := insP_not q
    unfold insM
    rw [getD_get q]
    by_cases hk : SameK ks[insP ks g] g
    · have hk2 := hk
      unfold SameK at hk2
      rw [if_pos hk2, List.set_eq_take_append_cons_drop, if_pos q]
      have h0 : Agg gs (ks.take (insP ks g) ++ ks[insP ks g] :: ks.drop (insP ks g + 1)) := by rw [← e]; exact h
      exact h0.add hg hk ⟨rfl, rfl⟩ rfl
    · have hk2 := hk
      unfold SameK at hk2
      rw [if_neg hk2]
      have hb : Before g ks[insP ks g] := Classical.byContradiction fun r => hk (bef_tri hn r)
      have h0 := h
      rw [← List.take_append_drop (insP ks g) ks] at h0
      refine h0.put hg h1 fun x hx => ?_
      rw [List.drop_eq_getElem_cons q] at hx
      rcases List.mem_cons.1 hx with rfl | hx
      · exact hb
      · have s := h.asc
        rw [e] at s
        exact bef_trans hb ((List.pairwise_cons.1 (List.pairwise_append.1 s).2.1).1 x hx)
  · have e2 : ks.getD (insP ks g) ⟨5, [], 0⟩ = ⟨5, [], 0⟩ := by rw [List.getD_eq_getElem?_getD, List.getElem?_eq_none (by omega)]; rfl
    unfold insM
    rw [e2, if_neg (fun r => by have := r.1; dsimp only at this; omega)]
    have h0 := h
    rw [← List.take_append_drop (insP ks g) ks] at h0
    refine h0.put hg h1 fun x hx => ?_
    rw [List.drop_eq_nil_of_le (by omega)] at hx
    exact absurd hx (by simp)
theorem insM_len2 (gs : List Group) (g : Group) : gs.length ≤ (insM gs g).length := by
  have := insP_le gs g
  unfold insM
  split
  · rw [List.length_set]; exact Nat.le_refl _
  · rw [List.length_append, List.length_cons, List.length_take, List.length_drop]; omega
end Go.Proofs.Ytandldhceabdiaa

/-
  A step of a colony: the reference lets cells use a main rule. No condition.
-/
namespace Go.Proofs.Ytandldhceabdiaa
open Go.AI
set_option maxRecDepth 8000
set_option maxHeartbeats 1600000

/-- What a step has collected is within bounds. -/
def MvOk (d : Division) (B : Nat) (sk : List Int) (gs : List Group) : Prop := sk.length ≤ 5000 ∧ (∀ y ∈ sk, 0 ≤ y ∧ y ≤ d.objects - 1) ∧ gs.length ≤ B ∧ ∀ y ∈ gs, 0 ≤ y.count ∧ y.count ≤ 5000 * (B : Int)
theorem MvOk.mono {d : Division} {B B' : Nat} {sk : List Int} {gs : List Group} (h : MvOk d B sk gs) (hB : B ≤ B') : MvOk d B' sk gs := ⟨h.1, h.2.1, by have := h.2.2.1; omega, fun y hy => by have := h.2.2.2 y hy; omega⟩
theorem MvOk.add {d : Division} {B : Nat} {sk : List Int} {gs : List Group} (h : MvOk d B sk gs) {g : Group} (hg : 0 ≤ g.count ∧ g.count ≤ 5000) : MvOk d (B + 1) sk (insM gs g) := ⟨h.1, h.2.1, by have := h.2.2.1; have := insM_len gs g; omega, fun y hy => by
  have := insM_cnt h.2.2.2 hg (by omega) y hy
  omega⟩
theorem MvOk.skin {d : Division} {B : Nat} {sk sk' : List Int} {gs : List Group} (h : MvOk d B sk gs) (h1 : sk'.length ≤ 5000) (h2 : ∀ y ∈ sk', 0 ≤ y ∧ y ≤ d.objects - 1) : MvOk d B sk' gs := ⟨h1, h2, h.2.2.1, h.2.2.2⟩
end Go.Proofs.Ytandldhceabdiaa

/-
  A step of a colony: the reference lets a group act. No condition.
-/
namespace Go.Proofs.Ytandldhceabdiaa
open Go.AI
set_option maxRecDepth 8000
set_option maxHeartbeats 1600000

end Go.Proofs.Ytandldhceabdiaa

/-
  Colonies at rest: what the reference computes. No condition.
-/
namespace Go.Proofs.Ytandldhceabdiaa
open Go.AI
set_option maxRecDepth 8000
set_option maxHeartbeats 1600000

theorem memB2 {k : Nat × Blk} {i j : Nat} {b : Blk} (h : k ∈ [(i, b), (j, b)]) : k.2 = b := by
  rcases List.mem_cons.1 h with rfl | h
  · rfl
  · rw [List.mem_singleton] at h; rw [h]
end Go.Proofs.Ytandldhceabdiaa

/-
  The structs of theme 7, read as data. No condition.
-/
namespace Go.Proofs.Ytandldhceabdiaa
open Go.AI Go.RowKit

theorem own : ownKnob Try.prog.godebug = none := by kernel_rfl
theorem laidOut : laidOutB Try.prog = true := by kernel_rfl
theorem rdGroup {H : Type} {enc : TypeId × Value → H} {W : World} : Rd enc Try.prog W 148 encGroup :=
  rd_struct Try.underlying148 (m := 3) (by kernel_rfl) (rdFs_cons (z := 1) rfl (by kernel_rfl) (by decide) (rd_int Try.underlying2) (rdFs_cons (z := 1) rfl (by kernel_rfl) (by decide) (rd_slice (f := Go.AI.encI) (z := 1) Try.underlying22 (by kernel_rfl) (by decide) (fun _ => rfl) (rd_int Try.underlying2)) (rdFs_cons (z := 1) rfl (by kernel_rfl) (by decide) (rd_int Try.underlying2) rdFs_nil)))
    (fun p => (⟨p.1, p.2.1, p.2.2.1⟩ : Group)) (fun _ => rfl)
theorem rdDivRule {H : Type} {enc : TypeId × Value → H} {W : World} : Rd enc Try.prog W 214 encDivRule :=
  rd_struct Try.underlying214 (m := 7) (by kernel_rfl) (rdFs_cons (z := 1) rfl (by kernel_rfl) (by decide) (rd_int Try.underlying2) (rdFs_cons (z := 1) rfl (by kernel_rfl) (by decide) (rd_int Try.underlying2) (rdFs_cons (z := 1) rfl (by kernel_rfl) (by decide) (rd_int Try.underlying2) (rdFs_cons (z := 1) rfl (by kernel_rfl) (by decide) (rd_int Try.underlying2) (rdFs_cons (z := 1) rfl (by kernel_rfl) (by decide) (rd_slice (f := Go.AI.encI) (z := 1) Try.underlying22 (by kernel_rfl) (by decide) (fun _ => rfl) (rd_int Try.underlying2)) (rdFs_cons (z := 1) rfl (by kernel_rfl) (by decide) (rd_int Try.underlying2) (rdFs_cons (z := 1) rfl (by kernel_rfl) (by decide) (rd_slice (f := Go.AI.encI) (z := 1) Try.underlying22 (by kernel_rfl) (by decide) (fun _ => rfl) (rd_int Try.underlying2)) rdFs_nil)))))))
    (fun p => (⟨p.1, p.2.1, p.2.2.1, p.2.2.2.1, p.2.2.2.2.1, p.2.2.2.2.2.1, p.2.2.2.2.2.2.1⟩ : DivRule)) (fun _ => rfl)
theorem rdDivision {H : Type} {enc : TypeId × Value → H} {W : World} : Rd enc Try.prog W 79 encDivision :=
  rd_struct Try.underlying79 (m := 2) (by kernel_rfl) (rdFs_cons (z := 1) rfl (by kernel_rfl) (by decide) (rd_int Try.underlying2) (rdFs_cons (z := 1) rfl (by kernel_rfl) (by decide) (rd_slice (f := encDivRule) (z := 7) Try.underlying77 (by kernel_rfl) (by decide) (fun _ => rfl) rdDivRule) rdFs_nil))
    (fun p => (⟨p.1, p.2.1⟩ : Division)) (fun _ => rfl)
end Go.Proofs.Ytandldhceabdiaa
