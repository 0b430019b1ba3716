/-
  Packings of the reference: so many lists, each of so many counts. No condition.
-/
import Derived.Test.YtkfmjjoalkoncaaGreatZS5j
import Derived.Test.YtkfmjjoalkoncaaGreatZC8
import Derived.Test.YtkfmjjoalkoncaaGreatZSW
namespace Go.Proofs.YtkfmjjoalkoncaaGreat
open Go.AI
set_option maxRecDepth 8000
set_option maxHeartbeats 1600000
/-- A variable with a list of the call's own of so many lists, each of one length. -/
def PkW (b N m : Nat) (h : Heap) : Prop := ∃ (ob : Option Nat) (cap : Nat) (L : List (List Int)), L.length = N ∧ (∀ l ∈ L, l.length = m) ∧ h = [⟨some b, 29, 1, [.os ob L.length cap]⟩, ⟨ob, 24, cap * 1, (L.map (encS Go.AI.encI)).flatten⟩]
theorem o_l01PackW (K : Nat) : ∀ (ps pre : List (List Int)) (rest beg : List Int) (b N : Nat) (h0 : Heap), (∀ p ∈ pre ++ ps, Ptk K p) → (pre ++ ps).length ≤ 1000000 → Bgk K rest → beg.length = pre.length → N ≤ 2000 → PkW b N (pre ++ ps).length h0 →
    Does Tryz.prog 91 [.sl (rest.map Go.AI.encI), .sl ((pre ++ ps).map (encS Go.AI.encI)), .sl (beg.map Go.AI.encI), .op (some b) 0] h0 (fun _ h' => PkW b (min 2001 (N + packN (pre ++ ps) ps rest)) (pre ++ ps).length h') := by
  intro ps
  induction ps with
  | nil =>
    intro pre rest beg b N h0 hp hl hr hbl hN H
    rw [List.append_nil] at hp hl H ⊢
    obtain ⟨ob, cap, vs, hvs, hvm, rfl⟩ := H
    refine fn_of_runD tyOk ztOk mix Tryz.func91 rfl (by decide) Tryz.ntmps91 (fun w0 F => ?_)
    change Run _ _ _ _ _ (_ :: _ :: F)
    repeat' (first
      | (refine j_go ?_; first
        | refine j_op0 rfl rfl rfl rfl ?_ | (refine j_kLen rfl ?_; first | refine j_len rfl rfl rfl rfl rfl rfl ?_) | (refine j_kCall rfl rfl rfl rfl ?_; first | refine jc (c_l01Full K _ _ hr hp) (LeL.refl _) rfl rfl ?_))
      | refine j_nil ?_
      | (refine j_goO ?_; first
        | refine j_op0O rfl rfl rfl rfl ?_ | (refine j_kCallO rfl rfl rfl rfl ?_; first | refine jcO (c_l00Own _ (by omega)) (LeL.refl _) rfl rfl ?_) | (refine j_kLoadO rfl ?_; first | refine j_mloadO 0 rfl rfl rfl rfl rfl rfl rfl rfl ?_) | (refine j_kBslO rfl ?_; first | refine j_bslO rfl rfl rfl rfl rfl rfl rfl rfl rfl rfl rfl ?_))
      | (refine r_go ?_; first | refine run_seq ?_ | refine run_region ?_ | (refine (run_if rfl (fun hb => ?_) (fun hb => ?_)) <;> first | (exfalso; omega) | skip) | refine run_ret ?_ | refine run_skip ?_ | refine run_opn 3 [⟨0, false, false, 0⟩, ⟨1, true, false, 0⟩, ⟨2, true, false, 0⟩, ⟨3, true, false, 0⟩, ⟨4, true, false, 0⟩, ⟨5, true, false, 0⟩, ⟨6, true, false, 0⟩, ⟨7, false, true, 0⟩, ⟨8, true, false, 0⟩, ⟨9, false, true, 0⟩] rfl rfl (by kernel_rfl) ?_)
      | refine seqQ_normal ?_ | refine seqQ_ret ?_)
    · have hf := hb
      refine j_appendO 1 (g := encS Go.AI.encI) (ys := vs) [beg] rfl (fun _ hk => nomatch hk) rfl rfl rfl rfl rfl rfl rfl rfl rfl rfl rfl rfl (fun _ => rfl) (fun _ hy => by simp only [List.mem_singleton] at hy; subst hy; rfl) ⟨by simp only [List.length_cons, List.length_nil]; omega, by simp only [List.length_cons, List.length_nil]; omega⟩ rfl rfl (fun ob' cap' => ?_)
      repeat' (first
      | (refine j_goO ?_; first
        | refine j_op0O rfl rfl rfl rfl ?_ | (refine j_kStoreO rfl ?_; first | refine j_storeO 0 rfl rfl rfl rfl rfl rfl rfl rfl rfl rfl rfl rfl (by first | (intro _ hk; exact absurd hk List.not_mem_nil) | (intro k hk; simp at hk ⊢; try simp [hk])) ?_))
      | refine j_nilO ?_
      | (refine r_go ?_; first | refine run_ret ?_)
      | refine seqQ_normal ?_ | refine seqQ_ret ?_)
      exact endD_ret (h1 := [_, _]) rfl .nil (Le.refl _) ⟨ob', cap', vs ++ [beg], by simp only [packN, if_pos hf, List.length_append, List.length_cons, List.length_nil]; omega, fun l hl => (List.mem_append.1 hl).elim (hvm l) (fun q => by rw [List.mem_singleton] at q; subst q; exact hbl), rfl⟩ (.inl rfl)
    · have hf := hb
      exact endD_ret (h1 := [_, _]) rfl .nil (Le.refl _) ⟨ob, cap, vs, by simp only [packN, if_neg hf]; omega, hvm, rfl⟩ (.inl rfl)
  | cons p ps ih =>
    intro pre rest beg b N h0 hp hl hr hbl hN H
    have hpp : Ptk K p := hp p (by simp)
    have tb := hpp.tb hr
    have ln : (pre ++ p :: ps).length = pre.length + ps.length + 1 := by simp only [List.length_append, List.length_cons]; omega
    have at1 : (pre ++ p :: ps)[beg.length]'(by omega) = p := at_app hbl _
    have cT := c_l01Times p rest (hpp.tm hr)
    rw [hpp.best hr, ← at1] at cT
    rw [at1] at cT
    have cT' : Gives Tryz.prog 112 [.sl (((pre ++ p :: ps)[beg.length]'(by omega)).map Go.AI.encI), .sl (rest.map Go.AI.encI)] (.int (tms p rest)) := by rw [at1]; exact cT
    have rl := hr.1
    have eqp : pre ++ p :: ps = (pre ++ [p]) ++ ps := by simp
    obtain ⟨ob, cap, vs, hvs, hvm, rfl⟩ := H
    refine fn_of_runD tyOk ztOk mix Tryz.func91 rfl (by decide) Tryz.ntmps91 (fun w0 F => ?_)
    change Run _ _ _ _ _ (_ :: _ :: F)
    repeat' (first
      | (refine j_go ?_; first
        | refine j_op0 rfl rfl rfl rfl ?_ | (refine j_kLen rfl ?_; first | refine j_len rfl rfl rfl rfl rfl rfl ?_))
      | refine j_nil ?_
      | (refine r_go ?_; first | refine run_seq ?_ | refine run_region ?_ | (refine (run_if rfl (fun hb => ?_) (fun hb => ?_)) <;> first | (exfalso; omega) | skip) | refine run_block ?_ | refine run_skip ?_)
      | refine seqQ_normal ?_)
    refine run_loop (fun x : Nat × (Option Nat × Nat) × List (List Int) => [(0, .sl (rest.map Go.AI.encI)), (1, .sl ((pre ++ p :: ps).map (encS Go.AI.encI))), (2, .sl (beg.map Go.AI.encI)), (3, .op (some b) 0), (8, .int beg.length), (9, .int (x.1 : Int))])
      (fun x => ⟨some b, 29, 1, [.os x.2.1.1 x.2.2.length x.2.1.2]⟩ :: ⟨x.2.1.1, 24, x.2.1.2 * 1, (x.2.2.map (encS Go.AI.encI)).flatten⟩ :: F)
      (fun x => x.1 ≤ (tms p rest).toNat + 1 ∧ x.2.2.length = min 2001 (N + sumN (fun n => packN (pre ++ p :: ps) ps (plusL rest p (0 - (n : Int)))) x.1) ∧ ∀ l ∈ x.2.2, l.length = (pre ++ p :: ps).length) (fun x => (tms p rest).toNat + 1 - x.1) (0, (ob, cap), vs) ⟨rfl, rfl, rfl, rfl, rfl, rfl, trivial⟩ rfl ⟨Nat.zero_le _, by simp only [sumN]; omega, hvm⟩ (fun ⟨n, ⟨ob, cap⟩, vs⟩ ⟨kl, kv, km⟩ => ?_)
    dsimp only at kl kv km ⊢
    by_cases hn : (n : Int) ≤ tms p rest
    · by_cases hs : vs.length ≤ 2000
      · have fit := hpp.fits hr (n := (n : Int)) (by omega) (by omega)
        have cP' : Gives Tryz.prog 113 [.sl (rest.map Go.AI.encI), .sl (((pre ++ p :: ps)[beg.length]'(by omega)).map Go.AI.encI), .int (0 - (n : Int))] (.sl ((plusL rest p (0 - (n : Int))).map Go.AI.encI)) := by rw [at1]; exact c_l01Plus _ _ _ fit
        have IH := ih (pre ++ [p]) (plusL rest p (0 - (n : Int))) (beg ++ [(n : Int)]) b vs.length _ (by rw [← eqp]; exact hp) (by rw [← eqp]; exact hl) (hpp.left hr (by omega) hn) (by simp [hbl]) hs ⟨ob, cap, vs, rfl, by rw [← eqp]; exact km, rfl⟩
        rw [← eqp] at IH
        repeat' (first
      | (refine j_go ?_; first
        | refine j_op0 rfl rfl rfl rfl ?_ | (refine j_kIdx rfl ?_; first | refine j_idx rfl rfl rfl rfl rfl (by omega) rfl rfl rfl ?_) | (refine j_kBin rfl ?_; first | refine j_in rfl rfl ⟨by omega, by omega⟩ rfl rfl ?_) | (refine j_kLen rfl ?_; first | refine j_op rfl rfl rfl rfl ?_) | (refine j_kCall rfl rfl rfl rfl ?_; first | refine jc (cT') (LeL.refl _) rfl rfl ?_ | refine jc (cP') (LeL.refl _) rfl rfl ?_) | (refine j_kLoad rfl ?_; first | refine j_mload 0 rfl rfl rfl rfl rfl rfl rfl ?_) | (refine j_kGuard rfl ?_; first | (refine (j_if rfl rfl rfl (fun hb => ?_) (fun hb => ?_)) <;> first | (exfalso; omega) | skip)) | refine j_in rfl rfl ⟨by omega, by omega⟩ rfl rfl ?_)
      | refine j_nil ?_
      | (refine r_go ?_; first | refine run_seq ?_ | refine run_region ?_ | (refine (run_if rfl (fun hb => ?_) (fun hb => ?_)) <;> first | (exfalso; omega) | skip) | refine run_block ?_ | refine run_skip ?_)
      | refine seqQ_normal ?_)
        refine j_kCall rfl rfl rfl rfl ?_
        refine jcp _ (o_l00Own beg (by omega)) (List.Perm.refl _) (LeL.refl _) rfl rfl (fun v h1 hR => ?_)
        obtain ⟨ob1, cp1, rfl, rfl⟩ := hR
        repeat' (first
      | (refine j_go ?_; first
        | refine j_op0 rfl rfl rfl rfl ?_ | (refine j_kBsl rfl ?_; first | refine j_bsl rfl rfl rfl rfl rfl rfl rfl rfl rfl rfl rfl ?_)))
        refine j_append 0 (g := Go.AI.encI) (ys := beg) [(n : Int)] rfl rfl rfl rfl rfl rfl rfl rfl rfl rfl rfl rfl (fun _ => rfl) (fun _ hy => by simp only [List.mem_singleton] at hy; subst hy; rfl) ⟨by simp only [List.length_cons, List.length_nil]; omega, by simp only [List.length_cons, List.length_nil]; omega⟩ rfl rfl (fun ob2 cp2 => ?_)
        refine j_view (view_freeze (g := Go.AI.encI) (z := 1) (ys := beg ++ [(n : Int)]) 0 58 rfl rfl rfl (fun _ => rfl) rfl rfl) ?_
        repeat' (first
      | (refine j_go ?_; first
        | refine j_op0 rfl rfl rfl rfl ?_))
        refine j_kCall rfl rfl rfl rfl ?_
        refine jcp F IH (List.Perm.refl _) (LeL.refl _) rfl rfl (fun v h1 hR => ?_)
        obtain ⟨ob3, cp3, vs3, hv3, hm3, rfl⟩ := hR
        repeat' (first
      | (refine j_go ?_; first
        | refine j_op0 rfl rfl rfl rfl ?_ | (refine j_kBin rfl ?_; first | refine j_in rfl rfl ⟨by omega, by omega⟩ rfl rfl ?_) | refine j_in rfl rfl ⟨by omega, by omega⟩ rfl rfl ?_)
      | refine j_nil ?_
      | (refine r_go ?_; first | refine run_region ?_)
      | refine seqQ_normal ?_ | refine blockQ_normal ?_)
        exact loopQ_next (n + 1, (ob3, cp3), vs3) ⟨by dsimp only; omega, by dsimp only; rw [hv3, sumN]; omega, hm3⟩ (by dsimp only; omega) rfl ⟨rfl, rfl, rfl, rfl, rfl, nx _, trivial⟩
      · repeat' (first
      | (refine j_go ?_; first
        | refine j_op0 rfl rfl rfl rfl ?_ | (refine j_kIdx rfl ?_; first | refine j_idx rfl rfl rfl rfl rfl (by omega) rfl rfl rfl ?_) | (refine j_kLen rfl ?_; first | refine j_op rfl rfl rfl rfl ?_) | (refine j_kCall rfl rfl rfl rfl ?_; first | refine jc (cT') (LeL.refl _) rfl rfl ?_) | (refine j_kLoad rfl ?_; first | refine j_mload 0 rfl rfl rfl rfl rfl rfl rfl ?_) | (refine j_kGuard rfl ?_; first | (refine (j_if rfl rfl rfl (fun hb => ?_) (fun hb => ?_)) <;> first | (exfalso; omega) | skip)))
      | refine j_nil ?_
      | (refine r_go ?_; first | refine run_seq ?_ | refine run_region ?_ | (refine (run_if rfl (fun hb => ?_) (fun hb => ?_)) <;> first | (exfalso; omega) | skip) | refine run_exit ?_)
      | refine seqQ_normal ?_ | refine seqQ_exit ?_ | refine blockQ_eq ?_ | refine loopQ_exit ?_)
        have mo := sumN_mono (f := fun n => packN (pre ++ p :: ps) ps (plusL rest p (0 - (n : Int)))) (a := n) (b := (tms p rest).toNat + 1) (by omega)
        exact endD_ret (h1 := [_, _]) rfl .nil (Le.refl _) ⟨ob, cap, vs, by rw [kv, packN]; omega, km, rfl⟩ (.inr rfl)
    · have hne : n = (tms p rest).toNat + 1 := by omega
      repeat' (first
      | (refine j_go ?_; first
        | refine j_op0 rfl rfl rfl rfl ?_ | refine j_off rfl rfl rfl ?_ | (refine j_kIdx rfl ?_; first | refine j_idx rfl rfl rfl rfl rfl (by omega) rfl rfl rfl ?_) | (refine j_kCall rfl rfl rfl rfl ?_; first | refine jc (cT') (LeL.refl _) rfl rfl ?_) | (refine j_kGuard rfl ?_; first | (refine (j_if rfl rfl rfl (fun hb => ?_) (fun hb => ?_)) <;> first | (exfalso; omega) | skip)))
      | refine j_nil ?_
      | (refine r_go ?_; first | refine run_seq ?_ | refine run_region ?_ | refine run_cond_f rfl ?_ | refine run_exit ?_)
      | refine seqQ_normal ?_ | refine seqQ_exit ?_ | refine blockQ_eq ?_ | refine loopQ_exit ?_)
      exact endD_ret (h1 := [_, _]) rfl .nil (Le.refl _) ⟨ob, cap, vs, by rw [kv, packN, hne], km, rfl⟩ (.inr rfl)
theorem o_l01AllW (K : Nat) (bag : List Int) (parts : List (List Int)) (hp : ∀ p ∈ parts, Ptk K p) (hl : parts.length ≤ 1000000) (hbg : Bgk K bag) (h16 : tot bag ≤ 16) : Does Tryz.prog 71 [.sl (bag.map Go.AI.encI), .sl (parts.map (encS Go.AI.encI))] []
    (fun v h' => h' = [] ∧ (packN parts parts bag ≤ 2000 → ∃ L : List (List Int), (L.length = packN parts parts bag ∧ ∀ l ∈ L, l.length = parts.length) ∧ v = .tup [.sl (L.map (encS Go.AI.encI)), .int 0]) ∧ (2000 < packN parts parts bag → ∃ x, v = .tup [x, .int 3])) := by
  refine fn_of_runD tyOk ztOk mix Tryz.func71 rfl (by decide) Tryz.ntmps71 (fun w0 F => ?_)
  change Run _ _ _ _ _ F
  have hsm : Small bag := by have := hbg.1; exact Bag.small ⟨hbg.2, by omega, by omega⟩
  repeat' (first
      | (refine j_go ?_; first
        | refine j_op0 rfl rfl rfl rfl ?_ | (refine j_kCall rfl rfl rfl rfl ?_; first | refine jc (c_l01Size _ hsm) (LeL.refl _) rfl rfl ?_) | (refine j_kStore rfl ?_; first | refine j_store 0 rfl rfl rfl rfl rfl rfl rfl rfl rfl rfl rfl ?_) | (refine j_kBsl rfl ?_; first | refine j_bs0 rfl rfl rfl rfl rfl rfl ?_) | refine j_alloc rfl rfl rfl rfl rfl (fun _ => ?_))
      | refine j_nil ?_
      | (refine r_go ?_; first | refine run_seq ?_ | refine run_region ?_ | (refine (run_if rfl (fun hb => ?_) (fun hb => ?_)) <;> first | (exfalso; omega) | skip) | refine run_skip ?_)
      | refine seqQ_normal ?_)
  rename_i b6
  refine j_view (view_none 24 0 rfl) ?_
  refine j_kCall rfl rfl rfl rfl ?_
  refine jcp F (o_l01PackW K parts [] bag [] b6 0 _ hp (by simpa using hl) hbg rfl (by omega) ⟨none, 0, [], rfl, fun _ q => absurd q List.not_mem_nil, rfl⟩) (List.Perm.swap _ _ _) (LeL.cons (Le.refl _) (LeL.cons (Le.refl _) (LeL.cons (Le.nil 0) (LeL.cons (Le.refl _) LeL.nil)))) rfl rfl (fun v h1 hR => ?_)
  obtain ⟨ob, cp, vs, hvs, hvm, rfl⟩ := hR
  rw [Nat.zero_add] at hvs
  have e0 : packN ([] ++ parts) parts bag = packN parts parts bag := rfl
  rw [e0] at hvs
  have hvm : ∀ l ∈ vs, l.length = parts.length := hvm
  repeat' (first
      | (refine j_go ?_; first
        | refine j_op0 rfl rfl rfl rfl ?_ | (refine j_kLen rfl ?_; first | refine j_op rfl rfl rfl rfl ?_) | (refine j_kLoad rfl ?_; first | refine j_mload 0 rfl rfl rfl rfl rfl rfl rfl ?_) | (refine j_kBsl rfl ?_; first | refine j_bs0 rfl rfl rfl rfl rfl rfl ?_))
      | refine j_nil ?_
      | (refine r_go ?_; first | refine run_seq ?_ | refine run_region ?_ | (refine (run_if rfl (fun hb => ?_) (fun hb => ?_)) <;> first | (exfalso; omega) | skip) | refine run_ret ?_ | refine run_skip ?_)
      | refine seqQ_normal ?_ | refine seqQ_ret ?_)
  · refine endD_view (view_sub (h0 := F) (by exact List.Sublist.cons _ (List.Sublist.cons _ (List.Sublist.refl _)))) ?_
    exact endD_ret (h1 := []) rfl (.cons (.tmp rfl) (.cons (.tmp rfl) .nil)) (Le.refl _) ⟨rfl, fun q => by omega, fun _ => ⟨_, rfl⟩⟩ (.inl rfl)
  · refine endD_view (view_freeze (g := encS Go.AI.encI) (z := 1) (ys := vs) 1 4 rfl rfl rfl (fun _ => rfl) rfl rfl) ?_
    refine endD_view (view_erase 0) ?_
    exact endD_ret (h1 := []) rfl (.cons (.tmp rfl) (.cons (.tmp rfl) .nil)) (Le.refl _) ⟨rfl, fun q => ⟨vs, ⟨by omega, hvm⟩, rfl⟩, fun q => by omega⟩ (.inl rfl)
end Go.Proofs.YtkfmjjoalkoncaaGreat

/-
  Packings of the reference, each cell's: so many lists, each of so many counts. No condition.
-/
namespace Go.Proofs.YtkfmjjoalkoncaaGreat
open Go.AI
set_option maxRecDepth 8000
set_option maxHeartbeats 1600000
/-- So many lists, each of so many counts, as those of X. -/
def ShL (P : List (List (List Int))) (X : List (List Int × List (List Int))) : Prop := P.length = X.length ∧ ∀ i (h : i < P.length) (h2 : i < X.length), P[i].length = X[i].2.length ∧ ∀ l ∈ P[i], l.length = X[i].1.length
theorem ShL.snoc {P : List (List (List Int))} {X : List (List Int × List (List Int))} (H : ShL P X) {p : List (List Int)} {x : List Int × List (List Int)} (h1 : p.length = x.2.length) (h2 : ∀ l ∈ p, l.length = x.1.length) : ShL (P ++ [p]) (X ++ [x]) := by
  refine ⟨by simp [H.1], fun i h h3 => ?_⟩
  by_cases hi : i < P.length
  · rw [List.getElem_append_left hi, List.getElem_append_left (by have := H.1; omega)]; exact H.2 i hi _
  · have e : i = P.length := by simp at h; omega
    have e2 : i = X.length := by have := H.1; omega
    subst e
    rw [List.getElem_append_right (by omega), List.getElem_append_right (by omega)]
    simp only [H.1, Nat.sub_self, List.getElem_cons_zero]
    exact ⟨h1, h2⟩
theorem o_l03PackingsW (s : System) (t : State) (hv : s.Ok) (ht : s.StateOk t) : Does Tryz.prog 39 [.ip (encSystem s), .ip (encState t)] []
    (fun v h' => h' = [] ∧ (¬ (Big16 s t s.parents.length ∨ Big2 s t s.parents.length) → ∃ P, ShL P (cellsL s t s.parents.length) ∧ v = .tup [.sl (((cellsL s t s.parents.length).map Prod.fst).map (encS Go.AI.encI)), .sl (P.map (encS (encS Go.AI.encI))), .int 0]) ∧
      ((Big16 s t s.parents.length ∨ Big2 s t s.parents.length) → ∃ x y, v = .tup [x, y, .int 3])) := by
  refine fn_of_runD tyOk ztOk mix Tryz.func39 rfl (by decide) Tryz.ntmps39 (fun w0 F => ?_)
  change Run _ _ _ _ _ F
  have h6 := hv.1.2.1
  have h16 := hv.2.1
  have hbl := ht.2.1
  repeat' (first
      | (refine j_go ?_; first
        | refine j_op0 rfl rfl rfl rfl ?_ | (refine j_kCall rfl rfl rfl rfl ?_; first | refine jc (c_l03Applicable _ _ hv ht) (LeL.refl _) rfl rfl ?_) | (refine j_kBsl rfl ?_; first | refine j_bs0 rfl rfl rfl rfl rfl rfl ?_))
      | refine j_nil ?_
      | (refine r_go ?_; first | refine run_seq ?_ | refine run_region ?_ | refine run_block ?_)
      | refine seqQ_normal ?_)
  refine run_loop (fun c : Nat => [(0, .ip (encSystem s)), (1, .ip (encState t)), (7, .sl ((appL s t).map encB)), (8, .os none 0 0), (9, .os none 0 0), (10, .int (c : Int))]) (fun _ => F) (fun c => c ≤ s.parents.length ∧ ¬ Big16 s t c) (fun c => s.parents.length - c) 0 ⟨rfl, rfl, rfl, rfl, rfl, rfl, trivial⟩ rfl ⟨Nat.zero_le _, fun ⟨c, h, _⟩ => absurd h (Nat.not_lt_zero _)⟩ (fun c ⟨cl, cp⟩ => ?_)
  have ixl := cIx_len s t (c : Int) s.rules.length
  by_cases hc : c < s.parents.length
  · have hcb : c < t.bags.length := by omega
    have bk := bag_bgk hv ht hcb
    have bg : t.bags.getD c [] = t.bags[c] := getD_get hcb
    have hsm : Small t.bags[c] := Bag.small ⟨bk.2, by have := bk.1; omega, by have := bk.1; omega⟩
    by_cases hne : ndC s t c = []
    · have z : (cIx s t (c : Int) s.rules.length).length = 0 := by
        have : (ndC s t c).length = 0 := by rw [hne]; rfl
        unfold ndC at this; omega
      repeat' (first
      | (refine j_go ?_; first
        | refine j_op0 rfl rfl rfl rfl ?_ | refine j_off rfl rfl rfl ?_ | (refine j_kBin rfl ?_; first | refine j_in rfl rfl ⟨by omega, by omega⟩ rfl rfl ?_) | (refine j_kLen rfl ?_; first | refine j_len rfl rfl rfl rfl rfl rfl ?_) | (refine j_kCall rfl rfl rfl rfl ?_; first | refine jc (c_l03Cell _ _ _ hv) (LeL.refl _) rfl rfl ?_) | (refine j_kGuard rfl ?_; first | (refine (j_if rfl rfl rfl (fun hb => ?_) (fun hb => ?_)) <;> first | (exfalso; omega) | skip)))
      | refine j_nil ?_
      | (refine r_go ?_; first | refine run_seq ?_ | refine run_region ?_ | refine run_cond_f rfl ?_ | (refine (run_if rfl (fun hb => ?_) (fun hb => ?_)) <;> first | (exfalso; omega) | skip) | refine run_block ?_ | refine run_skip ?_)
      | refine seqQ_normal ?_ | refine blockQ_normal ?_)
      all_goals first
        | exact loopQ_next (c + 1) ⟨by omega, fun ⟨d, h1, h2, h3⟩ => by
            by_cases e : d = c
            · subst e; exact h2 hne
            · exact cp ⟨d, by omega, h2, h3⟩⟩ (by omega) rfl ⟨rfl, rfl, rfl, rfl, rfl, nx _, trivial⟩
        | trace_state
    · have z : 0 < (cIx s t (c : Int) s.rules.length).length := by
        have : 0 < (ndC s t c).length := List.length_pos_iff.2 hne
        unfold ndC at this; omega
      repeat' (first
      | (refine j_go ?_; first
        | refine j_op0 rfl rfl rfl rfl ?_ | (refine j_kIdx rfl ?_; first | refine j_idx rfl rfl rfl rfl rfl (by omega) rfl rfl rfl ?_) | (refine j_kBin rfl ?_; first | refine j_in rfl rfl ⟨by omega, by omega⟩ rfl rfl ?_) | (refine j_kLen rfl ?_; first | refine j_len rfl rfl rfl rfl rfl rfl ?_) | (refine j_kCall rfl rfl rfl rfl ?_; first | refine jc (c_l03Cell _ _ _ hv) (LeL.refl _) rfl rfl ?_ | refine jc (c_l01Size _ hsm) (LeL.refl _) rfl rfl ?_) | (refine j_kGuard rfl ?_; first | (refine (j_if rfl rfl rfl (fun hb => ?_) (fun hb => ?_)) <;> first | (exfalso; omega) | skip)))
      | refine j_nil ?_
      | (refine r_go ?_; first | refine run_seq ?_ | refine run_region ?_ | (refine (run_if rfl (fun hb => ?_) (fun hb => ?_)) <;> first | (exfalso; omega) | skip) | refine run_block ?_ | refine run_ret ?_ | refine run_skip ?_)
      | refine seqQ_normal ?_ | refine seqQ_ret ?_ | refine blockQ_normal ?_ | refine blockQ_ret ?_ | refine loopQ_ret ?_)
      all_goals first
        | (have hB : Big16 s t s.parents.length := ⟨c, hc, hne, by rw [bg]; omega⟩
           exact endD_ret (h1 := []) rfl (.cons (.tmp rfl) (.cons (.tmp rfl) (.cons (.tmp rfl) .nil))) (Le.refl _) ⟨rfl, fun q => absurd (.inl hB) q, fun _ => ⟨_, _, rfl⟩⟩ (.inl rfl))
        | exact loopQ_next (c + 1) ⟨by omega, fun ⟨d, h1, h2, h3⟩ => by
            by_cases e : d = c
            · subst e; rw [bg] at h3; omega
            · exact cp ⟨d, by omega, h2, h3⟩⟩ (by omega) rfl ⟨rfl, rfl, rfl, rfl, rfl, nx _, trivial⟩
        | trace_state
  have hce : c = s.parents.length := by omega
  subst hce
  have hno := cp
  repeat' (first
      | (refine j_go ?_; first
        | refine j_op0 rfl rfl rfl rfl ?_ | (refine j_kLen rfl ?_; first | refine j_len rfl rfl rfl rfl rfl rfl ?_))
      | refine j_nil ?_
      | (refine r_go ?_; first | refine run_seq ?_ | refine run_region ?_ | (refine (run_if rfl (fun hb => ?_) (fun hb => ?_)) <;> first | (exfalso; omega) | skip) | refine run_block ?_ | refine run_exit ?_)
      | refine seqQ_normal ?_ | refine seqQ_exit ?_ | refine blockQ_eq ?_ | refine loopQ_exit ?_)
  refine run_view (view_none 79 0 rfl) ?_
  refine run_view (view_none 29 0 rfl) ?_
  refine run_loop (fun x : Nat × (Option Nat × Nat) × (Option Nat × Nat) × List (List (List Int)) => [(0, .ip (encSystem s)), (1, .ip (encState t)), (7, .sl ((appL s t).map encB)), (8, .os x.2.1.1 ((cellsL s t x.1).map Prod.fst).length x.2.1.2), (9, .os x.2.2.1.1 x.2.2.2.length x.2.2.1.2), (13, .int (x.1 : Int))])
    (fun x => ⟨x.2.2.1.1, 29, x.2.2.1.2 * 1, (x.2.2.2.map (encS (encS Go.AI.encI))).flatten⟩ :: ⟨x.2.1.1, 79, x.2.1.2 * 1, (((cellsL s t x.1).map Prod.fst).map (encS Go.AI.encI)).flatten⟩ :: F) (fun x => x.1 ≤ s.parents.length ∧ ShL x.2.2.2 (cellsL s t x.1) ∧ ¬ Big2 s t x.1) (fun x => s.parents.length - x.1) (0, (none, 0), (none, 0), []) ⟨rfl, rfl, rfl, rfl, rfl, rfl, trivial⟩ rfl
    ⟨Nat.zero_le _, ⟨rfl, fun i h => absurd h (Nat.not_lt_zero _)⟩, fun ⟨c, h, _⟩ => absurd h (Nat.not_lt_zero _)⟩ (fun ⟨c, ⟨or_, cr⟩, ⟨oa, ca⟩, vs⟩ ⟨cl, lo, cp⟩ => ?_)
  dsimp only at cl lo cp ⊢
  have ixl := cIx_len s t (c : Int) s.rules.length
  have cll := cellsL_len s t c
  have vl : vs.length ≤ c := by rw [lo.1]; exact cll
  have rl : ((cellsL s t c).map Prod.fst).length ≤ c := by rw [List.length_map]; exact cll
  by_cases hc : c < s.parents.length
  · have hcb : c < t.bags.length := by omega
    have bk := bag_bgk hv ht hcb
    have bg : t.bags.getD c [] = t.bags[c] := getD_get hcb
    by_cases hne : ndC s t c = []
    · have z : (cIx s t (c : Int) s.rules.length).length = 0 := by
        have : (ndC s t c).length = 0 := by rw [hne]; rfl
        unfold ndC at this; omega
      have e : cellsL s t (c + 1) = cellsL s t c := by rw [cellsL, if_pos hne]
      repeat' (first
      | (refine j_go ?_; first
        | refine j_op0 rfl rfl rfl rfl ?_ | (refine j_kBin rfl ?_; first | refine j_in rfl rfl ⟨by omega, by omega⟩ rfl rfl ?_) | (refine j_kLen rfl ?_; first | refine j_len rfl rfl rfl rfl rfl rfl ?_) | (refine j_kCall rfl rfl rfl rfl ?_; first | refine jc (c_l03Cell _ _ _ hv) (LeL.refl _) rfl rfl ?_))
      | refine j_nil ?_
      | (refine r_go ?_; first | refine run_seq ?_ | refine run_region ?_ | (refine (run_if rfl (fun hb => ?_) (fun hb => ?_)) <;> first | (exfalso; omega) | skip) | refine run_block ?_ | refine run_exit ?_ | refine run_skip ?_)
      | refine seqQ_normal ?_ | refine seqQ_exit ?_ | refine blockQ_eq ?_)
      all_goals first
        | exact loopQ_next (c + 1, (or_, cr), (oa, ca), vs) ⟨by dsimp only; omega, by dsimp only; rw [e]; exact lo, fun ⟨d, h1, h2, h3⟩ => by
            by_cases e : d = c
            · subst e; exact h2 hne
            · exact cp ⟨d, by omega, h2, h3⟩⟩ (by dsimp only; omega) (by dsimp only; rw [e]) ⟨rfl, rfl, rfl, (by dsimp only; rw [e]; rfl), rfl, nx _, trivial⟩
        | trace_state
    · have z : 0 < (cIx s t (c : Int) s.rules.length).length := by
        have : 0 < (ndC s t c).length := List.length_pos_iff.2 hne
        unfold ndC at this; omega
      have e : cellsL s t (c + 1) = cellsL s t c ++ [(cIx s t (c : Int) s.rules.length, pkC s t c)] := by rw [cellsL, if_neg hne]
      have t16 : tot t.bags[c] ≤ 16 := by
        by_cases q : tot t.bags[c] ≤ 16
        · exact q
        · exact absurd ⟨c, hc, hne, by rw [bg]; omega⟩ hno
      have eN : cN s t c = packN (cNd s t (c : Int) s.rules.length) (cNd s t (c : Int) s.rules.length) t.bags[c] := by unfold cN ndC; rw [bg]
      repeat' (first
      | (refine j_go ?_; first
        | refine j_op0 rfl rfl rfl rfl ?_ | (refine j_kIdx rfl ?_; first | refine j_idx rfl rfl rfl rfl rfl (by omega) rfl rfl rfl ?_) | (refine j_kLen rfl ?_; first | refine j_len rfl rfl rfl rfl rfl rfl ?_) | (refine j_kCall rfl rfl rfl rfl ?_; first | refine jc (c_l03Cell _ _ _ hv) (LeL.refl _) rfl rfl ?_))
      | refine j_nil ?_
      | (refine r_go ?_; first | refine run_seq ?_ | refine run_region ?_ | (refine (run_if rfl (fun hb => ?_) (fun hb => ?_)) <;> first | (exfalso; omega) | skip) | refine run_block ?_ | refine run_skip ?_)
      | refine seqQ_normal ?_)
      all_goals first | (exfalso; omega) | skip
      refine j_kCall rfl rfl rfl rfl ?_
      refine jcp _ (o_l01AllW s.kinds.toNat t.bags[c] (cNd s t (c : Int) s.rules.length) (cNd_ok hv _ _ (Nat.le_refl _)) (by omega) bk t16) (List.Perm.refl _) (LeL.refl _) rfl rfl (fun v h1 hR => ?_)
      obtain ⟨rfl, r1, r2⟩ := hR
      rw [← eN] at r1 r2
      by_cases hN : cN s t c ≤ 2000
      · obtain ⟨PL, ⟨hPL, hPr⟩, rfl⟩ := r1 hN
        repeat' (first
      | (refine j_go ?_; first
        | refine j_op0 rfl rfl rfl rfl ?_ | (refine j_kBsl rfl ?_; first | refine j_bsl rfl rfl rfl rfl rfl rfl rfl rfl rfl rfl rfl ?_))
      | refine j_nil ?_
      | (refine r_go ?_; first | refine run_seq ?_ | refine run_region ?_ | (refine (run_ifn rfl (fun hb => ?_) (fun hb => ?_)) <;> first | (exfalso; omega) | skip) | refine run_skip ?_)
      | refine seqQ_normal ?_)
        all_goals first | (exfalso; omega) | exact absurd rfl (by assumption) | skip
        refine j_append 1 (g := encS Go.AI.encI) (ys := (cellsL s t c).map Prod.fst) [cIx s t (c : Int) s.rules.length] rfl rfl rfl rfl rfl rfl rfl rfl rfl rfl rfl rfl (fun _ => rfl) (fun _ hy => by simp only [List.mem_singleton] at hy; subst hy; rfl) ⟨by simp only [List.length_cons, List.length_nil]; omega, by simp only [List.length_cons, List.length_nil]; omega⟩ rfl rfl (fun or2 cr2 => ?_)
        rw [show (cellsL s t c).map Prod.fst ++ [cIx s t (c : Int) s.rules.length] = (cellsL s t (c + 1)).map Prod.fst from by rw [e, List.map_append]; rfl]
        repeat' (first
      | (refine j_go ?_; first
        | refine j_op0 rfl rfl rfl rfl ?_ | (refine j_kBsl rfl ?_; first | refine j_bsl rfl rfl rfl rfl rfl rfl rfl rfl rfl rfl rfl ?_))
      | refine j_nil ?_
      | (refine r_go ?_; first | refine run_region ?_)
      | refine seqQ_normal ?_)
        refine j_append 0 (g := encS (encS Go.AI.encI)) (ys := vs) [PL] rfl rfl rfl rfl rfl rfl rfl rfl rfl rfl rfl rfl (fun _ => rfl) (fun _ hy => by simp only [List.mem_singleton] at hy; subst hy; rfl) ⟨by simp only [List.length_cons, List.length_nil]; omega, by simp only [List.length_cons, List.length_nil]; omega⟩ rfl rfl (fun oa2 ca2 => ?_)
        repeat' (first
      | (refine j_go ?_; first
        | refine j_op0 rfl rfl rfl rfl ?_ | (refine j_kBin rfl ?_; first | refine j_in rfl rfl ⟨by omega, by omega⟩ rfl rfl ?_))
      | refine j_nil ?_
      | (refine r_go ?_; first | refine run_region ?_)
      | refine seqQ_normal ?_ | refine blockQ_normal ?_)
        exact loopQ_next (c + 1, (or2, cr2), (oa2, ca2), vs ++ [PL]) ⟨by dsimp only; omega, by
          dsimp only; rw [e]
          exact lo.snoc (by dsimp only; rw [pkC_len]; exact hPL) (fun l hl => by dsimp only; rw [hPr l hl]; exact (cIx_len s t (c : Int) s.rules.length).2), fun ⟨d, h1, h2, h3⟩ => by
            by_cases e : d = c
            · subst e; omega
            · exact cp ⟨d, by omega, h2, h3⟩⟩ (by dsimp only; omega) rfl ⟨rfl, rfl, rfl, rfl, rfl, nx _, trivial⟩
      · obtain ⟨x, rfl⟩ := r2 (by omega)
        have hB : Big2 s t s.parents.length := ⟨c, hc, hne, by omega⟩
        repeat' (first
      | (refine j_go ?_; first
        | refine j_op0 rfl rfl rfl rfl ?_)
      | refine j_nil ?_
      | (refine r_go ?_; first | refine run_seq ?_ | refine run_region ?_ | (refine (run_ifn rfl (fun hb => ?_) (fun hb => ?_)) <;> first | (exfalso; omega) | skip) | refine run_ret ?_)
      | refine seqQ_normal ?_ | refine seqQ_ret ?_ | refine blockQ_ret ?_ | refine loopQ_ret ?_)
        all_goals first | (exfalso; omega) | exact absurd rfl (by assumption) | skip
        refine endD_view (view_sub (h0 := F) (by exact List.Sublist.cons _ (List.Sublist.cons _ (List.Sublist.refl _)))) ?_
        exact endD_ret (h1 := []) rfl (.cons (.tmp rfl) (.cons (.tmp rfl) (.cons (.tmp rfl) .nil))) (Le.refl _) ⟨rfl, fun q => absurd (.inr hB) q, fun _ => ⟨_, _, rfl⟩⟩ (.inl rfl)
  · have hce : c = s.parents.length := by omega
    subst hce
    repeat' (first
      | (refine j_go ?_; first
        | refine j_op0 rfl rfl rfl rfl ?_ | (refine j_kLen rfl ?_; first | refine j_len rfl rfl rfl rfl rfl rfl ?_))
      | refine j_nil ?_
      | (refine r_go ?_; first | refine run_seq ?_ | refine run_region ?_ | (refine (run_if rfl (fun hb => ?_) (fun hb => ?_)) <;> first | (exfalso; omega) | skip) | refine run_ret ?_ | refine run_exit ?_)
      | refine seqQ_normal ?_ | refine seqQ_exit ?_ | refine blockQ_eq ?_ | refine loopQ_exit ?_)
    refine endD_view (view_freeze (g := encS (encS Go.AI.encI)) (z := 1) (ys := vs) 0 5 rfl rfl rfl (fun _ => rfl) rfl rfl) ?_
    refine endD_view (view_freeze (g := encS Go.AI.encI) (z := 1) (ys := (cellsL s t s.parents.length).map Prod.fst) 0 4 rfl rfl rfl (fun _ => rfl) rfl rfl) ?_
    exact endD_ret (h1 := []) rfl (.cons (.tmp rfl) (.cons (.tmp rfl) (.cons (.tmp rfl) .nil))) (Le.refl _) ⟨rfl, fun _ => ⟨vs, lo, rfl⟩, fun q => absurd q (fun q => q.elim hno cp)⟩ (.inl rfl)
theorem c_l03Count (P : List (List (List Int))) : Gives Tryz.prog 40 [.sl (P.map (encS (encS Go.AI.encI)))] (.int (prodK (P.map List.length) P.length)) := by
  refine fn_of_run tyOk ztOk mix Tryz.func40 rfl (by decide) Tryz.ntmps40 (fun w0 h => ?_)
  refine run_len (t := 0) rfl (fun hl => ?_)
  rw [List.length_map] at hl
  repeat' (first
      | (refine j_go ?_; first
        | refine j_op0 rfl rfl rfl rfl ?_)
      | refine j_nil ?_
      | (refine r_go ?_; first | refine run_seq ?_ | refine run_region ?_ | refine run_block ?_)
      | refine seqQ_normal ?_)
  refine run_loop (fun k : Nat => [(0, .sl (P.map (encS (encS Go.AI.encI)))), (3, .int (prodK (P.map List.length) k)), (4, .int (k : Int))]) (fun _ => _) (fun k => k ≤ P.length ∧ (True)) (fun k => P.length - k) 0 ⟨rfl, (by first | rfl | exact si (by first | omega | (simp; done) | (simp [sumF]; done) | (simp; omega)) | exact raw_f (by simp) | exact raw_t (by simp) | exact sa (by first | (rw [catK_zero]; rfl) | (rw [catK_zero, List.append_nil]; rfl) | (rw [catK_zero, List.append_nil]) | (rw [joinK_zero, List.append_nil]; rfl) | (rw [joinK_zero, List.append_nil]) | (simp [catK]; done))), rfl, trivial⟩ rfl ⟨Nat.zero_le _, by first | (intros; omega) | (simp; done) | rfl | trivial | exact ⟨by simp [sumF], by intros; omega⟩ | exact ⟨by omega, by simp⟩⟩ (fun k ⟨kl, kp⟩ => ?_)
  by_cases hk : k < P.length
  · repeat' (first
      | (refine j_go ?_; first
        | refine j_op0 rfl rfl rfl rfl ?_ | (refine j_kIdx rfl ?_; first | refine j_idx rfl rfl rfl rfl rfl (by omega) rfl rfl rfl ?_) | (refine j_kLen rfl ?_; first | refine j_len rfl rfl rfl rfl rfl rfl ?_))
      | refine j_nil ?_
      | (refine r_go ?_; first | refine run_seq ?_ | refine run_region ?_ | (refine (run_if rfl (fun hb => ?_) (fun hb => ?_)) <;> first | (exfalso; omega) | skip) | refine run_block ?_ | refine run_skip ?_)
      | refine seqQ_normal ?_)
    refine j_op rfl rfl rfl rfl ?_
    repeat' (first
      | (refine j_go ?_; first
        | refine j_op0 rfl rfl rfl rfl ?_ | (refine j_kBin rfl ?_; first | refine j_in rfl rfl ⟨by omega, by omega⟩ rfl rfl ?_))
      | refine j_nil ?_
      | (refine r_go ?_; first | refine run_region ?_)
      | refine seqQ_normal ?_ | refine blockQ_normal ?_)
    exact loopQ_next (k + 1) ⟨by omega, trivial⟩ (by omega) rfl ⟨rfl, si (by rw [prodK, getD_get (by simpa using hk), List.getElem_map]), nx _, trivial⟩
  · have hke : k = P.length := by omega
    subst hke
    repeat' (first
      | (refine j_go ?_; first
        | refine j_op0 rfl rfl rfl rfl ?_ | (refine j_kLen rfl ?_; first | refine j_len rfl rfl rfl rfl rfl rfl ?_))
      | refine j_nil ?_
      | (refine r_go ?_; first | refine run_seq ?_ | refine run_region ?_ | (refine (run_if rfl (fun hb => ?_) (fun hb => ?_)) <;> first | (exfalso; omega) | skip) | refine run_ret ?_ | refine run_exit ?_)
      | refine seqQ_normal ?_ | refine seqQ_exit ?_ | refine blockQ_eq ?_ | refine loopQ_exit ?_)
    exact end1 rfl (List.Sublist.refl _) (rfl) (.inl rfl)
theorem lensK_cells (s : System) (t : State) : ∀ c, lensK s t c = (cellsL s t c).map fun x => x.2.length
  | 0 => rfl
  | c + 1 => by
    rw [lensK, cellsL]
    split
    · exact lensK_cells s t c
    · rw [List.map_append, lensK_cells s t c, List.map_cons, List.map_nil, pkC_len]
theorem ShL.lens {P : List (List (List Int))} {X : List (List Int × List (List Int))} (H : ShL P X) : P.map List.length = X.map fun x => x.2.length :=
  List.ext_getElem (by rw [List.length_map, List.length_map, H.1]) fun i h1 h2 => by
    rw [List.getElem_map, List.getElem_map]
    exact (H.2 i (by simpa using h1) (by simpa using h2)).1
end Go.Proofs.YtkfmjjoalkoncaaGreat
