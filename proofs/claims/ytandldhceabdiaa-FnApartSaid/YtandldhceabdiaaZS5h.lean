/-
  Packings: how many there are; the reference's side. No condition.
-/
import Derived.Test.YtandldhceabdiaaZS5c
import Derived.Test.YtandldhceabdiaaZJO
namespace Go.Proofs.Ytandldhceabdiaa
open Go.AI
set_option maxRecDepth 8000
set_option maxHeartbeats 1600000

def sumN (f : Nat → Nat) : Nat → Nat
  | 0 => 0
  | k + 1 => sumN f k + f k
theorem sumN_mono {f : Nat → Nat} {a b : Nat} (h : a ≤ b) : sumN f a ≤ sumN f b := by
  induction b with
  | zero => rw [Nat.le_zero.1 h]; exact Nat.le_refl _
  | succ b ih =>
    rcases Nat.lt_or_eq_of_le h with q | rfl
    · exact Nat.le_trans (ih (by omega)) (Nat.le_add_right _ _)
    · exact Nat.le_refl _
/-- None of the parts is within a rest. -/
def fullP (parts : List (List Int)) (rest : List Int) : Prop := ∀ p ∈ parts, ¬ Within p rest
open Classical in
/-- The number of packings. -/
noncomputable def packN (parts : List (List Int)) : List (List Int) → List Int → Nat
  | [], rest => if fullP parts rest then 1 else 0
  | p :: ps, rest => sumN (fun n => packN parts ps (plusL rest p (0 - (n : Int)))) ((tms p rest).toNat + 1)
/-- A bag of so many kinds; one that is not empty. -/
def Bgk (K : Nat) (b : List Int) : Prop := (b.length = K ∧ 1 ≤ K ∧ K ≤ 8) ∧ ∀ x ∈ b, 0 ≤ x ∧ x ≤ 1000
def Ptk (K : Nat) (b : List Int) : Prop := Bgk K b ∧ ¬ tot b = 0
theorem Ptk.tm {K : Nat} {a b : List Int} (ha : Ptk K a) (hb : Bgk K b) : TmOk a b := ⟨by rw [ha.1.1.1, hb.1.1], by have := ha.1.1; omega, ha.1.2, hb.2⟩
theorem Ptk.best {K : Nat} {a b : List Int} (ha : Ptk K a) (hb : Bgk K b) : bestK a b a.length = tms a b := best_eq hb.2 (by rw [ha.1.1.1, hb.1.1]; exact Nat.le_refl _) ha.1.2 ha.2
theorem Ptk.left {K : Nat} {a b : List Int} (ha : Ptk K a) (hb : Bgk K b) {n : Int} (h0 : 0 ≤ n) (hn : n ≤ tms a b) : Bgk K (plusL b a (0 - n)) := by
  have hl := ha.1.1.1
  have hl2 := hb.1.1
  refine ⟨⟨by unfold plusL; rw [List.length_zipWith]; omega, hb.1.2⟩, fun x hx => ?_⟩
  unfold plusL at hx
  obtain ⟨i, hi, rfl⟩ := List.getElem_of_mem hx
  rw [List.length_zipWith] at hi
  rw [List.getElem_zipWith]
  have h1 := ha.1.2 _ (List.getElem_mem (n := i) (by omega))
  have h2 := hb.2 _ (List.getElem_mem (n := i) (by omega))
  by_cases q : 0 < a[i]'(by omega)
  · have h4 := tmsK_le (b := b) (by omega) (by omega : i < a.length) q a.length (Nat.le_refl _) (by omega)
    have h5 := div_bnd h2 q
    have h6 : a[i]'(by omega) * n ≤ b[i]'(by omega) := by
      have : n ≤ b[i]'(by omega) / a[i]'(by omega) := Int.le_trans hn h4
      have h7 := Int.mul_le_mul_of_nonneg_left this h1.1
      have h8 := h5.2.2
      rw [Int.mul_comm] at h8
      omega
    have h7 : 0 ≤ a[i]'(by omega) * n := Int.mul_nonneg h1.1 h0
    rw [Int.mul_sub, Int.mul_zero]
    omega
  · have e : a[i]'(by omega) = 0 := by omega
    rw [e, Int.zero_mul]; omega
theorem Ptk.fits {K : Nat} {a b : List Int} (ha : Ptk K a) (hb : Bgk K b) {n : Int} (h0 : 0 ≤ n) (hn : n ≤ 1000) : Fits b a (0 - n) := by
  have hl := ha.1.1
  have hl2 := hb.1.1
  refine ⟨by omega, by omega, fun x hx => by have := hb.2 x hx; omega, fun y hy => ?_⟩
  have := neg_mul_bnd (ha.1.2 y hy) ⟨h0, hn⟩
  omega
theorem Ptk.tb {K : Nat} {a b : List Int} (ha : Ptk K a) (hb : Bgk K b) : 0 ≤ tms a b ∧ tms a b ≤ 1000 := tms_bnd (ha.tm hb)

theorem c_l01Full (K : Nat) (rest : List Int) (parts : List (List Int)) (hr : Bgk K rest) (hp : ∀ p ∈ parts, Ptk K p) : Gives Try.prog 215 [.sl (rest.map Go.AI.encI), .sl (parts.map (encS Go.AI.encI))] (.raw (.bool (dec (fullP parts rest)))) := by
  refine fn_of_run tyOk ztOk mix Try.func215 rfl (by decide) Try.ntmps215 (fun w0 h => ?_)
  refine run_len (t := 1) rfl (fun hl => ?_)
  rw [List.length_map] at hl
  have rl := hr.1
  repeat' (first
      | (refine j_go ?_; first
        | refine j_op0 rfl rfl rfl rfl ?_)
      | refine j_nil ?_
      | (refine r_go ?_; first | refine run_seq ?_ | refine run_region ?_ | refine run_block ?_)
      | refine seqQ_normal ?_)
  refine run_loop (fun k : Nat => [(0, .sl (rest.map Go.AI.encI)), (1, .sl (parts.map (encS Go.AI.encI))), (5, .int (k : Int))]) (fun _ => _) (fun k => k ≤ parts.length ∧ (∀ i (h : i < parts.length), i < k → ¬ Within parts[i] rest)) (fun k => parts.length - k) 0 ⟨rfl, rfl, rfl, trivial⟩ rfl ⟨Nat.zero_le _, by first | (intros; omega) | (simp; done) | rfl | trivial | exact ⟨by simp [sumF], by intros; omega⟩ | exact ⟨by omega, by simp⟩⟩ (fun k ⟨kl, kp⟩ => ?_)
  by_cases hk : k < parts.length
  · have pl := (hp _ (List.getElem_mem hk)).1.1
    repeat' (first
      | (refine j_go ?_; first
        | refine j_op0 rfl rfl rfl rfl ?_ | (refine j_kIdx rfl ?_; first | refine j_idx rfl rfl rfl rfl rfl (by omega) rfl rfl rfl ?_) | (refine j_kBin rfl ?_; first | refine j_in rfl rfl ⟨by omega, by omega⟩ rfl rfl ?_) | (refine j_kLen rfl ?_; first | refine j_len rfl rfl rfl rfl rfl rfl ?_) | (refine j_kCall rfl rfl rfl rfl ?_; first | refine jc (c_l01Within _ _ (by omega) (by omega)) (LeL.refl _) rfl rfl ?_))
      | refine j_nil ?_
      | (refine r_go ?_; first | refine run_seq ?_ | refine run_region ?_ | (refine (run_if rfl (fun hb => ?_) (fun hb => ?_)) <;> first | (exfalso; omega) | skip) | refine run_block ?_ | refine run_ret ?_ | refine run_skip ?_)
      | refine seqQ_normal ?_ | refine seqQ_ret ?_ | refine blockQ_normal ?_ | refine blockQ_ret ?_ | refine loopQ_ret ?_)
    · exact end1 rfl (by first | exact List.Sublist.refl _ | exact sub1 | exact sub2 | exact sub3) (rbF (fun q => q _ (List.getElem_mem hk) hb)) (.inl rfl)
    · exact loopQ_nextD (k + 1) ⟨by omega, all_step kp (fun _ => hb)⟩ (by omega) (by first | exact List.Sublist.refl _ | exact sub1 | exact sub2 | exact sub3) ⟨rfl, rfl, nx _, trivial⟩
  · repeat' (first
      | (refine j_go ?_; first
        | refine j_op0 rfl rfl rfl rfl ?_ | (refine j_kLen rfl ?_; first | refine j_len rfl rfl rfl rfl rfl rfl ?_))
      | refine j_nil ?_
      | (refine r_go ?_; first | refine run_seq ?_ | refine run_region ?_ | (refine (run_if rfl (fun hb => ?_) (fun hb => ?_)) <;> first | (exfalso; omega) | skip) | refine run_ret ?_ | refine run_exit ?_)
      | refine seqQ_normal ?_ | refine seqQ_exit ?_ | refine blockQ_eq ?_ | refine loopQ_exit ?_)
    exact end1 rfl (by first | exact List.Sublist.refl _ | exact sub1 | exact sub2 | exact sub3) (rbT (fun p hm q => by obtain ⟨i, hi, rfl⟩ := List.getElem_of_mem hm; exact kp i hi (by omega) q)) (.inl rfl)

theorem o_l00Own (l : List Int) (hn : l.length ≤ 1000000) : Does Try.prog 163 [.sl (l.map Go.AI.encI)] [] (fun v h1 => ∃ b cap, v = .os b l.length cap ∧ h1 = [⟨b, 2, cap * 1, (l.map Go.AI.encI).flatten⟩]) := by
  refine fn_of_runD tyOk ztOk mix Try.func163 rfl (by decide) Try.ntmps163 (fun w0 F => ?_)
  change Run _ _ _ _ _ F
  repeat' (first
      | (refine j_go ?_; first
        | refine j_op0 rfl rfl rfl rfl ?_ | (refine j_kBsl rfl ?_; first | refine j_bs0 rfl rfl rfl rfl rfl rfl ?_))
      | refine j_nil ?_
      | (refine r_go ?_; first | refine run_seq ?_ | refine run_region ?_)
      | refine seqQ_normal ?_)
  refine j_append0 (g := Go.AI.encI) l rfl rfl rfl rfl rfl rfl rfl rfl (fun _ => rfl) (fun _ _ => rfl) ⟨by omega, by omega⟩ rfl rfl (fun b' cap' => ?_)
  repeat' (first
      | (refine j_go ?_; first
        | refine j_op0 rfl rfl rfl rfl ?_)
      | refine j_nil ?_
      | (refine r_go ?_; first | refine run_ret ?_)
      | refine seqQ_normal ?_)
  exact endD_ret (h1 := [_]) rfl (.cons (.tmp rfl) .nil) (Le.refl _) ⟨b', cap', rfl, rfl⟩ (.inl rfl)

/-- A variable with a list of the call's own: its length is known, not its elements. -/
def PkH (b : Nat) (N : Nat) (h : Heap) : Prop := ∃ (ob : Option Nat) (cap : Nat) (vs : List A), vs.length = N ∧ h = [⟨some b, 27, 1, [.os ob vs.length cap]⟩, ⟨ob, 22, cap * 1, (vs.map fun a => [a]).flatten⟩]
theorem at_app {α : Type} {pre ps : List α} {p : α} {k : Nat} (hk : k = pre.length) (h : k < (pre ++ p :: ps).length) : (pre ++ p :: ps)[k] = p := by subst hk; simp
theorem o_l01Pack (K : Nat) : ∀ (ps pre : List (List Int)) (rest beg : List Int) (b N : Nat) (h0 : Heap), (∀ p ∈ pre ++ ps, Ptk K p) → (pre ++ ps).length ≤ 1000000 → Bgk K rest → beg.length = pre.length → N ≤ 2000 → PkH b N h0 →
    Does Try.prog 179 [.sl (rest.map Go.AI.encI), .sl ((pre ++ ps).map (encS Go.AI.encI)), .sl (beg.map Go.AI.encI), .op (some b) 0] h0 (fun _ h' => PkH b (min 2001 (N + packN (pre ++ ps) ps rest)) h') := by
  intro ps
  induction ps with
  | nil =>
    intro pre rest beg b N h0 hp hl hr hbl hN H
    rw [List.append_nil] at hp hl ⊢
    obtain ⟨ob, cap, vs, hvs, rfl⟩ := H
    refine fn_of_runD tyOk ztOk mix Try.func179 rfl (by decide) Try.ntmps179 (fun w0 F => ?_)
    change Run _ _ _ _ _ (_ :: _ :: F)
    repeat' (first
      | (refine j_go ?_; first
        | refine j_op0 rfl rfl rfl rfl ?_ | (refine j_kLen rfl ?_; first | refine j_len rfl rfl rfl rfl rfl rfl ?_) | (refine j_kCall rfl rfl rfl rfl ?_; first | refine jc (c_l01Full K _ _ hr hp) (LeL.refl _) rfl rfl ?_))
      | refine j_nil ?_
      | (refine j_goO ?_; first
        | refine j_op0O rfl rfl rfl rfl ?_ | (refine j_kCallO rfl rfl rfl rfl ?_; first | refine jcO (c_l00Own _ (by omega)) (LeL.refl _) rfl rfl ?_) | (refine j_kLoadO rfl ?_; first | refine j_mloadO 0 rfl rfl rfl rfl rfl rfl rfl rfl ?_) | (refine j_kBslO rfl ?_; first | refine j_bslO rfl rfl rfl rfl rfl rfl rfl rfl rfl rfl rfl ?_))
      | (refine r_go ?_; first | refine run_seq ?_ | refine run_region ?_ | (refine (run_if rfl (fun hb => ?_) (fun hb => ?_)) <;> first | (exfalso; omega) | skip) | refine run_ret ?_ | refine run_skip ?_ | refine run_opn 3 [⟨0, false, false, 0⟩, ⟨1, true, false, 0⟩, ⟨2, true, false, 0⟩, ⟨3, true, false, 0⟩, ⟨4, true, false, 0⟩, ⟨5, true, false, 0⟩, ⟨6, true, false, 0⟩, ⟨7, false, true, 0⟩, ⟨8, true, false, 0⟩, ⟨9, false, true, 0⟩] rfl rfl (by kernel_rfl) ?_)
      | refine seqQ_normal ?_ | refine seqQ_ret ?_)
    · have hf := hb
      refine j_appendO 1 (g := fun a => [a]) (ys := vs) [A.sl (beg.map Go.AI.encI)] rfl (fun _ hk => nomatch hk) rfl rfl rfl rfl rfl rfl rfl rfl rfl rfl rfl rfl (fun _ => rfl) (fun _ hy => by simp only [List.mem_singleton] at hy; subst hy; rfl) ⟨by simp only [List.length_cons, List.length_nil]; omega, by simp only [List.length_cons, List.length_nil]; omega⟩ rfl rfl (fun ob' cap' => ?_)
      repeat' (first
      | (refine j_goO ?_; first
        | refine j_op0O rfl rfl rfl rfl ?_ | (refine j_kStoreO rfl ?_; first | refine j_storeO 0 rfl rfl rfl rfl rfl rfl rfl rfl rfl rfl rfl rfl (by first | (intro _ hk; exact absurd hk List.not_mem_nil) | (intro k hk; simp at hk ⊢; try simp [hk])) ?_))
      | refine j_nilO ?_
      | (refine r_go ?_; first | refine run_ret ?_)
      | refine seqQ_normal ?_ | refine seqQ_ret ?_)
      exact endD_ret (h1 := [_, _]) rfl .nil (Le.refl _) ⟨ob', cap', vs ++ [A.sl (beg.map Go.AI.encI)], by simp only [packN, if_pos hf, List.length_append, List.length_cons, List.length_nil]; omega, rfl⟩ (.inl rfl)
    · have hf := hb
      exact endD_ret (h1 := [_, _]) rfl .nil (Le.refl _) ⟨ob, cap, vs, by simp only [packN, if_neg hf]; omega, rfl⟩ (.inl rfl)
  | cons p ps ih =>
    intro pre rest beg b N h0 hp hl hr hbl hN H
    have hpp : Ptk K p := hp p (by simp)
    have tb := hpp.tb hr
    have ln : (pre ++ p :: ps).length = pre.length + ps.length + 1 := by simp only [List.length_append, List.length_cons]; omega
    have at1 : (pre ++ p :: ps)[beg.length]'(by omega) = p := at_app hbl _
    have cT := c_l01Times p rest (hpp.tm hr)
    rw [hpp.best hr, ← at1] at cT
    rw [at1] at cT
    have cT' : Gives Try.prog 216 [.sl (((pre ++ p :: ps)[beg.length]'(by omega)).map Go.AI.encI), .sl (rest.map Go.AI.encI)] (.int (tms p rest)) := by rw [at1]; exact cT
    have rl := hr.1
    have eqp : pre ++ p :: ps = (pre ++ [p]) ++ ps := by simp
    obtain ⟨ob, cap, vs, hvs, rfl⟩ := H
    refine fn_of_runD tyOk ztOk mix Try.func179 rfl (by decide) Try.ntmps179 (fun w0 F => ?_)
    change Run _ _ _ _ _ (_ :: _ :: F)
    repeat' (first
      | (refine j_go ?_; first
        | refine j_op0 rfl rfl rfl rfl ?_ | (refine j_kLen rfl ?_; first | refine j_len rfl rfl rfl rfl rfl rfl ?_))
      | refine j_nil ?_
      | (refine r_go ?_; first | refine run_seq ?_ | refine run_region ?_ | (refine (run_if rfl (fun hb => ?_) (fun hb => ?_)) <;> first | (exfalso; omega) | skip) | refine run_block ?_ | refine run_skip ?_)
      | refine seqQ_normal ?_)
    refine run_loop (fun x : Nat × (Option Nat × Nat) × List A => [(0, .sl (rest.map Go.AI.encI)), (1, .sl ((pre ++ p :: ps).map (encS Go.AI.encI))), (2, .sl (beg.map Go.AI.encI)), (3, .op (some b) 0), (8, .int beg.length), (9, .int (x.1 : Int))])
      (fun x => ⟨some b, 27, 1, [.os x.2.1.1 x.2.2.length x.2.1.2]⟩ :: ⟨x.2.1.1, 22, x.2.1.2 * 1, (x.2.2.map fun a => [a]).flatten⟩ :: F)
      (fun x => x.1 ≤ (tms p rest).toNat + 1 ∧ x.2.2.length = min 2001 (N + sumN (fun n => packN (pre ++ p :: ps) ps (plusL rest p (0 - (n : Int)))) x.1)) (fun x => (tms p rest).toNat + 1 - x.1) (0, (ob, cap), vs) ⟨rfl, rfl, rfl, rfl, rfl, rfl, trivial⟩ rfl ⟨Nat.zero_le _, by simp only [sumN]; omega⟩ (fun ⟨n, ⟨ob, cap⟩, vs⟩ ⟨kl, kv⟩ => ?_)
    dsimp only at kl kv ⊢
    by_cases hn : (n : Int) ≤ tms p rest
    · by_cases hs : vs.length ≤ 2000
      · have fit := hpp.fits hr (n := (n : Int)) (by omega) (by omega)
        have cP' : Gives Try.prog 217 [.sl (rest.map Go.AI.encI), .sl (((pre ++ p :: ps)[beg.length]'(by omega)).map Go.AI.encI), .int (0 - (n : Int))] (.sl ((plusL rest p (0 - (n : Int))).map Go.AI.encI)) := by rw [at1]; exact c_l01Plus _ _ _ fit
        have IH := ih (pre ++ [p]) (plusL rest p (0 - (n : Int))) (beg ++ [(n : Int)]) b vs.length _ (by rw [← eqp]; exact hp) (by rw [← eqp]; exact hl) (hpp.left hr (by omega) hn) (by simp [hbl]) hs ⟨ob, cap, vs, rfl, rfl⟩
        rw [← eqp] at IH
        repeat' (first
      | (refine j_go ?_; first
        | refine j_op0 rfl rfl rfl rfl ?_ | (refine j_kIdx rfl ?_; first | refine j_idx rfl rfl rfl rfl rfl (by omega) rfl rfl rfl ?_) | (refine j_kBin rfl ?_; first | refine j_in rfl rfl ⟨by omega, by omega⟩ rfl rfl ?_) | (refine j_kLen rfl ?_; first | refine j_op rfl rfl rfl rfl ?_) | (refine j_kCall rfl rfl rfl rfl ?_; first | refine jc (cT') (LeL.refl _) rfl rfl ?_ | refine jc (cP') (LeL.refl _) rfl rfl ?_) | (refine j_kLoad rfl ?_; first | refine j_mload 0 rfl rfl rfl rfl rfl rfl rfl ?_) | (refine j_kGuard rfl ?_; first | (refine (j_if rfl rfl rfl (fun hb => ?_) (fun hb => ?_)) <;> first | (exfalso; omega) | skip)) | refine j_in rfl rfl ⟨by omega, by omega⟩ rfl rfl ?_)
      | refine j_nil ?_
      | (refine r_go ?_; first | refine run_seq ?_ | refine run_region ?_ | (refine (run_if rfl (fun hb => ?_) (fun hb => ?_)) <;> first | (exfalso; omega) | skip) | refine run_block ?_ | refine run_skip ?_)
      | refine seqQ_normal ?_)
        refine j_kCall rfl rfl rfl rfl ?_
        refine jcp _ (o_l00Own beg (by omega)) (List.Perm.refl _) (LeL.refl _) rfl rfl (fun v h1 hR => ?_)
        obtain ⟨ob1, cp1, rfl, rfl⟩ := hR
        repeat' (first
      | (refine j_go ?_; first
        | refine j_op0 rfl rfl rfl rfl ?_ | (refine j_kBsl rfl ?_; first | refine j_bsl rfl rfl rfl rfl rfl rfl rfl rfl rfl rfl rfl ?_)))
        refine j_append 0 (g := Go.AI.encI) (ys := beg) [(n : Int)] rfl rfl rfl rfl rfl rfl rfl rfl rfl rfl rfl rfl (fun _ => rfl) (fun _ hy => by simp only [List.mem_singleton] at hy; subst hy; rfl) ⟨by simp only [List.length_cons, List.length_nil]; omega, by simp only [List.length_cons, List.length_nil]; omega⟩ rfl rfl (fun ob2 cp2 => ?_)
        refine j_view (view_freeze (g := Go.AI.encI) (z := 1) (ys := beg ++ [(n : Int)]) 0 58 rfl rfl rfl (fun _ => rfl) rfl rfl) ?_
        repeat' (first
      | (refine j_go ?_; first
        | refine j_op0 rfl rfl rfl rfl ?_))
        refine j_kCall rfl rfl rfl rfl ?_
        refine jcp F IH (List.Perm.refl _) (LeL.refl _) rfl rfl (fun v h1 hR => ?_)
        obtain ⟨ob3, cp3, vs3, hv3, rfl⟩ := hR
        repeat' (first
      | (refine j_go ?_; first
        | refine j_op0 rfl rfl rfl rfl ?_ | (refine j_kBin rfl ?_; first | refine j_in rfl rfl ⟨by omega, by omega⟩ rfl rfl ?_) | refine j_in rfl rfl ⟨by omega, by omega⟩ rfl rfl ?_)
      | refine j_nil ?_
      | (refine r_go ?_; first | refine run_region ?_)
      | refine seqQ_normal ?_ | refine blockQ_normal ?_)
        exact loopQ_next (n + 1, (ob3, cp3), vs3) ⟨by dsimp only; omega, by dsimp only; rw [hv3, sumN]; omega⟩ (by dsimp only; omega) rfl ⟨rfl, rfl, rfl, rfl, rfl, nx _, trivial⟩
      · repeat' (first
      | (refine j_go ?_; first
        | refine j_op0 rfl rfl rfl rfl ?_ | (refine j_kIdx rfl ?_; first | refine j_idx rfl rfl rfl rfl rfl (by omega) rfl rfl rfl ?_) | (refine j_kLen rfl ?_; first | refine j_op rfl rfl rfl rfl ?_) | (refine j_kCall rfl rfl rfl rfl ?_; first | refine jc (cT') (LeL.refl _) rfl rfl ?_) | (refine j_kLoad rfl ?_; first | refine j_mload 0 rfl rfl rfl rfl rfl rfl rfl ?_) | (refine j_kGuard rfl ?_; first | (refine (j_if rfl rfl rfl (fun hb => ?_) (fun hb => ?_)) <;> first | (exfalso; omega) | skip)))
      | refine j_nil ?_
      | (refine r_go ?_; first | refine run_seq ?_ | refine run_region ?_ | (refine (run_if rfl (fun hb => ?_) (fun hb => ?_)) <;> first | (exfalso; omega) | skip) | refine run_exit ?_)
      | refine seqQ_normal ?_ | refine seqQ_exit ?_ | refine blockQ_eq ?_ | refine loopQ_exit ?_)
        have mo := sumN_mono (f := fun n => packN (pre ++ p :: ps) ps (plusL rest p (0 - (n : Int)))) (a := n) (b := (tms p rest).toNat + 1) (by omega)
        exact endD_ret (h1 := [_, _]) rfl .nil (Le.refl _) ⟨ob, cap, vs, by rw [kv, packN]; omega, rfl⟩ (.inr rfl)
    · have hne : n = (tms p rest).toNat + 1 := by omega
      repeat' (first
      | (refine j_go ?_; first
        | refine j_op0 rfl rfl rfl rfl ?_ | refine j_off rfl rfl rfl ?_ | (refine j_kIdx rfl ?_; first | refine j_idx rfl rfl rfl rfl rfl (by omega) rfl rfl rfl ?_) | (refine j_kCall rfl rfl rfl rfl ?_; first | refine jc (cT') (LeL.refl _) rfl rfl ?_) | (refine j_kGuard rfl ?_; first | (refine (j_if rfl rfl rfl (fun hb => ?_) (fun hb => ?_)) <;> first | (exfalso; omega) | skip)))
      | refine j_nil ?_
      | (refine r_go ?_; first | refine run_seq ?_ | refine run_region ?_ | refine run_cond_f rfl ?_ | refine run_exit ?_)
      | refine seqQ_normal ?_ | refine seqQ_exit ?_ | refine blockQ_eq ?_ | refine loopQ_exit ?_)
      exact endD_ret (h1 := [_, _]) rfl .nil (Le.refl _) ⟨ob, cap, vs, by rw [kv, packN, hne], rfl⟩ (.inr rfl)
end Go.Proofs.Ytandldhceabdiaa
