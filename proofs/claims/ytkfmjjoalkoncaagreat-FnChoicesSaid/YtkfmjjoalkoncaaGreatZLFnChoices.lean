/-
  All choices: the program's MaximalChoices; the helpers of the law. No condition.
-/
import Derived.Test.YtkfmjjoalkoncaaGreatZS5h
import Derived.Test.YtkfmjjoalkoncaaGreatZC6
import Derived.Test.YtkfmjjoalkoncaaGreatZSV
import Derived.Test.YtkfmjjoalkoncaaGreatZC12
import Derived.Test.YtkfmjjoalkoncaaGreatZRY
namespace Go.Proofs.YtkfmjjoalkoncaaGreat
open Go.AI
set_option maxRecDepth 8000
set_option maxHeartbeats 1600000

theorem c_a2SameC (a b : List Int) : Gives Tryz.prog 32 [.sl (a.map Go.AI.encI), .sl (b.map Go.AI.encI)] (.raw (.bool (dec (a = b)))) := by
  refine fn_of_run tyOk ztOk mix Tryz.func32 rfl (by decide) Tryz.ntmps32 (fun w0 h => ?_)
  refine run_len (t := 0) rfl (fun hl => ?_)
  refine run_len (t := 1) rfl (fun hl2 => ?_)
  rw [List.length_map] at hl hl2
  repeat' (first
      | (refine j_go ?_; first
        | refine j_op0 rfl rfl rfl rfl ?_ | (refine j_kLen rfl ?_; first | refine j_len rfl rfl rfl rfl rfl rfl ?_))
      | refine j_nil ?_
      | (refine r_go ?_; first | refine run_seq ?_ | refine run_region ?_ | (refine (run_ifn rfl (fun hb => ?_) (fun hb => ?_)) <;> first | (exfalso; omega) | skip) | refine run_block ?_ | refine run_ret ?_ | refine run_skip ?_)
      | refine seqQ_normal ?_ | refine seqQ_ret ?_)
  · exact end1 rfl (by first | exact List.Sublist.refl _ | exact sub1 | exact sub2 | exact sub3) (rbF (fun q => by rw [q] at hb; omega)) (.inl rfl)
  refine run_loop (fun k : Nat => [(0, .sl (a.map Go.AI.encI)), (1, .sl (b.map Go.AI.encI)), (5, .int (k : Int))]) (fun _ => _) (fun k => k ≤ a.length ∧ (∀ i (h : i < a.length), i < k → some a[i] = b[i]?)) (fun k => a.length - k) 0 ⟨rfl, rfl, rfl, trivial⟩ rfl ⟨Nat.zero_le _, by first | (intros; omega) | (simp; done) | rfl | trivial | exact ⟨by simp [sumF], by intros; omega⟩ | exact ⟨by omega, by simp⟩⟩ (fun k ⟨kl, kp⟩ => ?_)
  repeat' (first
      | (refine j_go ?_; first
        | refine j_op0 rfl rfl rfl rfl ?_ | (refine j_kIdx rfl ?_; first | refine j_idx rfl rfl rfl rfl rfl (by omega) rfl rfl rfl ?_) | (refine j_kBin rfl ?_; first | refine j_in rfl rfl ⟨by omega, by omega⟩ rfl rfl ?_) | (refine j_kLen rfl ?_; first | refine j_len rfl rfl rfl rfl rfl rfl ?_))
      | refine j_nil ?_
      | (refine r_go ?_; first | refine run_seq ?_ | refine run_region ?_ | (refine (run_if rfl (fun hb => ?_) (fun hb => ?_)) <;> first | (exfalso; omega) | skip) | (refine (run_ifn rfl (fun hb => ?_) (fun hb => ?_)) <;> first | (exfalso; omega) | skip) | refine run_block ?_ | refine run_ret ?_ | refine run_exit ?_ | refine run_skip ?_ | refine run_regionD (by kernel_rfl) ?_)
      | refine seqQ_normal ?_ | refine seqQ_ret ?_ | refine seqQ_exit ?_ | refine blockQ_normal ?_ | refine blockQ_ret ?_ | refine blockQ_eq ?_ | refine loopQ_ret ?_ | refine loopQ_exit ?_)
  · exact end1 rfl (by first | exact List.Sublist.refl _ | exact sub1 | exact sub2 | exact sub3) (rbF (fun q => by subst q; exact hb rfl)) (.inl rfl)
  · exact loopQ_nextD (k + 1) ⟨by omega, all_step kp (fun _ => by rw [hb]; simp)⟩ (by omega) (by first | exact List.Sublist.refl _ | exact sub1 | exact sub2 | exact sub3) ⟨rfl, rfl, nx _, trivial⟩
  · exact end1 rfl (by first | exact List.Sublist.refl _ | exact sub1 | exact sub2 | exact sub3) (rbT (List.ext_getElem (by omega) (fun i h1 h2 => by have := kp i h1 (by omega); rw [List.getElem?_eq_getElem h2] at this; exact Option.some.inj this))) (.inl rfl)
/-- A system and a state that are drawn, as data. -/
theorem zC_A2System (code : List UInt8) : Does Tryz.prog 5 [.sl (code.map encY)] [] (fun v h' => (∃ (y : System) (t : State), (y.Ok ∧ y.kinds ≤ 3 ∧ y.parents.length ≤ 3 ∧ y.rules.length ≤ 5 ∧ y.StateOk t ∧ ∀ r ∈ t.bags, ∀ z ∈ r, z ≤ 5) ∧ v = .tup [.agg (encSystem y), .agg (encState t)]) ∧ h' = []) :=
  (o_A2System code).frozenE fun v h1 ⟨y, t, b, cap, k1, k2, hy, y1, y2, y3, ht, ht5, e1, e2⟩ => ⟨_, ⟨y, t, ⟨hy, y1, y2, y3, ht, ht5⟩, rfl⟩, by
    rw [e1, e2]
    exact FrzF.tup (FrzLF.cons (h1 := [rlB b cap y.rules, k1, k2]) (h2 := []) (FrzF.agg (FrzLF.cons (h1 := []) (FrzF.same _ _) (FrzLF.cons (h1 := []) (FrzF.same _ _) (FrzLF.cons (h1 := [rlB b cap y.rules]) (h2 := [k1, k2]) (FrzF.flat (g := encRule) (z := 9) rfl rfl (fun _ => rfl) rfl rfl) FrzLF.nil)))) (FrzLF.cons (h1 := []) (FrzF.same _ _) (FrzLF.nil (h := []))))⟩
theorem cC_iFcF {s : System} {t : State} (hv : s.Ok) (ht : s.StateOk t) : Gives Tryz.prog 9 [.agg (encSystem s), .agg (encState t)] (.tup [.sl ((fcK s t s.rules.length).1.map Go.AI.encI), .int 0]) :=
  (c_iFirstChoice s t).frozen fun v h1 ⟨b, cap, q1, q2⟩ => by
    have e1 : resFirstChoice s t = (fcK s t s.rules.length).1 := ls_t ⟨hv, ht⟩ _
    have e2 : codeFirstChoice s t = 0 := by unfold codeFirstChoice cdP; rw [if_pos ⟨hv, ht⟩]
    rw [e1] at q1 q2
    rw [e2] at q1
    rw [q1, q2]; exact FrzF.tup2 (FrzF.flat rfl rfl (fun _ => rfl) rfl rfl) (Clo.int _)

theorem o_iMaxX (s : System) (t : State) (hv : s.Ok) (ht : s.StateOk t) : Does Tryz.prog 8 [.agg (encSystem s), .agg (encState t)] []
    (fun v h' => (∃ x, v = .tup [x, .int (codeM s t)] ∧ (codeM s t = 0 → x = .sl ((allS s t).map (encS Go.AI.encI)))) ∧ h' = []) := by
  refine fn_of_runD tyOk ztOk mix Tryz.func8 rfl (by decide) Tryz.ntmps8 (fun w0 F => ?_)
  change Run _ _ _ _ _ F
  have cB := c_iValidState s t
  rw [dec_t (show s.Ok ∧ s.StateOk t from ⟨hv, ht⟩)] at cB
  repeat' (first
      | (refine j_go ?_; first
        | refine j_op0 rfl rfl rfl rfl ?_ | (refine j_kCall rfl rfl rfl rfl ?_; first | refine jc (cB) (LeL.refl _) rfl rfl ?_) | refine j_box rfl rfl rfl rfl rfl rfl ?_)
      | refine j_nil ?_
      | (refine r_go ?_; first | refine run_seq ?_ | refine run_region ?_ | refine run_cond_f rfl ?_ | refine run_skip ?_)
      | refine seqQ_normal ?_)
  refine j_kCall rfl rfl rfl rfl ?_
  refine jcp F (o_choicesX s t hv ht) (List.Perm.refl _) (LeL.refl _) rfl rfl (fun v h1 hR => ?_)
  obtain ⟨rfl, R1, R2⟩ := hR
  by_cases hB : (Big16 s t s.parents.length ∨ Big2 s t s.parents.length) ∨ 300 < (allC s t).length
  · obtain ⟨x, rfl⟩ := R2 hB
    rw [codeM_t hB]
    repeat' (first
      | (refine j_go ?_; first
        | refine j_op0 rfl rfl rfl rfl ?_)
      | refine j_nil ?_
      | (refine r_go ?_; first | refine run_ret ?_)
      | refine seqQ_normal ?_)
    exact endD_ret (h1 := []) rfl (.cons (.tmp rfl) (.cons (.tmp rfl) .nil)) (Le.refl _) ⟨⟨_, rfl, fun q => absurd q (by decide)⟩, rfl⟩ (.inl rfl)
  · obtain rfl := R1 (fun q => hB (.inl q)) (by omega)
    rw [codeM_f hB]
    repeat' (first
      | (refine j_go ?_; first
        | refine j_op0 rfl rfl rfl rfl ?_)
      | refine j_nil ?_
      | (refine r_go ?_; first | refine run_ret ?_)
      | refine seqQ_normal ?_)
    exact endD_ret (h1 := []) rfl (.cons (.tmp rfl) (.cons (.tmp rfl) .nil)) (Le.refl _) ⟨⟨_, rfl, fun _ => rfl⟩, rfl⟩ (.inl rfl)
theorem FrzF.more {h1 h2 : Heap} {a a' : A} (H : FrzF h1 a a') : FrzF (h1 ++ h2) a a' := fun F w v ho r => (H (h2 ++ F) w v (by rw [← List.append_assoc]; exact ho) (by rw [← List.append_assoc]; exact r)).heap (List.sublist_append_right h2 F)
theorem zC_A2Counts (code : List UInt8) (n : Nat) (hn : n ≤ 100) : Does Tryz.prog 6 [.sl (code.map encY), .int (n : Int)] [] (fun v h' => (∃ cs : List Int, (cs.length = n ∧ ∀ x ∈ cs, 0 ≤ x ∧ x ≤ 2) ∧ v = .sl (cs.map Go.AI.encI)) ∧ h' = []) :=
  (o_A2Counts code n hn).frozenE fun v h1 ⟨cs, b, cap, k, e1, hl, hx, e2⟩ => ⟨_, ⟨cs, ⟨hl, hx⟩, rfl⟩, by
    rw [e1, e2]
    exact FrzF.more (h1 := [lsI 2 b cap cs]) (h2 := [k]) (FrzF.flat (g := Go.AI.encI) (z := 1) rfl rfl (fun _ => rfl) rfl rfl)⟩
theorem c_a2LessC (a b : List Int) (hl : a.length = b.length) : Gives Tryz.prog 31 [.sl (a.map Go.AI.encI), .sl (b.map Go.AI.encI)] (.raw (.bool (dec (less a b)))) := by
  refine fn_of_run tyOk ztOk mix Tryz.func31 rfl (by decide) Tryz.ntmps31 (fun w0 h => ?_)
  refine run_len (t := 0) rfl (fun hl2 => ?_)
  rw [List.length_map] at hl2
  repeat' (first
      | (refine j_go ?_; first
        | refine j_op0 rfl rfl rfl rfl ?_)
      | refine j_nil ?_
      | (refine r_go ?_; first | refine run_seq ?_ | refine run_region ?_ | refine run_block ?_)
      | refine seqQ_normal ?_)
  refine run_loop (fun k : Nat => [(0, .sl (a.map Go.AI.encI)), (1, .sl (b.map Go.AI.encI)), (5, .int (k : Int))]) (fun _ => _) (fun k => k ≤ a.length ∧ (less a b ↔ less (a.drop k) (b.drop k))) (fun k => a.length - k) 0 ⟨rfl, rfl, rfl, trivial⟩ rfl ⟨Nat.zero_le _, by first | (intros; omega) | (simp; done) | rfl | trivial | exact ⟨by simp [sumF], by intros; omega⟩ | exact ⟨by omega, by simp⟩⟩ (fun k ⟨kl, kp⟩ => ?_)
  by_cases hk : k < a.length
  · have hkb : k < b.length := by omega
    have e := less_step hk hkb
    repeat' (first
      | (refine j_go ?_; first
        | refine j_op0 rfl rfl rfl rfl ?_ | (refine j_kIdx rfl ?_; first | refine j_idx rfl rfl rfl rfl rfl (by omega) rfl rfl rfl ?_) | (refine j_kBin rfl ?_; first | refine j_in rfl rfl ⟨by omega, by omega⟩ rfl rfl ?_) | (refine j_kLen rfl ?_; first | refine j_len rfl rfl rfl rfl rfl rfl ?_) | (refine j_kGuard rfl ?_; first | (refine (j_if rfl rfl rfl (fun hb => ?_) (fun hb => ?_)) <;> first | (exfalso; omega) | skip)))
      | refine j_nil ?_
      | (refine r_go ?_; first | refine run_seq ?_ | refine run_region ?_ | (refine (run_if rfl (fun hb => ?_) (fun hb => ?_)) <;> first | (exfalso; omega) | skip) | (refine (run_ifn rfl (fun hb => ?_) (fun hb => ?_)) <;> first | (exfalso; omega) | skip) | refine run_block ?_ | refine run_ret ?_ | refine run_skip ?_ | refine run_regionD (by kernel_rfl) ?_)
      | refine seqQ_normal ?_ | refine seqQ_ret ?_ | refine blockQ_normal ?_ | refine blockQ_ret ?_ | refine loopQ_ret ?_)
    · exact end1 rfl (List.Sublist.refl _) (rbD (by rw [kp, e]; exact ⟨fun q => .inl q, fun q => q.elim id (fun q => by omega)⟩)) (.inl rfl)
    · exact loopQ_nextD (k + 1) ⟨by omega, by rw [kp, e]; exact ⟨fun q => q.elim (fun q => by omega) (fun q => q.2), fun q => .inr ⟨by omega, q⟩⟩⟩ (by omega) (by first | exact List.Sublist.refl _ | exact sub1 | exact sub2 | exact sub3) ⟨rfl, rfl, nx _, trivial⟩
  · have hke : k = a.length := by omega
    subst hke
    have e := less_end (a := a) (b := b) (k := a.length) (by omega) (by omega) (by omega)
    repeat' (first
      | (refine j_go ?_; first
        | refine j_op0 rfl rfl rfl rfl ?_ | refine j_off rfl rfl rfl ?_ | (refine j_kLen rfl ?_; first | refine j_len rfl rfl rfl rfl rfl rfl ?_) | (refine j_kGuard rfl ?_; first | (refine (j_if rfl rfl rfl (fun hb => ?_) (fun hb => ?_)) <;> first | (exfalso; omega) | skip)))
      | refine j_nil ?_
      | (refine r_go ?_; first | refine run_seq ?_ | refine run_region ?_ | refine run_cond_f rfl ?_ | refine run_ret ?_ | refine run_exit ?_)
      | refine seqQ_normal ?_ | refine seqQ_exit ?_ | refine blockQ_eq ?_ | refine loopQ_exit ?_)
    all_goals first | (exfalso; omega) | exact end1 rfl (by first | exact List.Sublist.refl _ | exact sub1 | exact sub2 | exact sub3) (rbF (by rw [kp, e]; omega)) (.inl rfl)
theorem c_a2HasC (L : List (List Int)) (l : List Int) : Gives Tryz.prog 14 [.sl (L.map (encS Go.AI.encI)), .sl (l.map Go.AI.encI)] (.raw (.bool (dec (l ∈ L)))) := by
  refine fn_of_run tyOk ztOk mix Tryz.func14 rfl (by decide) Tryz.ntmps14 (fun w0 h => ?_)
  refine run_len (t := 0) rfl (fun hl2 => ?_)
  rw [List.length_map] at hl2
  repeat' (first
      | (refine j_go ?_; first
        | refine j_op0 rfl rfl rfl rfl ?_)
      | refine j_nil ?_
      | (refine r_go ?_; first | refine run_seq ?_ | refine run_region ?_ | refine run_block ?_)
      | refine seqQ_normal ?_)
  refine run_loop (fun k : Nat => [(0, .sl (L.map (encS Go.AI.encI))), (1, .sl (l.map Go.AI.encI)), (5, .int (k : Int))]) (fun _ => _) (fun k => k ≤ L.length ∧ (∀ i (h : i < L.length), i < k → ¬ L[i] = l)) (fun k => L.length - k) 0 ⟨rfl, rfl, rfl, trivial⟩ rfl ⟨Nat.zero_le _, by first | (intros; omega) | (simp; done) | rfl | trivial | exact ⟨by simp [sumF], by intros; omega⟩ | exact ⟨by omega, by simp⟩⟩ (fun k ⟨kl, kp⟩ => ?_)
  by_cases hk : k < L.length
  · repeat' (first
      | (refine j_go ?_; first
        | refine j_op0 rfl rfl rfl rfl ?_ | (refine j_kIdx rfl ?_; first | refine j_idx rfl rfl rfl rfl rfl (by omega) rfl rfl rfl ?_) | (refine j_kBin rfl ?_; first | refine j_in rfl rfl ⟨by omega, by omega⟩ rfl rfl ?_) | (refine j_kLen rfl ?_; first | refine j_len rfl rfl rfl rfl rfl rfl ?_) | (refine j_kCall rfl rfl rfl rfl ?_; first | refine jc (c_a2SameC _ _) (LeL.refl _) rfl rfl ?_))
      | refine j_nil ?_
      | (refine r_go ?_; first | refine run_seq ?_ | refine run_region ?_ | (refine (run_if rfl (fun hb => ?_) (fun hb => ?_)) <;> first | (exfalso; omega) | skip) | refine run_block ?_ | refine run_ret ?_ | refine run_skip ?_)
      | refine seqQ_normal ?_ | refine seqQ_ret ?_ | refine blockQ_normal ?_ | refine blockQ_ret ?_ | refine loopQ_ret ?_)
    · exact end1 rfl (by first | exact List.Sublist.refl _ | exact sub1 | exact sub2 | exact sub3) (rbT (by rw [← hb]; exact List.getElem_mem hk)) (.inl rfl)
    · exact loopQ_nextD (k + 1) ⟨by omega, all_step kp (fun _ => hb)⟩ (by omega) (by first | exact List.Sublist.refl _ | exact sub1 | exact sub2 | exact sub3) ⟨rfl, rfl, nx _, trivial⟩
  · repeat' (first
      | (refine j_go ?_; first
        | refine j_op0 rfl rfl rfl rfl ?_ | (refine j_kLen rfl ?_; first | refine j_len rfl rfl rfl rfl rfl rfl ?_))
      | refine j_nil ?_
      | (refine r_go ?_; first | refine run_seq ?_ | refine run_region ?_ | (refine (run_if rfl (fun hb => ?_) (fun hb => ?_)) <;> first | (exfalso; omega) | skip) | refine run_ret ?_ | refine run_exit ?_)
      | refine seqQ_normal ?_ | refine seqQ_exit ?_ | refine blockQ_eq ?_ | refine loopQ_exit ?_)
    exact end1 rfl (by first | exact List.Sublist.refl _ | exact sub1 | exact sub2 | exact sub3) (rbF (fun q => by
      obtain ⟨i, hi, e⟩ := List.getElem_of_mem q
      exact kp i hi (by omega) e)) (.inl rfl)
theorem c_a2RisingC (L : List (List Int)) (n : Nat) (hL : ∀ i (h : i < L.length), L[i].length = n) (hp : ∀ i (h : i + 1 < L.length), less L[i] L[i + 1]) : Gives Tryz.prog 13 [.sl (L.map (encS Go.AI.encI)), .int (n : Int)] (.raw (.bool true)) := by
  refine fn_of_run tyOk ztOk mix Tryz.func13 rfl (by decide) Tryz.ntmps13 (fun w0 h => ?_)
  refine run_len (t := 0) rfl (fun hl2 => ?_)
  rw [List.length_map] at hl2
  repeat' (first
      | (refine j_go ?_; first
        | refine j_op0 rfl rfl rfl rfl ?_)
      | refine j_nil ?_
      | (refine r_go ?_; first | refine run_seq ?_ | refine run_region ?_ | refine run_block ?_)
      | refine seqQ_normal ?_)
  refine run_loop (fun k : Nat => [(0, .sl (L.map (encS Go.AI.encI))), (1, .int (n : Int)), (5, .int (k : Int))]) (fun _ => _) (fun k => k ≤ L.length ∧ (True)) (fun k => L.length - k) 0 ⟨rfl, rfl, rfl, trivial⟩ rfl ⟨Nat.zero_le _, by first | (intros; omega) | (simp; done) | rfl | trivial | exact ⟨by simp [sumF], by intros; omega⟩ | exact ⟨by omega, by simp⟩⟩ (fun k ⟨kl, kp⟩ => ?_)
  by_cases hk : k < L.length
  · have h1 := hL k hk
    by_cases h0 : k = 0
    · repeat' (first
      | (refine j_go ?_; first
        | refine j_op0 rfl rfl rfl rfl ?_ | refine j_off rfl rfl rfl ?_ | (refine j_kIdx rfl ?_; first | refine j_idx rfl rfl rfl rfl rfl (by omega) rfl rfl rfl ?_) | (refine j_kBin rfl ?_; first | refine j_in rfl rfl ⟨by omega, by omega⟩ rfl rfl ?_) | (refine j_kLen rfl ?_; first | refine j_len rfl rfl rfl rfl rfl rfl ?_) | (refine j_kGuard rfl ?_; first | (refine (j_if rfl rfl rfl (fun hb => ?_) (fun hb => ?_)) <;> first | (exfalso; omega) | skip) | (refine (j_ifn rfl rfl rfl (fun hb => ?_) (fun hb => ?_)) <;> first | (exfalso; omega) | skip)))
      | refine j_nil ?_
      | (refine r_go ?_; first | refine run_seq ?_ | refine run_region ?_ | refine run_cond_f rfl ?_ | (refine (run_if rfl (fun hb => ?_) (fun hb => ?_)) <;> first | (exfalso; omega) | skip) | refine run_block ?_ | refine run_skip ?_ | refine run_regionD (by kernel_rfl) ?_)
      | refine seqQ_normal ?_ | refine blockQ_normal ?_)
      exact loopQ_nextD (k + 1) ⟨by omega, trivial⟩ (by omega) (by first | exact List.Sublist.refl _ | exact sub1 | exact sub2 | exact sub3) ⟨rfl, rfl, nx _, trivial⟩
    · have hk1 : ((k : Int) - 1).toNat < L.length := by omega
      have h2 := hL _ hk1
      have h3 : less L[((k : Int) - 1).toNat] L[k] := by
        have := hp (k - 1) (by omega)
        have e1 : k - 1 + 1 = k := by omega
        have e2 : ((k : Int) - 1).toNat = k - 1 := by omega
        simp only [e1] at this
        simp only [e2]
        exact this
      have cL := c_a2LessC L[((k : Int) - 1).toNat] L[k] (by omega)
      rw [dec_t h3] at cL
      repeat' (first
      | (refine j_go ?_; first
        | refine j_op0 rfl rfl rfl rfl ?_ | (refine j_kIdx rfl ?_; first | refine j_idx rfl rfl rfl rfl rfl (by omega) rfl rfl rfl ?_ | refine j_idxz rfl rfl rfl rfl rfl ⟨by omega, by omega⟩ rfl rfl rfl ?_) | (refine j_kBin rfl ?_; first | refine j_in rfl rfl ⟨by omega, by omega⟩ rfl rfl ?_) | (refine j_kLen rfl ?_; first | refine j_len rfl rfl rfl rfl rfl rfl ?_) | (refine j_kCall rfl rfl rfl rfl ?_; first | refine jc (cL) (LeL.refl _) rfl rfl ?_) | (refine j_kGuard rfl ?_; first | (refine (j_if rfl rfl rfl (fun hb => ?_) (fun hb => ?_)) <;> first | (exfalso; omega) | skip) | (refine (j_ifn rfl rfl rfl (fun hb => ?_) (fun hb => ?_)) <;> first | (exfalso; omega) | skip)))
      | refine j_nil ?_
      | (refine r_go ?_; first | refine run_seq ?_ | refine run_region ?_ | refine run_cond_f rfl ?_ | (refine (run_if rfl (fun hb => ?_) (fun hb => ?_)) <;> first | (exfalso; omega) | skip) | refine run_block ?_ | refine run_skip ?_ | refine run_regionD (by kernel_rfl) ?_)
      | refine seqQ_normal ?_ | refine blockQ_normal ?_)
      exact loopQ_nextD (k + 1) ⟨by omega, trivial⟩ (by omega) (by first | exact List.Sublist.refl _ | exact sub1 | exact sub2 | exact sub3) ⟨rfl, rfl, nx _, trivial⟩
  · repeat' (first
      | (refine j_go ?_; first
        | refine j_op0 rfl rfl rfl rfl ?_ | (refine j_kLen rfl ?_; first | refine j_len rfl rfl rfl rfl rfl rfl ?_))
      | refine j_nil ?_
      | (refine r_go ?_; first | refine run_seq ?_ | refine run_region ?_ | (refine (run_if rfl (fun hb => ?_) (fun hb => ?_)) <;> first | (exfalso; omega) | skip) | refine run_ret ?_ | refine run_exit ?_)
      | refine seqQ_normal ?_ | refine seqQ_exit ?_ | refine blockQ_eq ?_ | refine loopQ_exit ?_)
    exact end1 rfl (List.Sublist.refl _) (rfl) (.inl rfl)
end Go.Proofs.YtkfmjjoalkoncaaGreat

/-
  The law FnChoices answers true whatever it reads. No condition.
-/
namespace Go.Proofs.YtkfmjjoalkoncaaGreat
open Go.AI
set_option maxRecDepth 8000
set_option maxHeartbeats 3200000
/-- What all choices are, of a right system in a right state. -/
theorem all_facts {s : System} {t : State} (hv : s.Ok) (ht : s.StateOk t) :
    (∀ i (h : i < (allS s t).length), (allS s t)[i].length = s.rules.length) ∧ (∀ i (h : i + 1 < (allS s t).length), less (allS s t)[i] (allS s t)[i + 1]) ∧
    (∀ i (h : i < (allS s t).length), Cnts s (allS s t)[i] ∧ Most s t (allS s t)[i]) ∧ (∀ cs, Cnts s cs → (cs ∈ allS s t ↔ Most s t cs)) ∧ (fcK s t s.rules.length).1 ∈ allS s t := by
  have hm : ∀ i (h : i < (allS s t).length), Cnts s (allS s t)[i] ∧ Most s t (allS s t)[i] := fun i h => by
    have q := allS_mem.1 (List.getElem_mem h)
    have c := most_bnd hv ht q
    exact ⟨c, (allC_most hv ht c).1 q⟩
  have hc := fc_cnts hv ht
  refine ⟨fun i h => by have := (hm i h).1.2; omega, fun i h => ?_, hm, fun cs h => allS_mem.trans (allC_most hv ht h), allS_mem.2 ((allC_most hv ht hc).2 (fc_most hv ht))⟩
  exact (List.pairwise_iff_getElem.1 (allS_strict hv ht)) i (i + 1) (by omega) h (by omega)
theorem c_FnChoices (a0 a1 : List UInt8) : Gives Tryz.prog 3 [.sl (a0.map encY), .sl (a1.map encY)] (.raw (.bool true)) := by
  refine fn_of_run tyOk ztOk mix Tryz.func3 rfl (by decide) Tryz.ntmps3 (fun w0 h => ?_)
  repeat' (first
      | (refine j_go ?_; first
        | refine j_op0 rfl rfl rfl rfl ?_ | (refine j_kCall rfl rfl rfl rfl ?_; first | refine jc (c_a2Long _ _) (LeL.refl _) rfl rfl ?_))
      | refine j_nil ?_
      | (refine r_go ?_; first | refine run_seq ?_ | refine run_region ?_ | (refine (run_if rfl (fun hb => ?_) (fun hb => ?_)) <;> first | (exfalso; omega) | skip) | refine run_ret ?_ | refine run_skip ?_)
      | refine seqQ_normal ?_ | refine seqQ_ret ?_)
  · exact end1 rfl (List.Sublist.refl _) (rfl) (.inl rfl)
  refine j_kCall rfl rfl rfl rfl ?_
  refine jcp _ (zC_A2System a0) (List.Perm.refl _) (LeL.refl _) rfl rfl (fun v h1 hR => ?_)
  obtain ⟨⟨y, t, ⟨hy, y1, y2, y3, ht, ht5⟩, rfl⟩, rfl⟩ := hR
  obtain ⟨fL, fR, fM, fI, fF⟩ := all_facts hy ht
  have fcC := fc_cnts hy ht
  have fcM := fc_most hy ht
  have aL := allS_len y t
  have cF := cC_iFcF hy ht
  have cFM := c_iIsMaximal y t (fcK y t y.rules.length).1
  rw [dec_t ⟨⟨⟨hy, ht⟩, fcC⟩, fcM⟩, cd2_o (p := y.WP t) ⟨hy, ht⟩ fcC] at cFM
  have cN := c_iCountChoices y t
  repeat' (first
      | (refine j_go ?_; first
        | refine j_op0 rfl rfl rfl rfl ?_ | (refine j_kLen rfl ?_; first | refine j_len rfl rfl rfl rfl rfl rfl ?_) | (refine j_kLoad rfl ?_; first | refine j_mload 1 rfl rfl rfl rfl rfl rfl rfl ?_) | (refine j_kStore rfl ?_; first | refine j_storeN 0 rfl rfl rfl rfl rfl rfl rfl rfl rfl rfl rfl ?_ | refine j_storeN 1 rfl rfl rfl rfl rfl rfl rfl rfl rfl rfl rfl ?_) | refine j_alloc rfl rfl rfl rfl rfl (fun _ => ?_))
      | refine j_nil ?_
      | (refine r_go ?_; first | refine run_seq ?_ | refine run_region ?_)
      | refine seqQ_normal ?_)
  refine j_view (view_freezeP 0 6 rfl rfl) ?_
  refine j_view (view_freezeP 0 5 rfl rfl) ?_
  refine j_kCall rfl rfl rfl rfl ?_
  refine jcp _ (zC_A2Counts a1 y.rules.length (by omega)) (List.Perm.refl _) (LeL.refl _) rfl rfl (fun v h1 hR => ?_)
  obtain ⟨⟨cs, ⟨hcl, hcx⟩, rfl⟩, rfl⟩ := hR
  have hcn : Cnts y cs := ⟨fun x hx => by have := hcx x hx; omega, by omega⟩
  have cM := c_iIsMaximal y t cs
  rw [dec_congr (show ((y.WP t ∧ Cnts y cs) ∧ Most y t cs) ↔ Most y t cs from ⟨fun q => q.2, fun q => ⟨⟨⟨hy, ht⟩, hcn⟩, q⟩⟩), cd2_o (p := y.WP t) ⟨hy, ht⟩ hcn] at cM
  have cC := c_iIsChoice y t cs
  rw [dec_congr (show ((y.WP t ∧ Cnts y cs) ∧ Ch y t cs) ↔ Ch y t cs from ⟨fun q => q.2, fun q => ⟨⟨⟨hy, ht⟩, hcn⟩, q⟩⟩), cd2_o (p := y.WP t) ⟨hy, ht⟩ hcn] at cC
  repeat' (first
      | (refine j_go ?_; first
        | refine j_op0 rfl rfl rfl rfl ?_)
      | refine j_nil ?_
      | (refine r_go ?_; first | refine run_seq ?_ | refine run_region ?_)
      | refine seqQ_normal ?_)
  refine j_kCall rfl rfl rfl rfl ?_
  refine jcp _ (o_sMaxW y t hy ht y2) (List.Perm.refl _) (LeL.refl _) rfl rfl (fun v h1 hR => ?_)
  obtain ⟨rfl, xs, rfl⟩ := hR
  repeat' (first
      | (refine j_go ?_; first
        | refine j_op0 rfl rfl rfl rfl ?_)
      | refine j_nil ?_
      | (refine r_go ?_; first | refine run_seq ?_ | refine run_region ?_)
      | refine seqQ_normal ?_)
  refine j_kCall rfl rfl rfl rfl ?_
  refine jcp _ (o_iMaxX y t hy ht) (List.Perm.refl _) (LeL.refl _) rfl rfl (fun v h1 hR => ?_)
  obtain ⟨⟨x, rfl, hxs⟩, rfl⟩ := hR
  by_cases hB : (Big16 y t y.parents.length ∨ Big2 y t y.parents.length) ∨ 300 < (allC y t).length
  · rw [codeM_t hB]
    generalize (fcK y t y.rules.length).1 = F at cF cFM fcC fcM fF
    repeat' (first
      | (refine j_go ?_; first
        | refine j_op0 rfl rfl rfl rfl ?_ | refine j_off rfl rfl rfl ?_ | (refine j_kCall rfl rfl rfl rfl ?_; first | refine jc (cF) (LeL.refl _) rfl rfl ?_ | refine jc (cFM) (LeL.refl _) rfl rfl ?_ | refine jc (cM) (LeL.refl _) rfl rfl ?_ | refine jc (cC) (LeL.refl _) rfl rfl ?_) | (refine j_kGuard rfl ?_; first | (refine (j_if rfl rfl rfl (fun hb => ?_) (fun hb => ?_)) <;> first | (exfalso; omega) | skip) | (refine (j_ifn rfl rfl rfl (fun hb => ?_) (fun hb => ?_)) <;> first | (exfalso; omega) | skip)))
      | refine j_nil ?_
      | (refine r_go ?_; first | refine run_seq ?_ | refine run_region ?_ | refine run_cond_f rfl ?_ | (refine (run_ifn rfl (fun hb => ?_) (fun hb => ?_)) <;> first | (exfalso; omega) | skip) | refine run_ret ?_ | refine run_skip ?_)
      | refine seqQ_normal ?_ | refine seqQ_ret ?_)
    all_goals first
      | exact end1 rfl (List.Sublist.refl _) rfl (.inl rfl)
      | exact absurd (‹Most y t cs›).1 ‹¬ Ch y t cs›
  have e3 := codeM_f hB
  obtain rfl := hxs e3
  rw [e3]
  have hN3 : ¬ (Big16 y t y.parents.length ∨ Big2 y t y.parents.length) := fun q => hB (.inl q)
  rw [(cnt_t ⟨hy, ht⟩ hN3).1, (cnt_t ⟨hy, ht⟩ hN3).2, (prod_all y2 (fun q => hN3 (.inr q))).1, ← aL] at cN
  have cR := c_a2RisingC (allS y t) y.rules.length fL fR
  have cHF := c_a2HasC (allS y t) (fcK y t y.rules.length).1
  rw [dec_t fF] at cHF
  have cHC := c_a2HasC (allS y t) cs
  rw [dec_congr (fI cs hcn)] at cHC
  have n1 : 1 ≤ (allS y t).length := List.length_pos_of_mem fF
  have cA : ∀ i (h : i < (allS y t).length), Gives Tryz.prog 10 [.agg (encSystem y), .agg (encState t), .sl ((allS y t)[i].map Go.AI.encI)] (.tup [.raw (.bool true), .int 0]) := fun i h => by
    have q := c_iIsMaximal y t (allS y t)[i]
    obtain ⟨m1, m2⟩ := fM i h
    rwa [dec_t ⟨⟨⟨hy, ht⟩, m1⟩, m2⟩, cd2_o (p := y.WP t) ⟨hy, ht⟩ m1] at q
  have hab : Ch y t cs → ∃ j, ∃ h : j < (allS y t).length, ∀ k, cs.getD k 0 ≤ ((allS y t)[j]).getD k 0 := fun q => by
    obtain ⟨ms, m1, m2, m3⟩ := most_above hy ht 16000 cs hcn q (by
      have := sumF_nn (fun x : Int => x) cs (fun x hx => (hcn.1 x hx).1)
      omega)
    obtain ⟨j, hj, e⟩ := List.getElem_of_mem ((fI ms m1).2 m2)
    exact ⟨j, hj, fun k => by rw [e]; exact m3 k⟩
  generalize (fcK y t y.rules.length).1 = F at cF cFM fcC fcM fF cHF
  by_cases hM : Most y t cs
  · rw [dec_t hM] at cM cHC
    rw [dec_t hM.1] at cC
    repeat' (first
      | (refine j_go ?_; first
        | refine j_op0 rfl rfl rfl rfl ?_ | (refine j_kLen rfl ?_; first | refine j_len rfl rfl rfl rfl rfl rfl ?_) | (refine j_kCall rfl rfl rfl rfl ?_; first | refine jc (cF) (LeL.refl _) rfl rfl ?_ | refine jc (cFM) (LeL.refl _) rfl rfl ?_ | refine jc (cM) (LeL.refl _) rfl rfl ?_ | refine jc (cC) (LeL.refl _) rfl rfl ?_ | refine jc (cN) (LeL.refl _) rfl rfl ?_ | refine jc (cR) (LeL.refl _) rfl rfl ?_ | refine jc (cHF) (LeL.refl _) rfl rfl ?_ | refine jc (cHC) (LeL.refl _) rfl rfl ?_) | (refine j_kGuard rfl ?_; first | (refine (j_if rfl rfl rfl (fun hb => ?_) (fun hb => ?_)) <;> first | (exfalso; omega) | skip) | (refine (j_ifn rfl rfl rfl (fun hb => ?_) (fun hb => ?_)) <;> first | (exfalso; omega) | skip)))
      | refine j_nil ?_
      | (refine r_go ?_; first | refine run_seq ?_ | refine run_region ?_ | refine run_cond_f rfl ?_ | (refine (run_ifn rfl (fun hb => ?_) (fun hb => ?_)) <;> first | (exfalso; omega) | skip) | refine run_block ?_ | refine run_ret ?_ | refine run_skip ?_)
      | refine seqQ_normal ?_ | refine seqQ_ret ?_)
    all_goals first | exact absurd rfl (by assumption) | skip
    refine run_loop (fun i : Nat => [(5, .ip (encSystem y)), (6, .ip (encState t)), (7, .sl (cs.map Go.AI.encI)), (10, .sl ((allS y t).map (encS Go.AI.encI))), (22, .raw (.bool (dec (¬ Ch y t cs ∨ ∃ j, ∃ h : j < (allS y t).length, j < i ∧ ∀ k, cs.getD k 0 ≤ ((allS y t)[j]).getD k 0)))), (23, .int (i : Int))])
      (fun _ => h) (fun i => i ≤ (allS y t).length) (fun i => (allS y t).length - i) 0 ⟨rfl, rfl, rfl, rfl, raw_f (fun q => q.elim (fun q => q hM.1) (fun ⟨j, _, h, _⟩ => absurd h (Nat.not_lt_zero _))), rfl, trivial⟩ rfl (Nat.zero_le _) (fun i il => ?_)
    by_cases hi : i < (allS y t).length
    · have cAi := cA i hi
      have hli := fL i hi
      repeat' (first
      | (refine j_go ?_; first
        | refine j_op0 rfl rfl rfl rfl ?_ | (refine j_kIdx rfl ?_; first | refine j_idx rfl rfl rfl rfl rfl (by omega) rfl rfl rfl ?_) | (refine j_kLen rfl ?_; first | refine j_len rfl rfl rfl rfl rfl rfl ?_) | (refine j_kCall rfl rfl rfl rfl ?_; first | refine jc (cAi) (LeL.refl _) rfl rfl ?_) | (refine j_kGuard rfl ?_; first | (refine (j_ifn rfl rfl rfl (fun hb => ?_) (fun hb => ?_)) <;> first | (exfalso; omega) | skip)))
      | refine j_nil ?_
      | (refine r_go ?_; first | refine run_seq ?_ | refine run_region ?_ | refine run_cond_f rfl ?_ | (refine (run_if rfl (fun hb => ?_) (fun hb => ?_)) <;> first | (exfalso; omega) | skip) | refine run_block ?_ | refine run_skip ?_ | refine run_regionD (by kernel_rfl) ?_)
      | refine seqQ_normal ?_)
      all_goals first | exact absurd rfl (by assumption) | skip
      refine run_loop (fun k : Nat => [(5, .ip (encSystem y)), (6, .ip (encState t)), (7, .sl (cs.map Go.AI.encI)), (10, .sl ((allS y t).map (encS Go.AI.encI))), (22, .raw (.bool (dec (¬ Ch y t cs ∨ ∃ j, ∃ h : j < (allS y t).length, j < i ∧ ∀ k, cs.getD k 0 ≤ ((allS y t)[j]).getD k 0)))), (23, .int (i : Int)), (26, .raw (.bool (dec (∀ j, j < k → cs.getD j 0 ≤ ((allS y t)[i]).getD j 0)))), (27, .int (k : Int))])
        (fun _ => h) (fun k => k ≤ cs.length) (fun k => cs.length - k) 0 ⟨rfl, rfl, rfl, rfl, rfl, rfl, raw_t (fun j hj => absurd hj (Nat.not_lt_zero _)), rfl, trivial⟩ rfl (Nat.zero_le _) (fun k kl => ?_)
      by_cases hk : k < cs.length
      · have hk2 : k < ((allS y t)[i]).length := by omega
        have g1 : cs.getD k 0 = cs[k] := getD_get hk
        have g2 : ((allS y t)[i]).getD k 0 = ((allS y t)[i])[k] := getD_get hk2
        have un : (∀ j, j < k + 1 → cs.getD j 0 ≤ ((allS y t)[i]).getD j 0) ↔ ((∀ j, j < k → cs.getD j 0 ≤ ((allS y t)[i]).getD j 0) ∧ cs[k] ≤ ((allS y t)[i])[k]) := by
          rw [← g1, ← g2]
          exact ⟨fun q => ⟨fun j hj => q j (by omega), q k (by omega)⟩, fun q j hj => by
            by_cases e : j = k
            · rw [e]; exact q.2
            · exact q.1 j (by omega)⟩
        repeat' (first
      | (refine j_go ?_; first
        | refine j_op0 rfl rfl rfl rfl ?_ | refine j_off rfl rfl rfl ?_ | (refine j_kIdx rfl ?_; first | refine j_idx rfl rfl rfl rfl rfl (by omega) rfl rfl rfl ?_) | (refine j_kBin rfl ?_; first | refine j_in rfl rfl ⟨by omega, by omega⟩ rfl rfl ?_) | (refine j_kLen rfl ?_; first | refine j_len rfl rfl rfl rfl rfl rfl ?_) | (refine j_kGuard rfl ?_; first | (refine (j_if rfl rfl rfl (fun hb => ?_) (fun hb => ?_)) <;> first | (exfalso; omega) | skip)))
      | refine j_nil ?_
      | (refine r_go ?_; first | refine run_seq ?_ | refine run_region ?_ | (refine (run_if rfl (fun hb => ?_) (fun hb => ?_)) <;> first | (exfalso; omega) | skip) | refine run_block ?_ | refine run_skip ?_ | refine run_regionD (by kernel_rfl) ?_)
      | refine seqQ_normal ?_ | refine blockQ_normal ?_)
        all_goals first
          | exact loopQ_next (k + 1) (by omega) (by omega) rfl ⟨rfl, rfl, rfl, rfl, rfl, rfl, raw_d ⟨fun q => un.2 ⟨hb, q⟩, fun q => (un.1 q).2⟩, nx _, trivial⟩
          | exact loopQ_next (k + 1) (by omega) (by omega) rfl ⟨rfl, rfl, rfl, rfl, rfl, rfl, raw_f (fun q => hb (un.1 q).1), nx _, trivial⟩
      · have hke : k = cs.length := by omega
        subst hke
        have full : (∀ j, j < cs.length → cs.getD j 0 ≤ ((allS y t)[i]).getD j 0) → ∀ k, cs.getD k 0 ≤ ((allS y t)[i]).getD k 0 := fun q k => by
          by_cases e : k < cs.length
          · exact q k e
          · rw [List.getD_eq_getElem?_getD, List.getD_eq_getElem?_getD, List.getElem?_eq_none (by omega), List.getElem?_eq_none (by omega)]
            exact Int.le_refl _
        repeat' (first
      | (refine j_go ?_; first
        | refine j_op0 rfl rfl rfl rfl ?_ | refine j_off rfl rfl rfl ?_ | (refine j_kBin rfl ?_; first | refine j_in rfl rfl ⟨by omega, by omega⟩ rfl rfl ?_) | (refine j_kLen rfl ?_; first | refine j_len rfl rfl rfl rfl rfl rfl ?_) | (refine j_kGuard rfl ?_; first | (refine (j_if rfl rfl rfl (fun hb => ?_) (fun hb => ?_)) <;> first | (exfalso; omega) | skip)))
      | refine j_nil ?_
      | (refine r_go ?_; first | refine run_seq ?_ | refine run_region ?_ | (refine (run_if rfl (fun hb => ?_) (fun hb => ?_)) <;> first | (exfalso; omega) | skip) | refine run_exit ?_)
      | refine seqQ_normal ?_ | refine seqQ_exit ?_ | refine blockQ_normal ?_ | refine blockQ_eq ?_ | refine loopQ_exit ?_)
        all_goals first
          | exact loopQ_next (i + 1) (by omega) (by omega) rfl ⟨rfl, rfl, rfl, rfl, raw_t (hb.imp id fun ⟨j, h, l, q⟩ => ⟨j, h, by omega, q⟩), nx _, trivial⟩
          | exact loopQ_next (i + 1) (by omega) (by omega) rfl ⟨rfl, rfl, rfl, rfl, raw_d ⟨fun q => .inr ⟨i, hi, by omega, full q⟩, fun q0 => q0.elim (fun q => absurd (.inl q) hb) (fun ⟨j, h, l, r⟩ => by
              by_cases e : j = i
              · subst e; exact fun k _ => r k
              · exact absurd (.inr ⟨j, h, by omega, r⟩) hb)⟩, nx _, trivial⟩
    · have hie : i = (allS y t).length := by omega
      subst hie
      repeat' (first
      | (refine j_go ?_; first
        | refine j_op0 rfl rfl rfl rfl ?_ | (refine j_kLen rfl ?_; first | refine j_len rfl rfl rfl rfl rfl rfl ?_))
      | refine j_nil ?_
      | (refine r_go ?_; first | refine run_seq ?_ | refine run_region ?_ | (refine (run_if rfl (fun hb => ?_) (fun hb => ?_)) <;> first | (exfalso; omega) | skip) | refine run_ret ?_ | refine run_exit ?_)
      | refine seqQ_normal ?_ | refine seqQ_exit ?_ | refine blockQ_eq ?_ | refine loopQ_exit ?_)
      refine end1 rfl (List.Sublist.refl _) (rbT ?_).symm (.inl rfl)
      by_cases q : Ch y t cs
      · obtain ⟨j, hj, r⟩ := hab q
        exact .inr ⟨j, hj, hj, r⟩
      · exact .inl q
  · rw [dec_f hM] at cM cHC
    repeat' (first
      | (refine j_go ?_; first
        | refine j_op0 rfl rfl rfl rfl ?_ | refine j_off rfl rfl rfl ?_ | (refine j_kLen rfl ?_; first | refine j_len rfl rfl rfl rfl rfl rfl ?_) | (refine j_kCall rfl rfl rfl rfl ?_; first | refine jc (cF) (LeL.refl _) rfl rfl ?_ | refine jc (cFM) (LeL.refl _) rfl rfl ?_ | refine jc (cM) (LeL.refl _) rfl rfl ?_ | refine jc (cC) (LeL.refl _) rfl rfl ?_ | refine jc (cN) (LeL.refl _) rfl rfl ?_ | refine jc (cR) (LeL.refl _) rfl rfl ?_ | refine jc (cHF) (LeL.refl _) rfl rfl ?_ | refine jc (cHC) (LeL.refl _) rfl rfl ?_) | (refine j_kGuard rfl ?_; first | (refine (j_if rfl rfl rfl (fun hb => ?_) (fun hb => ?_)) <;> first | (exfalso; omega) | skip) | (refine (j_ifn rfl rfl rfl (fun hb => ?_) (fun hb => ?_)) <;> first | (exfalso; omega) | skip)))
      | refine j_nil ?_
      | (refine r_go ?_; first | refine run_seq ?_ | refine run_region ?_ | refine run_cond_f rfl ?_ | (refine (run_ifn rfl (fun hb => ?_) (fun hb => ?_)) <;> first | (exfalso; omega) | skip) | refine run_block ?_ | refine run_ret ?_ | refine run_skip ?_)
      | refine seqQ_normal ?_ | refine seqQ_ret ?_)
    all_goals first | exact absurd rfl (by assumption) | skip
    refine run_loop (fun i : Nat => [(5, .ip (encSystem y)), (6, .ip (encState t)), (7, .sl (cs.map Go.AI.encI)), (10, .sl ((allS y t).map (encS Go.AI.encI))), (22, .raw (.bool (dec (¬ Ch y t cs ∨ ∃ j, ∃ h : j < (allS y t).length, j < i ∧ ∀ k, cs.getD k 0 ≤ ((allS y t)[j]).getD k 0)))), (23, .int (i : Int))])
      (fun _ => h) (fun i => i ≤ (allS y t).length) (fun i => (allS y t).length - i) 0 ⟨rfl, rfl, rfl, rfl, raw_n ⟨fun q => .inl q, fun q => q.elim id (fun ⟨j, _, h, _⟩ => absurd h (Nat.not_lt_zero _))⟩, rfl, trivial⟩ rfl (Nat.zero_le _) (fun i il => ?_)
    by_cases hi : i < (allS y t).length
    · have cAi := cA i hi
      have hli := fL i hi
      repeat' (first
      | (refine j_go ?_; first
        | refine j_op0 rfl rfl rfl rfl ?_ | (refine j_kIdx rfl ?_; first | refine j_idx rfl rfl rfl rfl rfl (by omega) rfl rfl rfl ?_) | (refine j_kLen rfl ?_; first | refine j_len rfl rfl rfl rfl rfl rfl ?_) | (refine j_kCall rfl rfl rfl rfl ?_; first | refine jc (cAi) (LeL.refl _) rfl rfl ?_) | (refine j_kGuard rfl ?_; first | (refine (j_ifn rfl rfl rfl (fun hb => ?_) (fun hb => ?_)) <;> first | (exfalso; omega) | skip)))
      | refine j_nil ?_
      | (refine r_go ?_; first | refine run_seq ?_ | refine run_region ?_ | refine run_cond_f rfl ?_ | (refine (run_if rfl (fun hb => ?_) (fun hb => ?_)) <;> first | (exfalso; omega) | skip) | refine run_block ?_ | refine run_skip ?_ | refine run_regionD (by kernel_rfl) ?_)
      | refine seqQ_normal ?_)
      all_goals first | exact absurd rfl (by assumption) | skip
      refine run_loop (fun k : Nat => [(5, .ip (encSystem y)), (6, .ip (encState t)), (7, .sl (cs.map Go.AI.encI)), (10, .sl ((allS y t).map (encS Go.AI.encI))), (22, .raw (.bool (dec (¬ Ch y t cs ∨ ∃ j, ∃ h : j < (allS y t).length, j < i ∧ ∀ k, cs.getD k 0 ≤ ((allS y t)[j]).getD k 0)))), (23, .int (i : Int)), (26, .raw (.bool (dec (∀ j, j < k → cs.getD j 0 ≤ ((allS y t)[i]).getD j 0)))), (27, .int (k : Int))])
        (fun _ => h) (fun k => k ≤ cs.length) (fun k => cs.length - k) 0 ⟨rfl, rfl, rfl, rfl, rfl, rfl, raw_t (fun j hj => absurd hj (Nat.not_lt_zero _)), rfl, trivial⟩ rfl (Nat.zero_le _) (fun k kl => ?_)
      by_cases hk : k < cs.length
      · have hk2 : k < ((allS y t)[i]).length := by omega
        have g1 : cs.getD k 0 = cs[k] := getD_get hk
        have g2 : ((allS y t)[i]).getD k 0 = ((allS y t)[i])[k] := getD_get hk2
        have un : (∀ j, j < k + 1 → cs.getD j 0 ≤ ((allS y t)[i]).getD j 0) ↔ ((∀ j, j < k → cs.getD j 0 ≤ ((allS y t)[i]).getD j 0) ∧ cs[k] ≤ ((allS y t)[i])[k]) := by
          rw [← g1, ← g2]
          exact ⟨fun q => ⟨fun j hj => q j (by omega), q k (by omega)⟩, fun q j hj => by
            by_cases e : j = k
            · rw [e]; exact q.2
            · exact q.1 j (by omega)⟩
        repeat' (first
      | (refine j_go ?_; first
        | refine j_op0 rfl rfl rfl rfl ?_ | refine j_off rfl rfl rfl ?_ | (refine j_kIdx rfl ?_; first | refine j_idx rfl rfl rfl rfl rfl (by omega) rfl rfl rfl ?_) | (refine j_kBin rfl ?_; first | refine j_in rfl rfl ⟨by omega, by omega⟩ rfl rfl ?_) | (refine j_kLen rfl ?_; first | refine j_len rfl rfl rfl rfl rfl rfl ?_) | (refine j_kGuard rfl ?_; first | (refine (j_if rfl rfl rfl (fun hb => ?_) (fun hb => ?_)) <;> first | (exfalso; omega) | skip)))
      | refine j_nil ?_
      | (refine r_go ?_; first | refine run_seq ?_ | refine run_region ?_ | (refine (run_if rfl (fun hb => ?_) (fun hb => ?_)) <;> first | (exfalso; omega) | skip) | refine run_block ?_ | refine run_skip ?_ | refine run_regionD (by kernel_rfl) ?_)
      | refine seqQ_normal ?_ | refine blockQ_normal ?_)
        all_goals first
          | exact loopQ_next (k + 1) (by omega) (by omega) rfl ⟨rfl, rfl, rfl, rfl, rfl, rfl, raw_d ⟨fun q => un.2 ⟨hb, q⟩, fun q => (un.1 q).2⟩, nx _, trivial⟩
          | exact loopQ_next (k + 1) (by omega) (by omega) rfl ⟨rfl, rfl, rfl, rfl, rfl, rfl, raw_f (fun q => hb (un.1 q).1), nx _, trivial⟩
      · have hke : k = cs.length := by omega
        subst hke
        have full : (∀ j, j < cs.length → cs.getD j 0 ≤ ((allS y t)[i]).getD j 0) → ∀ k, cs.getD k 0 ≤ ((allS y t)[i]).getD k 0 := fun q k => by
          by_cases e : k < cs.length
          · exact q k e
          · rw [List.getD_eq_getElem?_getD, List.getD_eq_getElem?_getD, List.getElem?_eq_none (by omega), List.getElem?_eq_none (by omega)]
            exact Int.le_refl _
        repeat' (first
      | (refine j_go ?_; first
        | refine j_op0 rfl rfl rfl rfl ?_ | refine j_off rfl rfl rfl ?_ | (refine j_kBin rfl ?_; first | refine j_in rfl rfl ⟨by omega, by omega⟩ rfl rfl ?_) | (refine j_kLen rfl ?_; first | refine j_len rfl rfl rfl rfl rfl rfl ?_) | (refine j_kGuard rfl ?_; first | (refine (j_if rfl rfl rfl (fun hb => ?_) (fun hb => ?_)) <;> first | (exfalso; omega) | skip)))
      | refine j_nil ?_
      | (refine r_go ?_; first | refine run_seq ?_ | refine run_region ?_ | (refine (run_if rfl (fun hb => ?_) (fun hb => ?_)) <;> first | (exfalso; omega) | skip) | refine run_exit ?_)
      | refine seqQ_normal ?_ | refine seqQ_exit ?_ | refine blockQ_normal ?_ | refine blockQ_eq ?_ | refine loopQ_exit ?_)
        all_goals first
          | exact loopQ_next (i + 1) (by omega) (by omega) rfl ⟨rfl, rfl, rfl, rfl, raw_t (hb.imp id fun ⟨j, h, l, q⟩ => ⟨j, h, by omega, q⟩), nx _, trivial⟩
          | exact loopQ_next (i + 1) (by omega) (by omega) rfl ⟨rfl, rfl, rfl, rfl, raw_d ⟨fun q => .inr ⟨i, hi, by omega, full q⟩, fun q0 => q0.elim (fun q => absurd (.inl q) hb) (fun ⟨j, h, l, r⟩ => by
              by_cases e : j = i
              · subst e; exact fun k _ => r k
              · exact absurd (.inr ⟨j, h, by omega, r⟩) hb)⟩, nx _, trivial⟩
    · have hie : i = (allS y t).length := by omega
      subst hie
      repeat' (first
      | (refine j_go ?_; first
        | refine j_op0 rfl rfl rfl rfl ?_ | (refine j_kLen rfl ?_; first | refine j_len rfl rfl rfl rfl rfl rfl ?_))
      | refine j_nil ?_
      | (refine r_go ?_; first | refine run_seq ?_ | refine run_region ?_ | (refine (run_if rfl (fun hb => ?_) (fun hb => ?_)) <;> first | (exfalso; omega) | skip) | refine run_ret ?_ | refine run_exit ?_)
      | refine seqQ_normal ?_ | refine seqQ_exit ?_ | refine blockQ_eq ?_ | refine loopQ_exit ?_)
      refine end1 rfl (List.Sublist.refl _) (rbT ?_).symm (.inl rfl)
      by_cases q : Ch y t cs
      · obtain ⟨j, hj, r⟩ := hab q
        exact .inr ⟨j, hj, hj, r⟩
      · exact .inl q
end Go.Proofs.YtkfmjjoalkoncaaGreat
