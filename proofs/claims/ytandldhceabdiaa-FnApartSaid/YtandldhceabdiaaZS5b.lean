/-
  How many maximal choices there are: the reference's side. No condition.
-/
import Derived.Test.YtandldhceabdiaaZS5h
import Derived.Test.YtandldhceabdiaaZDJ
namespace Go.Proofs.Ytandldhceabdiaa
open Go.AI
set_option maxRecDepth 8000
set_option maxHeartbeats 1600000

theorem o_l01All (K : Nat) (bag : List Int) (parts : List (List Int)) (hp : ∀ p ∈ parts, Ptk K p) (hl : parts.length ≤ 1000000) (hbg : Bgk K bag) (h16 : tot bag ≤ 16) : Does Try.prog 129 [.sl (bag.map Go.AI.encI), .sl (parts.map (encS Go.AI.encI))] []
    (fun v h' => h' = [] ∧ (packN parts parts bag ≤ 2000 → ∃ ob cap, v = .tup [.os ob (packN parts parts bag) cap, .int 0]) ∧ (2000 < packN parts parts bag → ∃ x, v = .tup [x, .int 3])) := by
  refine fn_of_runD tyOk ztOk mix Try.func129 rfl (by decide) Try.ntmps129 (fun w0 F => ?_)
  change Run _ _ _ _ _ F
  have hsm : Small bag := by have := hbg.1; exact Bag.small ⟨hbg.2, by omega, by omega⟩
  repeat' (first
      | (refine j_go ?_; first
        | refine j_op0 rfl rfl rfl rfl ?_ | (refine j_kCall rfl rfl rfl rfl ?_; first | refine jc (c_l01Size _ hsm) (LeL.refl _) rfl rfl ?_) | (refine j_kStore rfl ?_; first | refine j_store 0 rfl rfl rfl rfl rfl rfl rfl rfl rfl rfl rfl ?_) | (refine j_kBsl rfl ?_; first | refine j_bs0 rfl rfl rfl rfl rfl rfl ?_) | refine j_alloc rfl rfl rfl rfl rfl (fun _ => ?_))
      | refine j_nil ?_
      | (refine r_go ?_; first | refine run_seq ?_ | refine run_region ?_ | (refine (run_if rfl (fun hb => ?_) (fun hb => ?_)) <;> first | (exfalso; omega) | skip) | refine run_skip ?_)
      | refine seqQ_normal ?_)
  rename_i b6
  refine j_view (view_none 22 0 rfl) ?_
  refine j_kCall rfl rfl rfl rfl ?_
  refine jcp F (o_l01Pack K parts [] bag [] b6 0 _ hp (by simpa using hl) hbg rfl (by omega) ⟨none, 0, [], rfl, rfl⟩) (List.Perm.swap _ _ _) (LeL.cons (Le.refl _) (LeL.cons (Le.refl _) (LeL.cons (Le.nil 0) (LeL.cons (Le.refl _) LeL.nil)))) rfl rfl (fun v h1 hR => ?_)
  obtain ⟨ob, cp, vs, hvs, rfl⟩ := hR
  rw [Nat.zero_add] at hvs
  have e0 : packN ([] ++ parts) parts bag = packN parts parts bag := rfl
  rw [e0] at hvs
  repeat' (first
      | (refine j_go ?_; first
        | refine j_op0 rfl rfl rfl rfl ?_ | (refine j_kLen rfl ?_; first | refine j_op rfl rfl rfl rfl ?_) | (refine j_kLoad rfl ?_; first | refine j_mload 0 rfl rfl rfl rfl rfl rfl rfl ?_) | (refine j_kBsl rfl ?_; first | refine j_bs0 rfl rfl rfl rfl rfl rfl ?_))
      | refine j_nil ?_
      | (refine r_go ?_; first | refine run_seq ?_ | refine run_region ?_ | (refine (run_if rfl (fun hb => ?_) (fun hb => ?_)) <;> first | (exfalso; omega) | skip) | refine run_ret ?_ | refine run_skip ?_)
      | refine seqQ_normal ?_ | refine seqQ_ret ?_)
  · refine endD_view (view_sub (h0 := F) (by exact List.Sublist.cons _ (List.Sublist.cons _ (List.Sublist.refl _)))) ?_
    exact endD_ret (h1 := []) rfl (.cons (.tmp rfl) (.cons (.tmp rfl) .nil)) (Le.refl _) ⟨rfl, fun q => by omega, fun _ => ⟨_, rfl⟩⟩ (.inl rfl)
  · refine endD_view (view_sub (h0 := F) (by exact List.Sublist.cons _ (List.Sublist.cons _ (List.Sublist.refl _)))) ?_
    exact endD_ret (h1 := []) rfl (.cons (.tmp rfl) (.cons (.tmp rfl) .nil)) (Le.refl _) ⟨rfl, fun q => ⟨ob, cp, by rw [hvs, Nat.min_eq_right (by omega)]; rfl⟩, fun q => by omega⟩ (.inl rfl)

open Classical in
/-- The applicable rules of a cell, among the first k; what they need. -/
noncomputable def cIx (s : System) (t : State) (c : Int) : Nat → List Int
  | 0 => []
  | k + 1 => if ∃ h : k < s.rules.length, App s t s.rules[k] ∧ s.rules[k].cell = c then cIx s t c k ++ [(k : Int)] else cIx s t c k
open Classical in
noncomputable def cNd (s : System) (t : State) (c : Int) : Nat → List (List Int)
  | 0 => []
  | k + 1 => if ∃ h : k < s.rules.length, App s t s.rules[k] ∧ s.rules[k].cell = c then cNd s t c k ++ [(s.rules.getD k default).need] else cNd s t c k
theorem cIx_y {s : System} {t : State} {c : Int} {k : Nat} (hk : k < s.rules.length) (h : App s t s.rules[k] ∧ s.rules[k].cell = c) : cIx s t c (k + 1) = cIx s t c k ++ [(k : Int)] ∧ cNd s t c (k + 1) = cNd s t c k ++ [s.rules[k].need] := by
  constructor
  · rw [cIx, if_pos ⟨hk, h⟩]
  · rw [cNd, if_pos ⟨hk, h⟩, getD_get hk]
theorem cIx_n {s : System} {t : State} {c : Int} {k : Nat} (hk : k < s.rules.length) (h : ¬ (App s t s.rules[k] ∧ s.rules[k].cell = c)) : cIx s t c (k + 1) = cIx s t c k ∧ cNd s t c (k + 1) = cNd s t c k := by
  constructor
  · rw [cIx, if_neg (fun ⟨_, q⟩ => h q)]
  · rw [cNd, if_neg (fun ⟨_, q⟩ => h q)]
theorem cIx_len (s : System) (t : State) (c : Int) : ∀ k, (cIx s t c k).length ≤ k ∧ (cNd s t c k).length = (cIx s t c k).length
  | 0 => by simp [cIx, cNd]
  | k + 1 => by
    have ih := cIx_len s t c k
    rw [cIx, cNd]
    split
    · simp only [List.length_append, List.length_cons, List.length_nil]; omega
    · omega
theorem cNd_ok {s : System} {t : State} (hv : s.Ok) (c : Int) : ∀ k, k ≤ s.rules.length → ∀ p ∈ cNd s t c k, Ptk s.kinds.toNat p
  | 0, _, p, hp => by simp [cNd] at hp
  | k + 1, hk, p, hp => by
    have ih := cNd_ok hv (t := t) c k (by omega)
    rw [cNd] at hp
    split at hp
    · rcases List.mem_append.1 hp with q | q
      · exact ih p q
      · rw [List.mem_singleton, getD_get (by omega)] at q
        subst q
        have hr := (hv.2.2 k (by omega)).1
        have hb := hr.2.2.2.2.1
        have k8 := hv.1.1
        exact ⟨⟨⟨by have := hb.2; omega, by omega, by omega⟩, hb.1.1⟩, hr.2.2.2.2.2.2.2.2.2.1⟩
    · exact ih p hp
theorem bag_bgk {s : System} {t : State} (hv : s.Ok) (ht : s.StateOk t) {c : Nat} (hc : c < t.bags.length) : Bgk s.kinds.toNat t.bags[c] := by
  have hb := (ht.2.2.2.2 c hc).1
  have k8 := hv.1.1
  exact ⟨⟨by have := hb.2; omega, by omega, by omega⟩, hb.1.1⟩

theorem c_l03Cell (s : System) (t : State) (c : Int) (hv : s.Ok) : Gives Try.prog 127 [.ip (encSystem s), .sl ((appL s t).map encB), .int c] (.tup [.sl ((cIx s t c s.rules.length).map Go.AI.encI), .sl ((cNd s t c s.rules.length).map (encS Go.AI.encI))]) := by
  refine fn_of_run tyOk ztOk mix Try.func127 rfl (by decide) Try.ntmps127 (fun w0 h => ?_)
  have h16 := hv.2.1
  have al := appL_len s t
  repeat' (first
      | (refine j_go ?_; first
        | refine j_op0 rfl rfl rfl rfl ?_ | (refine j_kBsl rfl ?_; first | refine j_bs0 rfl rfl rfl rfl rfl rfl ?_))
      | refine j_nil ?_
      | (refine r_go ?_; first | refine run_seq ?_ | refine run_region ?_ | refine run_block ?_)
      | refine seqQ_normal ?_)
  refine run_view (view_none 22 0 rfl) ?_
  refine run_view (view_none 3 0 rfl) ?_
  refine run_loop (fun x : Nat × (Option Nat × Nat) × (Option Nat × Nat) => [(0, .ip (encSystem s)), (1, .sl ((appL s t).map encB)), (2, .int c), (8, .os x.2.1.1 (cIx s t c x.1).length x.2.1.2), (9, .os x.2.2.1 (cNd s t c x.1).length x.2.2.2), (10, .int (x.1 : Int))])
    (fun x => ⟨x.2.1.1, 3, x.2.1.2 * 1, ((cIx s t c x.1).map Go.AI.encI).flatten⟩ :: ⟨x.2.2.1, 22, x.2.2.2 * 1, ((cNd s t c x.1).map (encS Go.AI.encI)).flatten⟩ :: h) (fun x => x.1 ≤ (appL s t).length) (fun x => (appL s t).length - x.1) (0, (none, 0), (none, 0)) ⟨rfl, rfl, rfl, rfl, rfl, rfl, trivial⟩ rfl (Nat.zero_le _) (fun ⟨k, ⟨oa, ca⟩, ob, cb⟩ kl => ?_)
  dsimp only at kl ⊢
  have cl := cIx_len s t c k
  by_cases hk : k < (appL s t).length
  · have hkr : k < s.rules.length := by omega
    have hg := appL_get hk
    by_cases hA : App s t s.rules[k]
    · rw [dec_t hA] at hg
      by_cases hc : s.rules[k].cell = c
      · have ⟨y1, y2⟩ := cIx_y hkr ⟨hA, hc⟩
        repeat' (first
      | (refine j_go ?_; first
        | refine j_op0 rfl rfl rfl rfl ?_ | refine j_off rfl rfl rfl ?_ | (refine j_kIdx rfl ?_; first | refine j_idx rfl rfl rfl rfl rfl (by omega) rfl rfl rfl ?_) | (refine j_kBin rfl ?_; first | refine j_in rfl rfl ⟨by omega, by omega⟩ rfl rfl ?_) | (refine j_kLen rfl ?_; first | refine j_len rfl rfl rfl rfl rfl rfl ?_) | (refine j_kBsl rfl ?_; first | refine j_bsl rfl rfl rfl rfl rfl rfl rfl rfl rfl rfl rfl ?_) | (refine j_kGuard rfl ?_; first | (refine (j_branch rfl rfl rfl (fun hb => ?_) (fun hb => ?_)) <;> skip; (fail_if_success guard_hyp hb : true = true); (fail_if_success guard_hyp hb : true = false); (fail_if_success guard_hyp hb : false = true); (fail_if_success guard_hyp hb : false = false))))
      | refine j_nil ?_
      | (refine r_go ?_; first | refine run_seq ?_ | refine run_region ?_ | refine run_cond_f rfl ?_ | (refine (run_if rfl (fun hb => ?_) (fun hb => ?_)) <;> first | (exfalso; omega) | skip) | refine run_block ?_ | refine run_skip ?_)
      | refine seqQ_normal ?_ | refine blockQ_normal ?_)
        all_goals first | exact absurd ‹(appL s t)[k] = true› (by rw [hg]; decide) | exact absurd ‹(appL s t)[k] = false› (by rw [hg]; decide) | (exfalso; omega) | skip
        refine j_append 0 (g := Go.AI.encI) (ys := cIx s t c k) [(k : Int)] rfl rfl rfl rfl rfl rfl rfl rfl rfl rfl rfl rfl (fun _ => rfl) (fun _ hy => by simp only [List.mem_singleton] at hy; subst hy; rfl) ⟨by simp only [List.length_cons, List.length_nil]; omega, by simp only [List.length_cons, List.length_nil]; omega⟩ rfl rfl (fun oa' ca' => ?_)
        rw [← y1]
        repeat' (first
      | (refine j_go ?_; first
        | refine j_op0 rfl rfl rfl rfl ?_ | (refine j_kIdx rfl ?_; first | refine j_idx rfl rfl rfl rfl rfl (by omega) rfl rfl rfl ?_) | (refine j_kBsl rfl ?_; first | refine j_bsl rfl rfl rfl rfl rfl rfl rfl rfl rfl rfl rfl ?_))
      | refine j_nil ?_
      | (refine r_go ?_; first | refine run_region ?_)
      | refine seqQ_normal ?_)
        refine j_append 1 (g := encS Go.AI.encI) (ys := cNd s t c k) [s.rules[k].need] rfl rfl rfl rfl rfl rfl rfl rfl rfl rfl rfl rfl (fun _ => rfl) (fun _ hy => by simp only [List.mem_singleton] at hy; subst hy; rfl) ⟨by simp only [List.length_cons, List.length_nil]; omega, by simp only [List.length_cons, List.length_nil]; omega⟩ rfl rfl (fun ob' cb' => ?_)
        rw [← y2]
        repeat' (first
      | (refine j_go ?_; first
        | refine j_op0 rfl rfl rfl rfl ?_ | (refine j_kBin rfl ?_; first | refine j_in rfl rfl ⟨by omega, by omega⟩ rfl rfl ?_))
      | refine j_nil ?_
      | (refine r_go ?_; first | refine run_region ?_)
      | refine seqQ_normal ?_ | refine blockQ_normal ?_)
        exact loopQ_next (k + 1, (oa', ca'), ob', cb') (by dsimp only; omega) (by dsimp only; omega) rfl ⟨rfl, rfl, rfl, rfl, rfl, nx _, trivial⟩
      · have ⟨y1, y2⟩ := cIx_n (t := t) hkr (fun q => hc q.2)
        repeat' (first
      | (refine j_go ?_; first
        | refine j_op0 rfl rfl rfl rfl ?_ | refine j_off rfl rfl rfl ?_ | (refine j_kIdx rfl ?_; first | refine j_idx rfl rfl rfl rfl rfl (by omega) rfl rfl rfl ?_) | (refine j_kBin rfl ?_; first | refine j_in rfl rfl ⟨by omega, by omega⟩ rfl rfl ?_) | (refine j_kLen rfl ?_; first | refine j_len rfl rfl rfl rfl rfl rfl ?_) | (refine j_kGuard rfl ?_; first | (refine (j_branch rfl rfl rfl (fun hb => ?_) (fun hb => ?_)) <;> skip; (fail_if_success guard_hyp hb : true = true); (fail_if_success guard_hyp hb : true = false); (fail_if_success guard_hyp hb : false = true); (fail_if_success guard_hyp hb : false = false))))
      | refine j_nil ?_
      | (refine r_go ?_; first | refine run_seq ?_ | refine run_region ?_ | refine run_cond_f rfl ?_ | (refine (run_if rfl (fun hb => ?_) (fun hb => ?_)) <;> first | (exfalso; omega) | skip) | refine run_block ?_ | refine run_skip ?_)
      | refine seqQ_normal ?_ | refine blockQ_normal ?_)
        all_goals first
          | exact absurd ‹(appL s t)[k] = true› (by rw [hg]; decide) | exact absurd ‹(appL s t)[k] = false› (by rw [hg]; decide)
          | (exfalso; omega)
          | (rw [← y1, ← y2]; exact loopQ_next (k + 1, (oa, ca), ob, cb) (by dsimp only; omega) (by dsimp only; omega) rfl ⟨rfl, rfl, rfl, rfl, rfl, nx _, trivial⟩)
          | trace_state
    · rw [dec_f hA] at hg
      have ⟨y1, y2⟩ := cIx_n (t := t) (c := c) hkr (fun q => hA q.1)
      repeat' (first
      | (refine j_go ?_; first
        | refine j_op0 rfl rfl rfl rfl ?_ | refine j_off rfl rfl rfl ?_ | (refine j_kIdx rfl ?_; first | refine j_idx rfl rfl rfl rfl rfl (by omega) rfl rfl rfl ?_) | (refine j_kBin rfl ?_; first | refine j_in rfl rfl ⟨by omega, by omega⟩ rfl rfl ?_) | (refine j_kLen rfl ?_; first | refine j_len rfl rfl rfl rfl rfl rfl ?_) | (refine j_kBsl rfl ?_; first | refine j_bsl rfl rfl rfl rfl rfl rfl rfl rfl rfl rfl rfl ?_) | (refine j_kGuard rfl ?_; first | (refine (j_branch rfl rfl rfl (fun hb => ?_) (fun hb => ?_)) <;> skip; (fail_if_success guard_hyp hb : true = true); (fail_if_success guard_hyp hb : true = false); (fail_if_success guard_hyp hb : false = true); (fail_if_success guard_hyp hb : false = false))))
      | refine j_nil ?_
      | (refine r_go ?_; first | refine run_seq ?_ | refine run_region ?_ | refine run_cond_f rfl ?_ | (refine (run_if rfl (fun hb => ?_) (fun hb => ?_)) <;> first | (exfalso; omega) | skip) | refine run_block ?_ | refine run_skip ?_)
      | refine seqQ_normal ?_ | refine blockQ_normal ?_)
      all_goals first
        | exact absurd ‹(appL s t)[k] = true› (by rw [hg]; decide) | exact absurd ‹(appL s t)[k] = false› (by rw [hg]; decide)
        | (exfalso; omega)
        | (rw [← y1, ← y2]; exact loopQ_next (k + 1, (oa, ca), ob, cb) (by dsimp only; omega) (by dsimp only; omega) rfl ⟨rfl, rfl, rfl, rfl, rfl, nx _, trivial⟩)
        | trace_state
  · have hke : k = s.rules.length := by omega
    subst hke
    repeat' (first
      | (refine j_go ?_; first
        | refine j_op0 rfl rfl rfl rfl ?_ | (refine j_kLen rfl ?_; first | refine j_len rfl rfl rfl rfl rfl rfl ?_))
      | refine j_nil ?_
      | (refine r_go ?_; first | refine run_seq ?_ | refine run_region ?_ | (refine (run_if rfl (fun hb => ?_) (fun hb => ?_)) <;> first | (exfalso; omega) | skip) | refine run_ret ?_ | refine run_exit ?_)
      | refine seqQ_normal ?_ | refine seqQ_exit ?_ | refine blockQ_eq ?_ | refine loopQ_exit ?_)
    refine end_view (view_freeze (g := Go.AI.encI) (z := 1) (ys := cIx s t c s.rules.length) 0 6 rfl rfl rfl (fun _ => rfl) rfl rfl) ?_
    refine end_view (view_freeze (g := encS Go.AI.encI) (z := 1) (ys := cNd s t c s.rules.length) 0 7 rfl rfl rfl (fun _ => rfl) rfl rfl) ?_
    exact end_le (List.Sublist.refl _) (vs := [_, _]) (.cons (.tmp rfl) (.cons (.tmp rfl) .nil)) (Le.refl _) (.inl rfl)

noncomputable def ndC (s : System) (t : State) (c : Nat) : List (List Int) := cNd s t (c : Int) s.rules.length
noncomputable def cN (s : System) (t : State) (c : Nat) : Nat := packN (ndC s t c) (ndC s t c) (t.bags.getD c [])
def Big16 (s : System) (t : State) (k : Nat) : Prop := ∃ c, c < k ∧ ndC s t c ≠ [] ∧ 16 < tot (t.bags.getD c [])
def Big2 (s : System) (t : State) (k : Nat) : Prop := ∃ c, c < k ∧ ndC s t c ≠ [] ∧ 2000 < cN s t c
open Classical in
noncomputable def lensK (s : System) (t : State) : Nat → List Nat
  | 0 => []
  | k + 1 => if ndC s t k = [] then lensK s t k else lensK s t k ++ [cN s t k]
theorem lensK_len (s : System) (t : State) : ∀ k, (lensK s t k).length ≤ k
  | 0 => by simp [lensK]
  | k + 1 => by
    have ih := lensK_len s t k
    rw [lensK]; split
    · omega
    · simp only [List.length_append, List.length_cons, List.length_nil]; omega
/-- Lists of the call's own, of so many elements each. -/
def LensOk (vs : List A) (L : List Nat) : Prop := vs.length = L.length ∧ ∀ i (h : i < vs.length) (h2 : i < L.length), ∃ ob cap, vs[i] = .os ob L[i] cap
theorem LensOk.snoc {vs : List A} {L : List Nat} (H : LensOk vs L) (ob : Option Nat) (N cap : Nat) : LensOk (vs ++ [A.os ob N cap]) (L ++ [N]) := by
  refine ⟨by simp [H.1], fun i h h2 => ?_⟩
  by_cases hi : i < vs.length
  · rw [List.getElem_append_left hi, List.getElem_append_left (by have := H.1; omega)]; exact H.2 i hi _
  · have e : i = vs.length := by simp at h; omega
    have e2 : i = L.length := by have := H.1; omega
    refine ⟨ob, cap, ?_⟩
    rw [List.getElem_append_right (by omega), List.getElem_append_right (by omega)]
    simp [e, H.1]
theorem o_l03Packings (s : System) (t : State) (hv : s.Ok) (ht : s.StateOk t) : Does Try.prog 69 [.ip (encSystem s), .ip (encState t)] []
    (fun v h' => (¬ (Big16 s t s.parents.length ∨ Big2 s t s.parents.length) → ∃ x b cap vs, LensOk vs (lensK s t s.parents.length) ∧ v = .tup [x, .os b vs.length cap, .int 0] ∧ h' = [⟨b, 27, cap * 1, (vs.map fun a => [a]).flatten⟩]) ∧
      ((Big16 s t s.parents.length ∨ Big2 s t s.parents.length) → ∃ x y, v = .tup [x, y, .int 3] ∧ h' = [])) := by
  refine fn_of_runD tyOk ztOk mix Try.func69 rfl (by decide) Try.ntmps69 (fun w0 F => ?_)
  change Run _ _ _ _ _ F
  have h6 := hv.1.2.1
  have h16 := hv.2.1
  have hbl := ht.2.1
  repeat' (first
      | (refine j_go ?_; first
        | refine j_op0 rfl rfl rfl rfl ?_ | (refine j_kCall rfl rfl rfl rfl ?_; first | refine jc (c_l03Applicable _ _ hv ht) (LeL.refl _) rfl rfl ?_) | (refine j_kBsl rfl ?_; first | refine j_bs0 rfl rfl rfl rfl rfl rfl ?_))
      | refine j_nil ?_
      | (refine r_go ?_; first | refine run_seq ?_ | refine run_region ?_ | refine run_block ?_)
      | refine seqQ_normal ?_)
  refine run_loop (fun c : Nat => [(0, .ip (encSystem s)), (1, .ip (encState t)), (7, .sl ((appL s t).map encB)), (8, .os none 0 0), (9, .os none 0 0), (10, .int (c : Int))]) (fun _ => F) (fun c => c ≤ s.parents.length ∧ ¬ Big16 s t c) (fun c => s.parents.length - c) 0 ⟨rfl, rfl, rfl, rfl, rfl, rfl, trivial⟩ rfl ⟨Nat.zero_le _, fun ⟨c, h, _⟩ => absurd h (Nat.not_lt_zero _)⟩ (fun c ⟨cl, cp⟩ => ?_)
  have ixl := cIx_len s t (c : Int) s.rules.length
  by_cases hc : c < s.parents.length
  · have hcb : c < t.bags.length := by omega
    have bk := bag_bgk hv ht hcb
    have bg : t.bags.getD c [] = t.bags[c] := getD_get hcb
    have hsm : Small t.bags[c] := Bag.small ⟨bk.2, by have := bk.1; omega, by have := bk.1; omega⟩
    by_cases hne : ndC s t c = []
    · have z : (cIx s t (c : Int) s.rules.length).length = 0 := by
        have : (ndC s t c).length = 0 := by rw [hne]; rfl
        unfold ndC at this; omega
      repeat' (first
      | (refine j_go ?_; first
        | refine j_op0 rfl rfl rfl rfl ?_ | refine j_off rfl rfl rfl ?_ | (refine j_kBin rfl ?_; first | refine j_in rfl rfl ⟨by omega, by omega⟩ rfl rfl ?_) | (refine j_kLen rfl ?_; first | refine j_len rfl rfl rfl rfl rfl rfl ?_) | (refine j_kCall rfl rfl rfl rfl ?_; first | refine jc (c_l03Cell _ _ _ hv) (LeL.refl _) rfl rfl ?_) | (refine j_kGuard rfl ?_; first | (refine (j_if rfl rfl rfl (fun hb => ?_) (fun hb => ?_)) <;> first | (exfalso; omega) | skip)))
      | refine j_nil ?_
      | (refine r_go ?_; first | refine run_seq ?_ | refine run_region ?_ | refine run_cond_f rfl ?_ | (refine (run_if rfl (fun hb => ?_) (fun hb => ?_)) <;> first | (exfalso; omega) | skip) | refine run_block ?_ | refine run_skip ?_)
      | refine seqQ_normal ?_ | refine blockQ_normal ?_)
      all_goals first
        | exact loopQ_next (c + 1) ⟨by omega, fun ⟨d, h1, h2, h3⟩ => by
            by_cases e : d = c
            · subst e; exact h2 hne
            · exact cp ⟨d, by omega, h2, h3⟩⟩ (by omega) rfl ⟨rfl, rfl, rfl, rfl, rfl, nx _, trivial⟩
        | trace_state
    · have z : 0 < (cIx s t (c : Int) s.rules.length).length := by
        have : 0 < (ndC s t c).length := List.length_pos_iff.2 hne
        unfold ndC at this; omega
      repeat' (first
      | (refine j_go ?_; first
        | refine j_op0 rfl rfl rfl rfl ?_ | (refine j_kIdx rfl ?_; first | refine j_idx rfl rfl rfl rfl rfl (by omega) rfl rfl rfl ?_) | (refine j_kBin rfl ?_; first | refine j_in rfl rfl ⟨by omega, by omega⟩ rfl rfl ?_) | (refine j_kLen rfl ?_; first | refine j_len rfl rfl rfl rfl rfl rfl ?_) | (refine j_kCall rfl rfl rfl rfl ?_; first | refine jc (c_l03Cell _ _ _ hv) (LeL.refl _) rfl rfl ?_ | refine jc (c_l01Size _ hsm) (LeL.refl _) rfl rfl ?_) | (refine j_kGuard rfl ?_; first | (refine (j_if rfl rfl rfl (fun hb => ?_) (fun hb => ?_)) <;> first | (exfalso; omega) | skip)))
      | refine j_nil ?_
      | (refine r_go ?_; first | refine run_seq ?_ | refine run_region ?_ | (refine (run_if rfl (fun hb => ?_) (fun hb => ?_)) <;> first | (exfalso; omega) | skip) | refine run_block ?_ | refine run_ret ?_ | refine run_skip ?_)
      | refine seqQ_normal ?_ | refine seqQ_ret ?_ | refine blockQ_normal ?_ | refine blockQ_ret ?_ | refine loopQ_ret ?_)
      all_goals first
        | (have hB : Big16 s t s.parents.length := ⟨c, hc, hne, by rw [bg]; omega⟩
           exact endD_ret (h1 := []) rfl (.cons (.tmp rfl) (.cons (.tmp rfl) (.cons (.tmp rfl) .nil))) (Le.refl _) ⟨fun q => absurd (.inl hB) q, fun _ => ⟨_, _, rfl, rfl⟩⟩ (.inl rfl))
        | exact loopQ_next (c + 1) ⟨by omega, fun ⟨d, h1, h2, h3⟩ => by
            by_cases e : d = c
            · subst e; rw [bg] at h3; omega
            · exact cp ⟨d, by omega, h2, h3⟩⟩ (by omega) rfl ⟨rfl, rfl, rfl, rfl, rfl, nx _, trivial⟩
        | trace_state
  have hce : c = s.parents.length := by omega
  subst hce
  have hno := cp
  repeat' (first
      | (refine j_go ?_; first
        | refine j_op0 rfl rfl rfl rfl ?_ | (refine j_kLen rfl ?_; first | refine j_len rfl rfl rfl rfl rfl rfl ?_))
      | refine j_nil ?_
      | (refine r_go ?_; first | refine run_seq ?_ | refine run_region ?_ | (refine (run_if rfl (fun hb => ?_) (fun hb => ?_)) <;> first | (exfalso; omega) | skip) | refine run_block ?_ | refine run_exit ?_)
      | refine seqQ_normal ?_ | refine seqQ_exit ?_ | refine blockQ_eq ?_ | refine loopQ_exit ?_)
  refine run_view (view_none 180 0 rfl) ?_
  refine run_view (view_none 27 0 rfl) ?_
  refine run_loop (fun x : Nat × ((Option Nat × Nat) × List A) × (Option Nat × Nat) × List A => [(0, .ip (encSystem s)), (1, .ip (encState t)), (7, .sl ((appL s t).map encB)), (8, .os x.2.1.1.1 x.2.1.2.length x.2.1.1.2), (9, .os x.2.2.1.1 x.2.2.2.length x.2.2.1.2), (13, .int (x.1 : Int))])
    (fun x => ⟨x.2.2.1.1, 27, x.2.2.1.2 * 1, (x.2.2.2.map fun a => [a]).flatten⟩ :: ⟨x.2.1.1.1, 180, x.2.1.1.2 * 1, (x.2.1.2.map fun a => [a]).flatten⟩ :: F) (fun x => x.1 ≤ s.parents.length ∧ x.2.1.2.length ≤ x.1 ∧ LensOk x.2.2.2 (lensK s t x.1) ∧ ¬ Big2 s t x.1) (fun x => s.parents.length - x.1) (0, ((none, 0), []), (none, 0), []) ⟨rfl, rfl, rfl, rfl, rfl, rfl, trivial⟩ rfl
    ⟨Nat.zero_le _, Nat.zero_le _, ⟨rfl, fun i h => absurd h (Nat.not_lt_zero _)⟩, fun ⟨c, h, _⟩ => absurd h (Nat.not_lt_zero _)⟩ (fun ⟨c, ⟨⟨or_, cr⟩, rs⟩, ⟨oa, ca⟩, vs⟩ ⟨cl, rl, lo, cp⟩ => ?_)
  dsimp only at cl rl lo cp ⊢
  have ixl := cIx_len s t (c : Int) s.rules.length
  have vl : vs.length ≤ c := by rw [lo.1]; exact lensK_len s t c
  by_cases hc : c < s.parents.length
  · have hcb : c < t.bags.length := by omega
    have bk := bag_bgk hv ht hcb
    have bg : t.bags.getD c [] = t.bags[c] := getD_get hcb
    by_cases hne : ndC s t c = []
    · have z : (cIx s t (c : Int) s.rules.length).length = 0 := by
        have : (ndC s t c).length = 0 := by rw [hne]; rfl
        unfold ndC at this; omega
      have e : lensK s t (c + 1) = lensK s t c := by rw [lensK, if_pos hne]
      repeat' (first
      | (refine j_go ?_; first
        | refine j_op0 rfl rfl rfl rfl ?_ | (refine j_kBin rfl ?_; first | refine j_in rfl rfl ⟨by omega, by omega⟩ rfl rfl ?_) | (refine j_kLen rfl ?_; first | refine j_len rfl rfl rfl rfl rfl rfl ?_) | (refine j_kCall rfl rfl rfl rfl ?_; first | refine jc (c_l03Cell _ _ _ hv) (LeL.refl _) rfl rfl ?_))
      | refine j_nil ?_
      | (refine r_go ?_; first | refine run_seq ?_ | refine run_region ?_ | (refine (run_if rfl (fun hb => ?_) (fun hb => ?_)) <;> first | (exfalso; omega) | skip) | refine run_block ?_ | refine run_exit ?_ | refine run_skip ?_)
      | refine seqQ_normal ?_ | refine seqQ_exit ?_ | refine blockQ_eq ?_)
      all_goals first
        | exact loopQ_next (c + 1, ((or_, cr), rs), (oa, ca), vs) ⟨by dsimp only; omega, by dsimp only; omega, by dsimp only; rw [e]; exact lo, fun ⟨d, h1, h2, h3⟩ => by
            by_cases e : d = c
            · subst e; exact h2 hne
            · exact cp ⟨d, by omega, h2, h3⟩⟩ (by dsimp only; omega) rfl ⟨rfl, rfl, rfl, rfl, rfl, nx _, trivial⟩
        | trace_state
    · have z : 0 < (cIx s t (c : Int) s.rules.length).length := by
        have : 0 < (ndC s t c).length := List.length_pos_iff.2 hne
        unfold ndC at this; omega
      have e : lensK s t (c + 1) = lensK s t c ++ [cN s t c] := by rw [lensK, if_neg hne]
      have t16 : tot t.bags[c] ≤ 16 := by
        by_cases q : tot t.bags[c] ≤ 16
        · exact q
        · exact absurd ⟨c, hc, hne, by rw [bg]; omega⟩ hno
      have eN : cN s t c = packN (cNd s t (c : Int) s.rules.length) (cNd s t (c : Int) s.rules.length) t.bags[c] := by unfold cN ndC; rw [bg]
      repeat' (first
      | (refine j_go ?_; first
        | refine j_op0 rfl rfl rfl rfl ?_ | (refine j_kIdx rfl ?_; first | refine j_idx rfl rfl rfl rfl rfl (by omega) rfl rfl rfl ?_) | (refine j_kLen rfl ?_; first | refine j_len rfl rfl rfl rfl rfl rfl ?_) | (refine j_kCall rfl rfl rfl rfl ?_; first | refine jc (c_l03Cell _ _ _ hv) (LeL.refl _) rfl rfl ?_))
      | refine j_nil ?_
      | (refine r_go ?_; first | refine run_seq ?_ | refine run_region ?_ | (refine (run_if rfl (fun hb => ?_) (fun hb => ?_)) <;> first | (exfalso; omega) | skip) | refine run_block ?_ | refine run_skip ?_)
      | refine seqQ_normal ?_)
      all_goals first | (exfalso; omega) | skip
      refine j_kCall rfl rfl rfl rfl ?_
      refine jcp _ (o_l01All s.kinds.toNat t.bags[c] (cNd s t (c : Int) s.rules.length) (cNd_ok hv _ _ (Nat.le_refl _)) (by omega) bk t16) (List.Perm.refl _) (LeL.refl _) rfl rfl (fun v h1 hR => ?_)
      obtain ⟨rfl, r1, r2⟩ := hR
      rw [← eN] at r1 r2
      by_cases hN : cN s t c ≤ 2000
      · obtain ⟨ol, ccl, rfl⟩ := r1 hN
        repeat' (first
      | (refine j_go ?_; first
        | refine j_op0 rfl rfl rfl rfl ?_ | (refine j_kBsl rfl ?_; first | refine j_bsl rfl rfl rfl rfl rfl rfl rfl rfl rfl rfl rfl ?_))
      | refine j_nil ?_
      | (refine r_go ?_; first | refine run_seq ?_ | refine run_region ?_ | (refine (run_ifn rfl (fun hb => ?_) (fun hb => ?_)) <;> first | (exfalso; omega) | skip) | refine run_skip ?_)
      | refine seqQ_normal ?_)
        all_goals first | (exfalso; omega) | exact absurd rfl (by assumption) | skip
        refine j_append 1 (g := fun a => [a]) (ys := rs) [A.sl ((cIx s t (c : Int) s.rules.length).map Go.AI.encI)] rfl rfl rfl rfl rfl rfl rfl rfl rfl rfl rfl rfl (fun _ => rfl) (fun _ hy => by simp only [List.mem_singleton] at hy; subst hy; rfl) ⟨by simp only [List.length_cons, List.length_nil]; omega, by simp only [List.length_cons, List.length_nil]; omega⟩ rfl rfl (fun or2 cr2 => ?_)
        repeat' (first
      | (refine j_go ?_; first
        | refine j_op0 rfl rfl rfl rfl ?_ | (refine j_kBsl rfl ?_; first | refine j_bsl rfl rfl rfl rfl rfl rfl rfl rfl rfl rfl rfl ?_))
      | refine j_nil ?_
      | (refine r_go ?_; first | refine run_region ?_)
      | refine seqQ_normal ?_)
        refine j_append 0 (g := fun a => [a]) (ys := vs) [A.os ol (cN s t c) ccl] rfl rfl rfl rfl rfl rfl rfl rfl rfl rfl rfl rfl (fun _ => rfl) (fun _ hy => by simp only [List.mem_singleton] at hy; subst hy; rfl) ⟨by simp only [List.length_cons, List.length_nil]; omega, by simp only [List.length_cons, List.length_nil]; omega⟩ rfl rfl (fun oa2 ca2 => ?_)
        repeat' (first
      | (refine j_go ?_; first
        | refine j_op0 rfl rfl rfl rfl ?_ | (refine j_kBin rfl ?_; first | refine j_in rfl rfl ⟨by omega, by omega⟩ rfl rfl ?_))
      | refine j_nil ?_
      | (refine r_go ?_; first | refine run_region ?_)
      | refine seqQ_normal ?_ | refine blockQ_normal ?_)
        exact loopQ_next (c + 1, ((or2, cr2), rs ++ [A.sl ((cIx s t (c : Int) s.rules.length).map Go.AI.encI)]), (oa2, ca2), vs ++ [A.os ol (cN s t c) ccl]) ⟨by dsimp only; omega, by dsimp only; simp only [List.length_append, List.length_cons, List.length_nil]; omega, by dsimp only; rw [e]; exact lo.snoc _ _ _, fun ⟨d, h1, h2, h3⟩ => by
            by_cases e : d = c
            · subst e; omega
            · exact cp ⟨d, by omega, h2, h3⟩⟩ (by dsimp only; omega) rfl ⟨rfl, rfl, rfl, rfl, rfl, nx _, trivial⟩
      · obtain ⟨x, rfl⟩ := r2 (by omega)
        have hB : Big2 s t s.parents.length := ⟨c, hc, hne, by omega⟩
        repeat' (first
      | (refine j_go ?_; first
        | refine j_op0 rfl rfl rfl rfl ?_)
      | refine j_nil ?_
      | (refine r_go ?_; first | refine run_seq ?_ | refine run_region ?_ | (refine (run_ifn rfl (fun hb => ?_) (fun hb => ?_)) <;> first | (exfalso; omega) | skip) | refine run_ret ?_)
      | refine seqQ_normal ?_ | refine seqQ_ret ?_ | refine blockQ_ret ?_ | refine loopQ_ret ?_)
        all_goals first | (exfalso; omega) | exact absurd rfl (by assumption) | skip
        refine endD_view (view_sub (h0 := F) (by exact List.Sublist.cons _ (List.Sublist.cons _ (List.Sublist.refl _)))) ?_
        exact endD_ret (h1 := []) rfl (.cons (.tmp rfl) (.cons (.tmp rfl) (.cons (.tmp rfl) .nil))) (Le.refl _) ⟨fun q => absurd (.inr hB) q, fun _ => ⟨_, _, rfl, rfl⟩⟩ (.inl rfl)
  · have hce : c = s.parents.length := by omega
    subst hce
    repeat' (first
      | (refine j_go ?_; first
        | refine j_op0 rfl rfl rfl rfl ?_ | (refine j_kLen rfl ?_; first | refine j_len rfl rfl rfl rfl rfl rfl ?_))
      | refine j_nil ?_
      | (refine r_go ?_; first | refine run_seq ?_ | refine run_region ?_ | (refine (run_if rfl (fun hb => ?_) (fun hb => ?_)) <;> first | (exfalso; omega) | skip) | refine run_ret ?_ | refine run_exit ?_)
      | refine seqQ_normal ?_ | refine seqQ_exit ?_ | refine blockQ_eq ?_ | refine loopQ_exit ?_)
    refine endD_view (view_erase 1) ?_
    exact endD_ret (h1 := [_]) rfl (.cons (.tmp rfl) (.cons (.tmp rfl) (.cons (.tmp rfl) .nil))) (Le.refl _) ⟨fun _ => ⟨_, oa, ca, vs, lo, rfl, rfl⟩, fun q => absurd q (fun q => q.elim hno cp)⟩ (.inl rfl)

def prodK (L : List Nat) : Nat → Int
  | 0 => 1
  | k + 1 => wrapI (prodK L k * (L.getD k 0 : Nat))
theorem o_l03Count (L : List Nat) (vs : List A) (H : LensOk vs L) (b : Option Nat) (cap : Nat) : Does Try.prog 70 [.os b vs.length cap] [⟨b, 27, cap * 1, (vs.map fun a => [a]).flatten⟩] (fun v _ => v = .int (prodK L L.length)) := by
  refine fn_of_runD tyOk ztOk mix Try.func70 rfl (by decide) Try.ntmps70 (fun w0 F => ?_)
  change Run _ _ _ _ _ (_ :: F)
  have hl := H.1
  refine run_olen (t := 0) rfl (fun hl2 => ?_)
  repeat' (first
      | (refine j_go ?_; first
        | refine j_op0 rfl rfl rfl rfl ?_)
      | refine j_nil ?_
      | (refine r_go ?_; first | refine run_seq ?_ | refine run_region ?_ | refine run_block ?_)
      | refine seqQ_normal ?_)
  refine run_loop (fun k : Nat => [(0, .os b vs.length cap), (3, .int (prodK L k)), (4, .int (k : Int))]) (fun _ => _) (fun k => k ≤ vs.length) (fun k => vs.length - k) 0 ⟨rfl, rfl, rfl, trivial⟩ rfl (Nat.zero_le _) (fun k kl => ?_)
  by_cases hk : k < vs.length
  · have hne : (vs.map fun a => [a]).flatten ≠ [] := by rw [sing_flat]; exact fun q => by rw [q] at hk; simp at hk
    refine run_some 0 rfl hne (fun b2 hb2 => ?_)
    subst hb2
    obtain ⟨ob, cc, e⟩ := H.2 k hk (by omega)
    repeat' (first
      | (refine j_go ?_; first
        | refine j_op0 rfl rfl rfl rfl ?_ | (refine j_kIdx rfl ?_; first | refine j_midx rfl rfl rfl rfl rfl (by first | omega | (simp only [List.length_append, List.length_cons, List.length_nil]; omega)) rfl rfl ?_) | (refine j_kLen rfl ?_; first | refine j_op rfl rfl rfl rfl ?_))
      | refine j_nil ?_
      | (refine r_go ?_; first | refine run_seq ?_ | refine run_region ?_ | (refine (run_if rfl (fun hb => ?_) (fun hb => ?_)) <;> first | (exfalso; omega) | skip) | refine run_block ?_ | refine run_skip ?_)
      | refine seqQ_normal ?_)
    refine j_mloadE 0 k (g := fun a => [a]) (L := vs) (z := 1) rfl rfl rfl rfl (fun _ => rfl) rfl hk (fun _ => rfl) rfl rfl ?_
    rw [e]
    repeat' (first
      | (refine j_go ?_; first
        | (refine j_kLen rfl ?_; first | refine j_op rfl rfl rfl rfl ?_)))
    refine j_op rfl rfl rfl rfl ?_
    repeat' (first
      | (refine j_go ?_; first
        | refine j_op0 rfl rfl rfl rfl ?_ | (refine j_kBin rfl ?_; first | refine j_in rfl rfl ⟨by omega, by omega⟩ rfl rfl ?_))
      | refine j_nil ?_
      | (refine r_go ?_; first | refine run_region ?_)
      | refine seqQ_normal ?_ | refine blockQ_normal ?_)
    exact loopQ_next (k + 1) (by omega) (by omega) rfl ⟨rfl, si (by rw [prodK, getD_get (by omega)]), nx _, trivial⟩
  · have hke : k = L.length := by omega
    subst hke
    repeat' (first
      | (refine j_go ?_; first
        | refine j_op0 rfl rfl rfl rfl ?_ | (refine j_kLen rfl ?_; first | refine j_op rfl rfl rfl rfl ?_))
      | refine j_nil ?_
      | (refine r_go ?_; first | refine run_seq ?_ | refine run_region ?_ | (refine (run_if rfl (fun hb => ?_) (fun hb => ?_)) <;> first | (exfalso; omega) | skip) | refine run_ret ?_ | refine run_exit ?_)
      | refine seqQ_normal ?_ | refine seqQ_exit ?_ | refine blockQ_eq ?_ | refine loopQ_exit ?_)
    exact endD_ret (h1 := [_]) rfl (.cons (.tmp rfl) .nil) (Le.refl _) rfl (.inl rfl)

open Classical in
noncomputable def cchC (s : System) (t : State) : Int := if s.Ok ∧ s.StateOk t then if Big16 s t s.parents.length ∨ Big2 s t s.parents.length then 3 else 0 else 1
open Classical in
noncomputable def cchR (s : System) (t : State) : Int := if (s.Ok ∧ s.StateOk t) ∧ ¬ (Big16 s t s.parents.length ∨ Big2 s t s.parents.length) then prodK (lensK s t s.parents.length) (lensK s t s.parents.length).length else 0
theorem cnt_t {s : System} {t : State} (h : s.Ok ∧ s.StateOk t) (h2 : ¬ (Big16 s t s.parents.length ∨ Big2 s t s.parents.length)) : cchR s t = prodK (lensK s t s.parents.length) (lensK s t s.parents.length).length ∧ cchC s t = 0 := by
  unfold cchR cchC; rw [if_pos ⟨h, h2⟩, if_pos h, if_neg h2]; exact ⟨rfl, rfl⟩
theorem cnt_b {s : System} {t : State} (h : s.Ok ∧ s.StateOk t) (h2 : Big16 s t s.parents.length ∨ Big2 s t s.parents.length) : cchR s t = 0 ∧ cchC s t = 3 := by
  unfold cchR cchC; rw [if_neg (fun q => q.2 h2), if_pos h, if_pos h2]; exact ⟨rfl, rfl⟩
theorem cnt_f {s : System} {t : State} (h : ¬ (s.Ok ∧ s.StateOk t)) : cchR s t = 0 ∧ cchC s t = 1 := by
  unfold cchR cchC; rw [if_neg (fun q => h q.1), if_neg h]; exact ⟨rfl, rfl⟩
theorem c_sCountChoices (s : System) (t : State) : Gives Try.prog 22 [.agg (encSystem s), .agg (encState t)] (.tup [.int (cchR s t), .int (cchC s t)]) := by
  refine fn_of_run tyOk ztOk mix Try.func22 rfl (by decide) Try.ntmps22 (fun w0 h => ?_)
  repeat' (first
      | (refine j_go ?_; first
        | refine j_op0 rfl rfl rfl rfl ?_ | (refine j_kCall rfl rfl rfl rfl ?_; first | refine jc (c_l03Both _ _) (LeL.refl _) rfl rfl ?_) | refine j_box rfl rfl rfl rfl rfl rfl ?_)
      | refine j_nil ?_
      | (refine r_go ?_; first | refine run_seq ?_ | refine run_region ?_ | (refine (run_ifn rfl (fun hb => ?_) (fun hb => ?_)) <;> first | (exfalso; omega) | skip) | refine run_ret ?_ | refine run_skip ?_)
      | refine seqQ_normal ?_ | refine seqQ_ret ?_)
  · exact end_le (List.Sublist.refl _) (vs := [_, _]) (.cons (.tmp rfl) (.cons (.tmp rfl) .nil)) (by rw [(cnt_f hb).1, (cnt_f hb).2]; exact Le.refl _) (.inl rfl)
  have h1 := hb
  refine j_kCall rfl rfl rfl rfl ?_
  refine jcp _ (o_l03Packings s t h1.1 h1.2) (List.Perm.refl _) (LeL.refl _) rfl rfl (fun v h2 hR => ?_)
  by_cases hB : Big16 s t s.parents.length ∨ Big2 s t s.parents.length
  · obtain ⟨x, y, rfl, rfl⟩ := hR.2 hB
    repeat' (first
      | (refine j_go ?_; first
        | refine j_op0 rfl rfl rfl rfl ?_)
      | refine j_nil ?_
      | (refine r_go ?_; first | refine run_seq ?_ | refine run_region ?_ | (refine (run_ifn rfl (fun hb => ?_) (fun hb => ?_)) <;> first | (exfalso; omega) | skip) | refine run_ret ?_)
      | refine seqQ_normal ?_ | refine seqQ_ret ?_)
    all_goals first
      | exact end_le (List.Sublist.refl _) (vs := [_, _]) (.cons (.tmp rfl) (.cons (.tmp rfl) .nil)) (by rw [(cnt_b h1 hB).1, (cnt_b h1 hB).2]; exact Le.refl _) (.inl rfl)
      | (exfalso; omega)
      | trace_state
  · obtain ⟨x, b, cap, vs, lo, rfl, rfl⟩ := hR.1 hB
    repeat' (first
      | (refine j_go ?_; first
        | refine j_op0 rfl rfl rfl rfl ?_)
      | refine j_nil ?_
      | (refine r_go ?_; first | refine run_seq ?_ | refine run_region ?_ | (refine (run_ifn rfl (fun hb => ?_) (fun hb => ?_)) <;> first | (exfalso; omega) | skip) | refine run_skip ?_)
      | refine seqQ_normal ?_)
    all_goals first | (exfalso; omega) | exact absurd rfl (by assumption) | skip
    refine j_kCall rfl rfl rfl rfl ?_
    refine jcp _ (o_l03Count _ vs lo b cap) (List.Perm.refl _) (LeL.refl _) rfl rfl (fun v h3 hR3 => ?_)
    subst hR3
    repeat' (first
      | (refine j_go ?_; first
        | refine j_op0 rfl rfl rfl rfl ?_)
      | refine j_nil ?_
      | (refine r_go ?_; first | refine run_ret ?_)
      | refine seqQ_normal ?_)
    exact end_le (List.sublist_append_right _ _) (vs := [_, _]) (.cons (.tmp rfl) (.cons (.tmp rfl) .nil)) (by rw [(cnt_t h1 hB).1, (cnt_t h1 hB).2]; exact Le.refl _) (.inl rfl)
end Go.Proofs.Ytandldhceabdiaa

/-
  The bag of all objects, on both sides: TotalBag. No condition.
-/
namespace Go.Proofs.Ytandldhceabdiaa
open Go.AI
set_option maxRecDepth 8000
set_option maxHeartbeats 1600000

/-- A list in memory of the call's own. -/
def OwnL (l : List Int) : A → Heap → Prop := fun v h' => ∃ b cap, v = .os b l.length cap ∧ h' = [⟨b, 2, cap * 1, (l.map Go.AI.encI).flatten⟩]
theorem OwnL.clo {l : List Int} {v : A} {h1 : Heap} (q : OwnL l v h1) : Clo v ∧ CloH h1 := by
  obtain ⟨b, cap, rfl, rfl⟩ := q
  exact ⟨Clo.os _ _ _, CloH.cons (CloL.mapInt _ _) CloH.nil⟩
theorem o_cloneI (l : List Int) (hne : l ≠ []) (hn : l.length ≤ 1000000) : Does Try.prog 117 [.sl (l.map Go.AI.encI)] [] (OwnL l) := by
  refine fn_of_runD tyOk ztOk mix Try.func117 rfl (by decide) Try.ntmps117 (fun w0 F => ?_)
  repeat' (first
      | (refine j_go ?_; first
        | refine j_op0 rfl rfl rfl rfl ?_)
      | refine j_nil ?_
      | (refine r_go ?_; first | refine run_seq ?_ | refine run_region ?_)
      | refine seqQ_normal ?_)
  refine j_slnil rfl rfl rfl rfl (by simpa using hne) rfl rfl ?_
  repeat' (first
      | (refine j_go ?_; first
        | refine j_op0 rfl rfl rfl rfl ?_ | (refine j_kBsl rfl ?_; first | refine j_bs0 rfl rfl rfl rfl rfl rfl ?_))
      | refine j_nil ?_
      | (refine r_go ?_; first | refine run_seq ?_ | refine run_region ?_ | refine run_cond_f rfl ?_ | refine run_skip ?_)
      | refine seqQ_normal ?_)
  refine j_append0 (g := Go.AI.encI) l rfl rfl rfl rfl rfl rfl rfl rfl (fun _ => rfl) (fun _ _ => rfl) ⟨by omega, by omega⟩ rfl rfl (fun b' cap' => ?_)
  repeat' (first
      | (refine j_go ?_; first
        | refine j_op0 rfl rfl rfl rfl ?_)
      | refine j_nil ?_
      | (refine r_go ?_; first | refine run_ret ?_)
      | refine seqQ_normal ?_)
  exact endD_ret (h1 := [⟨b', 2, cap' * 1, (l.map Go.AI.encI).flatten⟩]) rfl (vs := [_]) (.cons (.tmp rfl) .nil) (Le.refl _) ⟨_, _, rfl, rfl⟩ (.inl rfl)

theorem bagk_self {l : List Int} : BagK (l.length : Int) l ↔ Bag l := ⟨fun q => q.1, fun q => ⟨q, rfl⟩⟩
theorem c_isBag (l : List Int) : Gives Try.prog 254 [.sl (l.map Go.AI.encI)] (.raw (.bool (dec (Bag l)))) := by
  refine fn_of_run tyOk ztOk mix Try.func254 rfl (by decide) Try.ntmps254 (fun w0 h => ?_)
  repeat' (first
      | (refine j_go ?_; first
        | refine j_op0 rfl rfl rfl rfl ?_ | (refine j_kCall rfl rfl rfl rfl ?_; first | refine jc (c_sizeI _) (LeL.refl _) rfl rfl ?_ | refine jc (c_ValidBag _ _) (LeL.refl _) rfl rfl ?_))
      | refine j_nil ?_
      | (refine r_go ?_; first | refine run_seq ?_ | refine run_region ?_ | refine run_ret ?_)
      | refine seqQ_normal ?_)
  exact end1 rfl (List.Sublist.refl _) (rbD bagk_self) (.inl rfl)

open Classical in
noncomputable def cdL (p : Prop) : Int := if p then 0 else 3
/-- All objects of what is around and of the first k cells. -/
def totK (t : State) : Nat → List Int
  | 0 => t.around
  | k + 1 => plusL (totK t k) (t.bags.getD k []) 1
open Classical in
noncomputable def codeTotalBag (s : System) (t : State) : Int := if s.Ok ∧ s.StateOk t then cdL (Bag (totK t t.bags.length)) else 1
end Go.Proofs.Ytandldhceabdiaa
