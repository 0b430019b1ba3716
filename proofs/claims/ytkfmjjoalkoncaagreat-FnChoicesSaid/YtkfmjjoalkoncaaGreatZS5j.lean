/-
  How many maximal choices there are: the reference's side. No condition.
-/
import Derived.Test.YtkfmjjoalkoncaaGreatZS5h
import Derived.Test.YtkfmjjoalkoncaaGreatZS2e
import Derived.Test.YtkfmjjoalkoncaaGreatZS3f
import Derived.Test.YtkfmjjoalkoncaaGreatZG2
import Derived.Test.YtkfmjjoalkoncaaGreatZJO
namespace Go.Proofs.YtkfmjjoalkoncaaGreat
open Go.AI
set_option maxRecDepth 8000
set_option maxHeartbeats 1600000

open Classical in
/-- The applicable rules of a cell, among the first k; what they need. -/
noncomputable def cIx (s : System) (t : State) (c : Int) : Nat → List Int
  | 0 => []
  | k + 1 => if ∃ h : k < s.rules.length, App s t s.rules[k] ∧ s.rules[k].cell = c then cIx s t c k ++ [(k : Int)] else cIx s t c k
open Classical in
noncomputable def cNd (s : System) (t : State) (c : Int) : Nat → List (List Int)
  | 0 => []
  | k + 1 => if ∃ h : k < s.rules.length, App s t s.rules[k] ∧ s.rules[k].cell = c then cNd s t c k ++ [(s.rules.getD k default).need] else cNd s t c k
theorem cIx_y {s : System} {t : State} {c : Int} {k : Nat} (hk : k < s.rules.length) (h : App s t s.rules[k] ∧ s.rules[k].cell = c) : cIx s t c (k + 1) = cIx s t c k ++ [(k : Int)] ∧ cNd s t c (k + 1) = cNd s t c k ++ [s.rules[k].need] := by
  constructor
  · rw [cIx, if_pos ⟨hk, h⟩]
  · rw [cNd, if_pos ⟨hk, h⟩, getD_get hk]
theorem cIx_n {s : System} {t : State} {c : Int} {k : Nat} (hk : k < s.rules.length) (h : ¬ (App s t s.rules[k] ∧ s.rules[k].cell = c)) : cIx s t c (k + 1) = cIx s t c k ∧ cNd s t c (k + 1) = cNd s t c k := by
  constructor
  · rw [cIx, if_neg (fun ⟨_, q⟩ => h q)]
  · rw [cNd, if_neg (fun ⟨_, q⟩ => h q)]
theorem cIx_len (s : System) (t : State) (c : Int) : ∀ k, (cIx s t c k).length ≤ k ∧ (cNd s t c k).length = (cIx s t c k).length
  | 0 => by simp [cIx, cNd]
  | k + 1 => by
    have ih := cIx_len s t c k
    rw [cIx, cNd]
    split
    · simp only [List.length_append, List.length_cons, List.length_nil]; omega
    · omega
theorem cNd_ok {s : System} {t : State} (hv : s.Ok) (c : Int) : ∀ k, k ≤ s.rules.length → ∀ p ∈ cNd s t c k, Ptk s.kinds.toNat p
  | 0, _, p, hp => by simp [cNd] at hp
  | k + 1, hk, p, hp => by
    have ih := cNd_ok hv (t := t) c k (by omega)
    rw [cNd] at hp
    split at hp
    · rcases List.mem_append.1 hp with q | q
      · exact ih p q
      · rw [List.mem_singleton, getD_get (by omega)] at q
        subst q
        have hr := (hv.2.2 k (by omega)).1
        have hb := hr.2.2.2.2.1
        have k8 := hv.1.1
        exact ⟨⟨⟨by have := hb.2; omega, by omega, by omega⟩, hb.1.1⟩, hr.2.2.2.2.2.2.2.2.2.1⟩
    · exact ih p hp
theorem bag_bgk {s : System} {t : State} (hv : s.Ok) (ht : s.StateOk t) {c : Nat} (hc : c < t.bags.length) : Bgk s.kinds.toNat t.bags[c] := by
  have hb := (ht.2.2.2.2 c hc).1
  have k8 := hv.1.1
  exact ⟨⟨by have := hb.2; omega, by omega, by omega⟩, hb.1.1⟩

theorem c_l03Cell (s : System) (t : State) (c : Int) (hv : s.Ok) : Gives Tryz.prog 70 [.ip (encSystem s), .sl ((appL s t).map encB), .int c] (.tup [.sl ((cIx s t c s.rules.length).map Go.AI.encI), .sl ((cNd s t c s.rules.length).map (encS Go.AI.encI))]) := by
  refine fn_of_run tyOk ztOk mix Tryz.func70 rfl (by decide) Tryz.ntmps70 (fun w0 h => ?_)
  have h16 := hv.2.1
  have al := appL_len s t
  repeat' (first
      | (refine j_go ?_; first
        | refine j_op0 rfl rfl rfl rfl ?_ | (refine j_kBsl rfl ?_; first | refine j_bs0 rfl rfl rfl rfl rfl rfl ?_))
      | refine j_nil ?_
      | (refine r_go ?_; first | refine run_seq ?_ | refine run_region ?_ | refine run_block ?_)
      | refine seqQ_normal ?_)
  refine run_view (view_none 24 0 rfl) ?_
  refine run_view (view_none 3 0 rfl) ?_
  refine run_loop (fun x : Nat × (Option Nat × Nat) × (Option Nat × Nat) => [(0, .ip (encSystem s)), (1, .sl ((appL s t).map encB)), (2, .int c), (8, .os x.2.1.1 (cIx s t c x.1).length x.2.1.2), (9, .os x.2.2.1 (cNd s t c x.1).length x.2.2.2), (10, .int (x.1 : Int))])
    (fun x => ⟨x.2.1.1, 3, x.2.1.2 * 1, ((cIx s t c x.1).map Go.AI.encI).flatten⟩ :: ⟨x.2.2.1, 24, x.2.2.2 * 1, ((cNd s t c x.1).map (encS Go.AI.encI)).flatten⟩ :: h) (fun x => x.1 ≤ (appL s t).length) (fun x => (appL s t).length - x.1) (0, (none, 0), (none, 0)) ⟨rfl, rfl, rfl, rfl, rfl, rfl, trivial⟩ rfl (Nat.zero_le _) (fun ⟨k, ⟨oa, ca⟩, ob, cb⟩ kl => ?_)
  dsimp only at kl ⊢
  have cl := cIx_len s t c k
  by_cases hk : k < (appL s t).length
  · have hkr : k < s.rules.length := by omega
    have hg := appL_get hk
    by_cases hA : App s t s.rules[k]
    · rw [dec_t hA] at hg
      by_cases hc : s.rules[k].cell = c
      · have ⟨y1, y2⟩ := cIx_y hkr ⟨hA, hc⟩
        repeat' (first
      | (refine j_go ?_; first
        | refine j_op0 rfl rfl rfl rfl ?_ | refine j_off rfl rfl rfl ?_ | (refine j_kIdx rfl ?_; first | refine j_idx rfl rfl rfl rfl rfl (by omega) rfl rfl rfl ?_) | (refine j_kBin rfl ?_; first | refine j_in rfl rfl ⟨by omega, by omega⟩ rfl rfl ?_) | (refine j_kLen rfl ?_; first | refine j_len rfl rfl rfl rfl rfl rfl ?_) | (refine j_kBsl rfl ?_; first | refine j_bsl rfl rfl rfl rfl rfl rfl rfl rfl rfl rfl rfl ?_) | (refine j_kGuard rfl ?_; first | (refine (j_branch rfl rfl rfl (fun hb => ?_) (fun hb => ?_)) <;> skip; (fail_if_success guard_hyp hb : true = true); (fail_if_success guard_hyp hb : true = false); (fail_if_success guard_hyp hb : false = true); (fail_if_success guard_hyp hb : false = false))))
      | refine j_nil ?_
      | (refine r_go ?_; first | refine run_seq ?_ | refine run_region ?_ | refine run_cond_f rfl ?_ | (refine (run_if rfl (fun hb => ?_) (fun hb => ?_)) <;> first | (exfalso; omega) | skip) | refine run_block ?_ | refine run_skip ?_)
      | refine seqQ_normal ?_ | refine blockQ_normal ?_)
        all_goals first | exact absurd ‹(appL s t)[k] = true› (by rw [hg]; decide) | exact absurd ‹(appL s t)[k] = false› (by rw [hg]; decide) | (exfalso; omega) | skip
        refine j_append 0 (g := Go.AI.encI) (ys := cIx s t c k) [(k : Int)] rfl rfl rfl rfl rfl rfl rfl rfl rfl rfl rfl rfl (fun _ => rfl) (fun _ hy => by simp only [List.mem_singleton] at hy; subst hy; rfl) ⟨by simp only [List.length_cons, List.length_nil]; omega, by simp only [List.length_cons, List.length_nil]; omega⟩ rfl rfl (fun oa' ca' => ?_)
        rw [← y1]
        repeat' (first
      | (refine j_go ?_; first
        | refine j_op0 rfl rfl rfl rfl ?_ | (refine j_kIdx rfl ?_; first | refine j_idx rfl rfl rfl rfl rfl (by omega) rfl rfl rfl ?_) | (refine j_kBsl rfl ?_; first | refine j_bsl rfl rfl rfl rfl rfl rfl rfl rfl rfl rfl rfl ?_))
      | refine j_nil ?_
      | (refine r_go ?_; first | refine run_region ?_)
      | refine seqQ_normal ?_)
        refine j_append 1 (g := encS Go.AI.encI) (ys := cNd s t c k) [s.rules[k].need] rfl rfl rfl rfl rfl rfl rfl rfl rfl rfl rfl rfl (fun _ => rfl) (fun _ hy => by simp only [List.mem_singleton] at hy; subst hy; rfl) ⟨by simp only [List.length_cons, List.length_nil]; omega, by simp only [List.length_cons, List.length_nil]; omega⟩ rfl rfl (fun ob' cb' => ?_)
        rw [← y2]
        repeat' (first
      | (refine j_go ?_; first
        | refine j_op0 rfl rfl rfl rfl ?_ | (refine j_kBin rfl ?_; first | refine j_in rfl rfl ⟨by omega, by omega⟩ rfl rfl ?_))
      | refine j_nil ?_
      | (refine r_go ?_; first | refine run_region ?_)
      | refine seqQ_normal ?_ | refine blockQ_normal ?_)
        exact loopQ_next (k + 1, (oa', ca'), ob', cb') (by dsimp only; omega) (by dsimp only; omega) rfl ⟨rfl, rfl, rfl, rfl, rfl, nx _, trivial⟩
      · have ⟨y1, y2⟩ := cIx_n (t := t) hkr (fun q => hc q.2)
        repeat' (first
      | (refine j_go ?_; first
        | refine j_op0 rfl rfl rfl rfl ?_ | refine j_off rfl rfl rfl ?_ | (refine j_kIdx rfl ?_; first | refine j_idx rfl rfl rfl rfl rfl (by omega) rfl rfl rfl ?_) | (refine j_kBin rfl ?_; first | refine j_in rfl rfl ⟨by omega, by omega⟩ rfl rfl ?_) | (refine j_kLen rfl ?_; first | refine j_len rfl rfl rfl rfl rfl rfl ?_) | (refine j_kGuard rfl ?_; first | (refine (j_branch rfl rfl rfl (fun hb => ?_) (fun hb => ?_)) <;> skip; (fail_if_success guard_hyp hb : true = true); (fail_if_success guard_hyp hb : true = false); (fail_if_success guard_hyp hb : false = true); (fail_if_success guard_hyp hb : false = false))))
      | refine j_nil ?_
      | (refine r_go ?_; first | refine run_seq ?_ | refine run_region ?_ | refine run_cond_f rfl ?_ | (refine (run_if rfl (fun hb => ?_) (fun hb => ?_)) <;> first | (exfalso; omega) | skip) | refine run_block ?_ | refine run_skip ?_)
      | refine seqQ_normal ?_ | refine blockQ_normal ?_)
        all_goals first
          | exact absurd ‹(appL s t)[k] = true› (by rw [hg]; decide) | exact absurd ‹(appL s t)[k] = false› (by rw [hg]; decide)
          | (exfalso; omega)
          | (rw [← y1, ← y2]; exact loopQ_next (k + 1, (oa, ca), ob, cb) (by dsimp only; omega) (by dsimp only; omega) rfl ⟨rfl, rfl, rfl, rfl, rfl, nx _, trivial⟩)
          | trace_state
    · rw [dec_f hA] at hg
      have ⟨y1, y2⟩ := cIx_n (t := t) (c := c) hkr (fun q => hA q.1)
      repeat' (first
      | (refine j_go ?_; first
        | refine j_op0 rfl rfl rfl rfl ?_ | refine j_off rfl rfl rfl ?_ | (refine j_kIdx rfl ?_; first | refine j_idx rfl rfl rfl rfl rfl (by omega) rfl rfl rfl ?_) | (refine j_kBin rfl ?_; first | refine j_in rfl rfl ⟨by omega, by omega⟩ rfl rfl ?_) | (refine j_kLen rfl ?_; first | refine j_len rfl rfl rfl rfl rfl rfl ?_) | (refine j_kBsl rfl ?_; first | refine j_bsl rfl rfl rfl rfl rfl rfl rfl rfl rfl rfl rfl ?_) | (refine j_kGuard rfl ?_; first | (refine (j_branch rfl rfl rfl (fun hb => ?_) (fun hb => ?_)) <;> skip; (fail_if_success guard_hyp hb : true = true); (fail_if_success guard_hyp hb : true = false); (fail_if_success guard_hyp hb : false = true); (fail_if_success guard_hyp hb : false = false))))
      | refine j_nil ?_
      | (refine r_go ?_; first | refine run_seq ?_ | refine run_region ?_ | refine run_cond_f rfl ?_ | (refine (run_if rfl (fun hb => ?_) (fun hb => ?_)) <;> first | (exfalso; omega) | skip) | refine run_block ?_ | refine run_skip ?_)
      | refine seqQ_normal ?_ | refine blockQ_normal ?_)
      all_goals first
        | exact absurd ‹(appL s t)[k] = true› (by rw [hg]; decide) | exact absurd ‹(appL s t)[k] = false› (by rw [hg]; decide)
        | (exfalso; omega)
        | (rw [← y1, ← y2]; exact loopQ_next (k + 1, (oa, ca), ob, cb) (by dsimp only; omega) (by dsimp only; omega) rfl ⟨rfl, rfl, rfl, rfl, rfl, nx _, trivial⟩)
        | trace_state
  · have hke : k = s.rules.length := by omega
    subst hke
    repeat' (first
      | (refine j_go ?_; first
        | refine j_op0 rfl rfl rfl rfl ?_ | (refine j_kLen rfl ?_; first | refine j_len rfl rfl rfl rfl rfl rfl ?_))
      | refine j_nil ?_
      | (refine r_go ?_; first | refine run_seq ?_ | refine run_region ?_ | (refine (run_if rfl (fun hb => ?_) (fun hb => ?_)) <;> first | (exfalso; omega) | skip) | refine run_ret ?_ | refine run_exit ?_)
      | refine seqQ_normal ?_ | refine seqQ_exit ?_ | refine blockQ_eq ?_ | refine loopQ_exit ?_)
    refine end_view (view_freeze (g := Go.AI.encI) (z := 1) (ys := cIx s t c s.rules.length) 0 6 rfl rfl rfl (fun _ => rfl) rfl rfl) ?_
    refine end_view (view_freeze (g := encS Go.AI.encI) (z := 1) (ys := cNd s t c s.rules.length) 0 7 rfl rfl rfl (fun _ => rfl) rfl rfl) ?_
    exact end_le (List.Sublist.refl _) (vs := [_, _]) (.cons (.tmp rfl) (.cons (.tmp rfl) .nil)) (Le.refl _) (.inl rfl)

noncomputable def ndC (s : System) (t : State) (c : Nat) : List (List Int) := cNd s t (c : Int) s.rules.length
noncomputable def cN (s : System) (t : State) (c : Nat) : Nat := packN (ndC s t c) (ndC s t c) (t.bags.getD c [])
def Big16 (s : System) (t : State) (k : Nat) : Prop := ∃ c, c < k ∧ ndC s t c ≠ [] ∧ 16 < tot (t.bags.getD c [])
def Big2 (s : System) (t : State) (k : Nat) : Prop := ∃ c, c < k ∧ ndC s t c ≠ [] ∧ 2000 < cN s t c
open Classical in
noncomputable def lensK (s : System) (t : State) : Nat → List Nat
  | 0 => []
  | k + 1 => if ndC s t k = [] then lensK s t k else lensK s t k ++ [cN s t k]
theorem lensK_len (s : System) (t : State) : ∀ k, (lensK s t k).length ≤ k
  | 0 => by simp [lensK]
  | k + 1 => by
    have ih := lensK_len s t k
    rw [lensK]; split
    · omega
    · simp only [List.length_append, List.length_cons, List.length_nil]; omega
/-- Lists of the call's own, of so many elements each. -/
def LensOk (vs : List A) (L : List Nat) : Prop := vs.length = L.length ∧ ∀ i (h : i < vs.length) (h2 : i < L.length), ∃ ob cap, vs[i] = .os ob L[i] cap
theorem LensOk.snoc {vs : List A} {L : List Nat} (H : LensOk vs L) (ob : Option Nat) (N cap : Nat) : LensOk (vs ++ [A.os ob N cap]) (L ++ [N]) := by
  refine ⟨by simp [H.1], fun i h h2 => ?_⟩
  by_cases hi : i < vs.length
  · rw [List.getElem_append_left hi, List.getElem_append_left (by have := H.1; omega)]; exact H.2 i hi _
  · have e : i = vs.length := by simp at h; omega
    have e2 : i = L.length := by have := H.1; omega
    refine ⟨ob, cap, ?_⟩
    rw [List.getElem_append_right (by omega), List.getElem_append_right (by omega)]
    simp [e, H.1]
def prodK (L : List Nat) : Nat → Int
  | 0 => 1
  | k + 1 => wrapI (prodK L k * (L.getD k 0 : Nat))
open Classical in
noncomputable def cchC (s : System) (t : State) : Int := if s.Ok ∧ s.StateOk t then if Big16 s t s.parents.length ∨ Big2 s t s.parents.length then 3 else 0 else 1
open Classical in
noncomputable def cchR (s : System) (t : State) : Int := if (s.Ok ∧ s.StateOk t) ∧ ¬ (Big16 s t s.parents.length ∨ Big2 s t s.parents.length) then prodK (lensK s t s.parents.length) (lensK s t s.parents.length).length else 0
theorem cnt_t {s : System} {t : State} (h : s.Ok ∧ s.StateOk t) (h2 : ¬ (Big16 s t s.parents.length ∨ Big2 s t s.parents.length)) : cchR s t = prodK (lensK s t s.parents.length) (lensK s t s.parents.length).length ∧ cchC s t = 0 := by
  unfold cchR cchC; rw [if_pos ⟨h, h2⟩, if_pos h, if_neg h2]; exact ⟨rfl, rfl⟩
theorem cnt_b {s : System} {t : State} (h : s.Ok ∧ s.StateOk t) (h2 : Big16 s t s.parents.length ∨ Big2 s t s.parents.length) : cchR s t = 0 ∧ cchC s t = 3 := by
  unfold cchR cchC; rw [if_neg (fun q => q.2 h2), if_pos h, if_pos h2]; exact ⟨rfl, rfl⟩
theorem cnt_f {s : System} {t : State} (h : ¬ (s.Ok ∧ s.StateOk t)) : cchR s t = 0 ∧ cchC s t = 1 := by
  unfold cchR cchC; rw [if_neg (fun q => h q.1), if_neg h]; exact ⟨rfl, rfl⟩
end Go.Proofs.YtkfmjjoalkoncaaGreat

/-
  The bag of all objects, on both sides: TotalBag. No condition.
-/
namespace Go.Proofs.YtkfmjjoalkoncaaGreat
open Go.AI
set_option maxRecDepth 8000
set_option maxHeartbeats 1600000

/-- A list in memory of the call's own. -/
def OwnL (l : List Int) : A → Heap → Prop := fun v h' => ∃ b cap, v = .os b l.length cap ∧ h' = [⟨b, 2, cap * 1, (l.map Go.AI.encI).flatten⟩]
theorem OwnL.clo {l : List Int} {v : A} {h1 : Heap} (q : OwnL l v h1) : Clo v ∧ CloH h1 := by
  obtain ⟨b, cap, rfl, rfl⟩ := q
  exact ⟨Clo.os _ _ _, CloH.cons (CloL.mapInt _ _) CloH.nil⟩
theorem o_cloneI (l : List Int) (hne : l ≠ []) (hn : l.length ≤ 1000000) : Does Tryz.prog 47 [.sl (l.map Go.AI.encI)] [] (OwnL l) := by
  refine fn_of_runD tyOk ztOk mix Tryz.func47 rfl (by decide) Tryz.ntmps47 (fun w0 F => ?_)
  repeat' (first
      | (refine j_go ?_; first
        | refine j_op0 rfl rfl rfl rfl ?_)
      | refine j_nil ?_
      | (refine r_go ?_; first | refine run_seq ?_ | refine run_region ?_)
      | refine seqQ_normal ?_)
  refine j_slnil rfl rfl rfl rfl (by simpa using hne) rfl rfl ?_
  repeat' (first
      | (refine j_go ?_; first
        | refine j_op0 rfl rfl rfl rfl ?_ | (refine j_kBsl rfl ?_; first | refine j_bs0 rfl rfl rfl rfl rfl rfl ?_))
      | refine j_nil ?_
      | (refine r_go ?_; first | refine run_seq ?_ | refine run_region ?_ | refine run_cond_f rfl ?_ | refine run_skip ?_)
      | refine seqQ_normal ?_)
  refine j_append0 (g := Go.AI.encI) l rfl rfl rfl rfl rfl rfl rfl rfl (fun _ => rfl) (fun _ _ => rfl) ⟨by omega, by omega⟩ rfl rfl (fun b' cap' => ?_)
  repeat' (first
      | (refine j_go ?_; first
        | refine j_op0 rfl rfl rfl rfl ?_)
      | refine j_nil ?_
      | (refine r_go ?_; first | refine run_ret ?_)
      | refine seqQ_normal ?_)
  exact endD_ret (h1 := [⟨b', 2, cap' * 1, (l.map Go.AI.encI).flatten⟩]) rfl (vs := [_]) (.cons (.tmp rfl) .nil) (Le.refl _) ⟨_, _, rfl, rfl⟩ (.inl rfl)

theorem bagk_self {l : List Int} : BagK (l.length : Int) l ↔ Bag l := ⟨fun q => q.1, fun q => ⟨q, rfl⟩⟩
theorem c_isBag (l : List Int) : Gives Tryz.prog 124 [.sl (l.map Go.AI.encI)] (.raw (.bool (dec (Bag l)))) := by
  refine fn_of_run tyOk ztOk mix Tryz.func124 rfl (by decide) Tryz.ntmps124 (fun w0 h => ?_)
  repeat' (first
      | (refine j_go ?_; first
        | refine j_op0 rfl rfl rfl rfl ?_ | (refine j_kCall rfl rfl rfl rfl ?_; first | refine jc (c_sizeI _) (LeL.refl _) rfl rfl ?_ | refine jc (c_ValidBag _ _) (LeL.refl _) rfl rfl ?_))
      | refine j_nil ?_
      | (refine r_go ?_; first | refine run_seq ?_ | refine run_region ?_ | refine run_ret ?_)
      | refine seqQ_normal ?_)
  exact end1 rfl (List.Sublist.refl _) (rbD bagk_self) (.inl rfl)

open Classical in
noncomputable def cdL (p : Prop) : Int := if p then 0 else 3
/-- All objects of what is around and of the first k cells. -/
def totK (t : State) : Nat → List Int
  | 0 => t.around
  | k + 1 => plusL (totK t k) (t.bags.getD k []) 1
open Classical in
noncomputable def codeTotalBag (s : System) (t : State) : Int := if s.Ok ∧ s.StateOk t then cdL (Bag (totK t t.bags.length)) else 1
end Go.Proofs.YtkfmjjoalkoncaaGreat

/-
  Packings: the program's side. No condition.
-/
namespace Go.Proofs.YtkfmjjoalkoncaaGreat
open Go.AI
set_option maxRecDepth 8000
set_option maxHeartbeats 1600000

theorem Ptk.bagk {K : Nat} {b : List Int} (h : Bgk K b) : Bag b := ⟨h.2, by have := h.1; omega, by have := h.1; omega⟩

theorem c_isFull1 (p rest : List Int) (hl : p.length ≤ rest.length) (hn : p.length ≤ 1000000) : Gives Tryz.prog 118 [.sl (p.map Go.AI.encI), .ip [.sl (rest.map Go.AI.encI)]] (.raw (.bool (dec (Within p rest)))) := by
  refine fn_of_run tyOk ztOk mix Tryz.func118 rfl (by decide) Tryz.ntmps118 (fun w0 h => ?_)
  repeat' (first
      | (refine j_go ?_; first
        | refine j_op0 rfl rfl rfl rfl ?_ | (refine j_kCall rfl rfl rfl rfl ?_; first | refine jc (c_isWithin _ _ hl hn) (LeL.refl _) rfl rfl ?_))
      | refine j_nil ?_
      | (refine r_go ?_; first | refine run_seq ?_ | refine run_region ?_ | refine run_ret ?_)
      | refine seqQ_normal ?_)
  exact end1 rfl (List.Sublist.refl _) (rfl) (.inl rfl)
theorem c_isFull (K : Nat) (rest : List Int) (parts : List (List Int)) (hr : Bgk K rest) (hp : ∀ p ∈ parts, Ptk K p) : Gives Tryz.prog 96 [.sl (rest.map Go.AI.encI), .sl (parts.map (encS Go.AI.encI))] (.raw (.bool (dec (fullP parts rest)))) := by
  refine fn_of_run tyOk ztOk mix Tryz.func96 rfl (by decide) Tryz.ntmps96 (fun w0 h => ?_)
  have rl := hr.1
  repeat' (first
      | (refine j_go ?_; first
        | refine j_op0 rfl rfl rfl rfl ?_ | (refine j_kCall rfl rfl rfl rfl ?_; first | refine jc (c_cfS _ _ (fun p => Within p rest) _ (fun p hm => c_isFull1 p rest (by have := (hp p hm).1.1; omega) (by have := (hp p hm).1.1; omega))) (LeL.refl _) rfl rfl ?_) | refine j_box rfl rfl rfl rfl rfl rfl ?_)
      | refine j_nil ?_
      | (refine r_go ?_; first | refine run_seq ?_ | refine run_region ?_ | refine run_ret ?_)
      | refine seqQ_normal ?_)
  exact end1 rfl (List.Sublist.refl _) (rbN ⟨fun q p hm w => q ⟨p, hm, w⟩, fun q ⟨p, hm, w⟩ => q p hm w⟩) (.inl rfl)
theorem c_maxP1 (K : Nat) (rest : List Int) (parts : List (List Int)) (hr : Bgk K rest) (hp : ∀ p ∈ parts, Ptk K p) : Gives Tryz.prog 95 [.sl (rest.map Go.AI.encI), .ip [.sl (parts.map (encS Go.AI.encI))]] (.raw (.bool (dec (fullP parts rest)))) := by
  refine fn_of_run tyOk ztOk mix Tryz.func95 rfl (by decide) Tryz.ntmps95 (fun w0 h => ?_)
  repeat' (first
      | (refine j_go ?_; first
        | refine j_op0 rfl rfl rfl rfl ?_ | (refine j_kCall rfl rfl rfl rfl ?_; first | refine jc (c_isFull K _ _ hr hp) (LeL.refl _) rfl rfl ?_))
      | refine j_nil ?_
      | (refine r_go ?_; first | refine run_seq ?_ | refine run_region ?_ | refine run_ret ?_)
      | refine seqQ_normal ?_)
  exact end1 rfl (List.Sublist.refl _) (rfl) (.inl rfl)
theorem c_partsCode1 (b : List Int) : Gives Tryz.prog 127 [.sl (b.map Go.AI.encI)] (.raw (.bool (dec (¬ Bag b)))) := by
  refine fn_of_run tyOk ztOk mix Tryz.func127 rfl (by decide) Tryz.ntmps127 (fun w0 h => ?_)
  repeat' (first
      | (refine j_go ?_; first
        | refine j_op0 rfl rfl rfl rfl ?_ | (refine j_kCall rfl rfl rfl rfl ?_; first | refine jc (c_isBag _) (LeL.refl _) rfl rfl ?_))
      | refine j_nil ?_
      | (refine r_go ?_; first | refine run_seq ?_ | refine run_region ?_ | refine run_ret ?_)
      | refine seqQ_normal ?_)
  exact end1 rfl (List.Sublist.refl _) (rbN Iff.rfl) (.inl rfl)
theorem c_partsCode (K : Nat) (parts : List (List Int)) (cs : List Int) (hp : ∀ p ∈ parts, Ptk K p) (h8 : parts.length ≤ 8) (hl : cs.length = parts.length) (hc : ∀ x ∈ cs, 0 ≤ x ∧ x ≤ 1000) : Gives Tryz.prog 125 [.int (K : Int), .sl (parts.map (encS Go.AI.encI)), .sl (cs.map Go.AI.encI)] (.int 0) := by
  refine fn_of_run tyOk ztOk mix Tryz.func125 rfl (by decide) Tryz.ntmps125 (fun w0 h => ?_)
  repeat' (first
      | (refine j_go ?_; first
        | refine j_op0 rfl rfl rfl rfl ?_ | (refine j_kLen rfl ?_; first | refine j_len rfl rfl rfl rfl rfl rfl ?_) | (refine j_kCall rfl rfl rfl rfl ?_; first | refine jc (c_cfS _ _ (fun b => ¬ Bag b) _ (fun b _ => c_partsCode1 b)) (LeL.refl _) rfl rfl ?_) | (refine j_kGuard rfl ?_; first | (refine (j_if rfl rfl rfl (fun hb => ?_) (fun hb => ?_)) <;> first | (exfalso; omega) | skip)))
      | refine j_nil ?_
      | (refine r_go ?_; first | refine run_seq ?_ | refine run_region ?_ | (refine (run_if rfl (fun hb => ?_) (fun hb => ?_)) <;> first | (exfalso; omega) | skip) | (refine (run_ifn rfl (fun hb => ?_) (fun hb => ?_)) <;> first | (exfalso; omega) | skip) | refine run_block ?_ | refine run_ret ?_ | refine run_skip ?_)
      | refine seqQ_normal ?_ | refine seqQ_ret ?_)
  · obtain ⟨b, hm, q⟩ := hb
    exact absurd (Ptk.bagk (hp b hm).1) q
  refine run_loop (fun k : Nat => [(0, .int (K : Int)), (2, .sl (cs.map Go.AI.encI)), (21, .sl (parts.map (encS Go.AI.encI))), (22, .int parts.length), (23, .int (k : Int))]) (fun _ => _) (fun k => k ≤ parts.length ∧ (True)) (fun k => parts.length - k) 0 ⟨rfl, rfl, rfl, rfl, rfl, trivial⟩ rfl ⟨Nat.zero_le _, by first | (intros; omega) | (simp; done) | rfl | trivial | exact ⟨by simp [sumF], by intros; omega⟩ | exact ⟨by omega, by simp⟩⟩ (fun k ⟨kl, kp⟩ => ?_)
  by_cases hk : k < parts.length
  · have hpk := hp _ (List.getElem_mem hk)
    have hck := hc _ (List.getElem_mem (n := k) (by omega))
    have hl1 := hpk.1.1.1
    have ht := hpk.2
    repeat' (first
      | (refine j_go ?_; first
        | refine j_op0 rfl rfl rfl rfl ?_ | (refine j_kIdx rfl ?_; first | refine j_idx rfl rfl rfl rfl rfl (by omega) rfl rfl rfl ?_) | (refine j_kBin rfl ?_; first | refine j_in rfl rfl ⟨by omega, by omega⟩ rfl rfl ?_) | (refine j_kLen rfl ?_; first | refine j_len rfl rfl rfl rfl rfl rfl ?_) | (refine j_kCall rfl rfl rfl rfl ?_; first | refine jc (c_bagSize _ (Bag.small (Ptk.bagk hpk.1))) (LeL.refl _) rfl rfl ?_ | refine jc (c_inRange _ _ _) (LeL.refl _) rfl rfl ?_) | (refine j_kGuard rfl ?_; first | (refine (j_if rfl rfl rfl (fun hb => ?_) (fun hb => ?_)) <;> first | (exfalso; omega) | skip) | (refine (j_ifn rfl rfl rfl (fun hb => ?_) (fun hb => ?_)) <;> first | (exfalso; omega) | skip)))
      | refine j_nil ?_
      | (refine r_go ?_; first | refine run_seq ?_ | refine run_region ?_ | (refine (run_if rfl (fun hb => ?_) (fun hb => ?_)) <;> first | (exfalso; omega) | skip) | (refine (run_ifn rfl (fun hb => ?_) (fun hb => ?_)) <;> first | (exfalso; omega) | skip) | refine run_block ?_ | refine run_skip ?_)
      | refine seqQ_normal ?_ | refine blockQ_normal ?_)
    all_goals first
      | (exfalso; omega)
      | exact absurd (by assumption) ht
      | exact loopQ_nextD (k + 1) ⟨by omega, trivial⟩ (by omega) (by first | exact List.Sublist.refl _ | exact sub1 | exact sub2 | exact sub3) ⟨rfl, rfl, rfl, rfl, nx _, trivial⟩
      | trace_state
  · repeat' (first
      | (refine j_go ?_; first
        | refine j_op0 rfl rfl rfl rfl ?_)
      | refine j_nil ?_
      | (refine r_go ?_; first | refine run_seq ?_ | refine run_region ?_ | (refine (run_if rfl (fun hb => ?_) (fun hb => ?_)) <;> first | (exfalso; omega) | skip) | refine run_ret ?_ | refine run_exit ?_)
      | refine seqQ_normal ?_ | refine seqQ_exit ?_ | refine blockQ_eq ?_ | refine loopQ_exit ?_)
    exact end1 rfl (List.Sublist.refl _) (rfl) (.inl rfl)
theorem c_bagAndParts (K : Nat) (bag : List Int) (parts : List (List Int)) (hb0 : Bgk K bag) (hp : ∀ p ∈ parts, Ptk K p) (h8 : parts.length ≤ 8) : Gives Tryz.prog 114 [.sl (bag.map Go.AI.encI), .sl (parts.map (encS Go.AI.encI))] (.int 0) := by
  refine fn_of_run tyOk ztOk mix Tryz.func114 rfl (by decide) Tryz.ntmps114 (fun w0 h => ?_)
  have hbl := hb0.1.1
  repeat' (first
      | (refine j_go ?_; first
        | refine j_op0 rfl rfl rfl rfl ?_ | (refine j_kLen rfl ?_; first | refine j_len rfl rfl rfl rfl rfl rfl ?_) | (refine j_kCall rfl rfl rfl rfl ?_; first | refine jc (c_isBag _) (LeL.refl _) rfl rfl ?_))
      | refine j_nil ?_
      | (refine r_go ?_; first | refine run_seq ?_ | refine run_region ?_ | (refine (run_ifn rfl (fun hb => ?_) (fun hb => ?_)) <;> first | (exfalso; omega) | skip) | refine run_ret ?_ | refine run_skip ?_)
      | refine seqQ_normal ?_ | refine seqQ_ret ?_)
  · exact absurd (Ptk.bagk hb0) hb
  refine j_makeI (g := Go.AI.encI) (m := parts.length) 0 rfl rfl rfl rfl rfl rfl rfl rfl rfl (by omega) rfl rfl (fun bz => ?_)
  refine j_view (view_freeze (g := Go.AI.encI) (z := 1) (ys := List.replicate parts.length (0 : Int)) 0 13 (by rw [List.length_replicate]; rfl) rfl rfl (fun _ => rfl) rfl rfl) ?_
  have cP := c_partsCode K parts (List.replicate parts.length (0 : Int)) hp h8 (by simp) (fun x hx => by rw [List.eq_of_mem_replicate hx]; omega)
  rw [← hbl] at cP
  repeat' (first
      | (refine j_go ?_; first
        | refine j_op0 rfl rfl rfl rfl ?_ | (refine j_kCall rfl rfl rfl rfl ?_; first | refine jc (cP) (LeL.refl _) rfl rfl ?_))
      | refine j_nil ?_
      | (refine r_go ?_; first | refine run_ret ?_)
      | refine seqQ_normal ?_)
  exact end1 rfl (List.Sublist.refl _) (rfl) (.inl rfl)

/-- The lists that are collected: how many there are is known, not their elements. -/
def PkL (b : Nat) (N : Nat) (h : Heap) : Prop := ∃ (ob : Option Nat) (cap : Nat) (vs : List A), vs.length = N ∧ h = [⟨some b, 149, 1, [.os ob vs.length cap]⟩, ⟨ob, 24, cap * 1, (vs.map fun a => [a]).flatten⟩]
theorem o_listAdd (bl N : Nat) (h0 : Heap) (hN : N ≤ 2000) (H : PkL bl N h0) (c : List Int) (hc : c ≠ []) (hcl : c.length ≤ 1000000) (bc : Option Nat) (cc : Nat) : Does Tryz.prog 116 [.op (some bl) 0, .os bc c.length cc] (h0 ++ [⟨bc, 2, cc * 1, (c.map Go.AI.encI).flatten⟩])
    (fun v h' => v = .raw (.bool (dec (N + 1 ≤ 2000))) ∧ ∃ h1, PkL bl (N + 1) h1 ∧ h' = h1 ++ [⟨bc, 2, cc * 1, (c.map Go.AI.encI).flatten⟩]) := by
  obtain ⟨ob, cap, vs, hvs, rfl⟩ := H
  refine fn_of_runD tyOk ztOk mix Tryz.func116 rfl (by decide) Tryz.ntmps116 (fun w0 F => ?_)
  change Run _ _ _ _ _ (_ :: _ :: _ :: F)
  repeat' (first
      | (refine j_go ?_; first
        | refine j_op0 rfl rfl rfl rfl ?_ | (refine j_kLen rfl ?_; first | refine j_op rfl rfl rfl rfl ?_) | (refine j_kLoad rfl ?_; first | refine j_mload 0 rfl rfl rfl rfl rfl rfl rfl ?_))
      | refine j_nil ?_
      | (refine j_goO ?_; first
        | refine j_op0O rfl rfl rfl rfl ?_ | (refine j_kLoadO rfl ?_; first | refine j_mloadS 0 rfl rfl rfl rfl rfl rfl rfl ?_))
      | (refine r_go ?_; first | refine run_seq ?_ | refine run_region ?_ | (refine (run_if rfl (fun hb => ?_) (fun hb => ?_)) <;> first | (exfalso; omega) | skip) | refine run_skip ?_ | refine run_opn 3 [⟨0, false, false, 0⟩, ⟨1, false, false, 0⟩, ⟨2, false, false, 0⟩, ⟨3, false, false, 0⟩, ⟨4, false, false, 0⟩, ⟨5, true, false, 0⟩, ⟨6, false, true, 0⟩, ⟨7, true, false, 0⟩, ⟨8, false, true, 0⟩, ⟨9, true, false, 0⟩, ⟨10, true, false, 0⟩, ⟨11, false, true, 0⟩] rfl rfl (by kernel_rfl) ?_)
      | refine seqQ_normal ?_)
  try (refine j_mloadS 0 rfl rfl rfl rfl rfl rfl rfl ?_)
  skip
  refine j_kCallO rfl rfl rfl rfl ?_
  refine jctO [⟨bc, 2, cc * 1, (c.map Go.AI.encI).flatten⟩] (o_cloneI c hc hcl) rfl (by intro k2 hk2; simp only [List.mem_singleton] at hk2; subst hk2; simp) (fun k hk => by simp only [List.mem_singleton] at hk; subst hk; simp) (FrzL.cons (Frz.flat (g := Go.AI.encI) (ys := c) (z := 1) rfl rfl (fun _ => rfl) rfl rfl) (FrzL.nil _)) (fun v h1 q => q.clo) rfl rfl (fun v h1 hR => ?_)
  obtain ⟨ov, cv, rfl, rfl⟩ := hR
  repeat' (first
      | (refine j_goO ?_; first
        | (refine j_kBslO rfl ?_; first | refine j_bslO rfl rfl rfl rfl rfl rfl rfl rfl rfl rfl rfl ?_)))
  refine j_appendO 2 (g := fun a => [a]) (ys := vs) [A.os ov c.length cv] rfl (by intro k2 hk2; simp only [List.mem_singleton] at hk2; subst hk2; simp) rfl rfl rfl rfl rfl rfl rfl rfl rfl rfl rfl rfl (fun _ => rfl) (fun _ hy => by simp only [List.mem_singleton] at hy; subst hy; rfl) ⟨by simp only [List.length_cons, List.length_nil]; omega, by simp only [List.length_cons, List.length_nil]; omega⟩ rfl rfl (fun ob' cap' => ?_)
  refine j_dropO [4] rfl (by kernel_rfl) ?_
  repeat' (first
      | (refine j_go ?_; first
        | refine j_op0 rfl rfl rfl rfl ?_ | (refine j_kLen rfl ?_; first | refine j_op rfl rfl rfl rfl ?_) | (refine j_kLoad rfl ?_; first | refine j_mload 1 rfl rfl rfl rfl rfl rfl rfl ?_))
      | refine j_nil ?_
      | (refine j_goO ?_; first
        | refine j_op0O rfl rfl rfl rfl ?_ | (refine j_kStoreO rfl ?_; first | refine j_storeO 1 rfl rfl rfl rfl rfl rfl rfl rfl rfl rfl rfl rfl (by first | (intro _ hk; exact absurd hk List.not_mem_nil) | (intro k hk; simp at hk ⊢; try simp [hk])) ?_))
      | refine j_nilO ?_
      | (refine r_go ?_; first | refine run_seq ?_ | refine run_region ?_ | refine run_ret ?_)
      | refine seqQ_normal ?_)
  refine endD_view (view_erase 0) ?_
  exact endD_ret (h1 := [_, _, _]) rfl (.cons (.tmp rfl) .nil) (Le.refl _) ⟨rbD (by simp only [List.length_append, List.length_cons, List.length_nil]; omega), _, ⟨ob', cap', vs ++ [A.os ov c.length cv], by simp [hvs], rfl⟩, rfl⟩ (.inl rfl)
theorem o_listRes (bl N : Nat) (h0 : Heap) (H : PkL bl N h0) : Does Tryz.prog 117 [.op (some bl) 0] h0 (fun v h' => h' = [] ∧ (N ≤ 2000 → ∃ ob cap, v = .tup [.os ob N cap, .int 0]) ∧ (2000 < N → ∃ x, v = .tup [x, .int 3])) := by
  obtain ⟨ob, cap, vs, hvs, rfl⟩ := H
  refine fn_of_runD tyOk ztOk mix Tryz.func117 rfl (by decide) Tryz.ntmps117 (fun w0 F => ?_)
  change Run _ _ _ _ _ (_ :: _ :: F)
  repeat' (first
      | (refine j_go ?_; first
        | refine j_op0 rfl rfl rfl rfl ?_ | (refine j_kLen rfl ?_; first | refine j_op rfl rfl rfl rfl ?_) | (refine j_kLoad rfl ?_; first | refine j_mload 0 rfl rfl rfl rfl rfl rfl rfl ?_))
      | refine j_nil ?_
      | (refine r_go ?_; first | refine run_seq ?_ | refine run_region ?_ | (refine (run_if rfl (fun hb => ?_) (fun hb => ?_)) <;> first | (exfalso; omega) | skip) | refine run_ret ?_ | refine run_skip ?_)
      | refine seqQ_normal ?_ | refine seqQ_ret ?_)
  · refine endD_view (view_sub (h0 := F) (List.Sublist.cons _ (List.Sublist.cons _ (List.Sublist.refl _)))) ?_
    exact endD_ret (h1 := []) rfl (.cons (.tmp rfl) (.cons (.tmp rfl) .nil)) (Le.refl _) ⟨rfl, fun q => by omega, fun _ => ⟨_, rfl⟩⟩ (.inl rfl)
  · refine endD_view (view_sub (h0 := F) (List.Sublist.cons _ (List.Sublist.cons _ (List.Sublist.refl _)))) ?_
    exact endD_ret (h1 := []) rfl (.cons (.tmp rfl) (.cons (.tmp rfl) .nil)) (Le.refl _) ⟨rfl, fun _ => ⟨ob, cap, by rw [← hvs]; rfl⟩, fun q => by omega⟩ (.inl rfl)
theorem le_iN {a b : Int} (h : a = b) : Le (.int a) (.int b) := by subst h; exact Le.refl _
def capsP (parts : List (List Int)) (bl bc m cc b11 : Nat) : List A := [.ip [.sl (parts.map (encS Go.AI.encI))], .ip [.fn 95 [.ip [.sl (parts.map (encS Go.AI.encI))]]], .ip [.op (some bl) 0], .ip [.os (some bc) m cc], .op (some b11) 0]
def selfP (parts : List (List Int)) (bl bc m cc b11 : Nat) : Blk := ⟨some b11, 150, 1, [.fn 115 (capsP parts bl bc m cc b11)]⟩
def FrR (parts : List (List Int)) (bl bc m cc b11 N : Nat) (h : Heap) : Prop := ∃ (h1 : Heap) (c : List Int), PkL bl N h1 ∧ c.length = m ∧ h = selfP parts bl bc m cc b11 :: (h1 ++ [⟨some bc, 2, cc * 1, (c.map Go.AI.encI).flatten⟩])
theorem o_pkFrom (K : Nat) (bl bc cc b11 : Nat) : ∀ (ps pre : List (List Int)) (rest : List Int) (N : Nat) (h0 : Heap), (∀ p ∈ pre ++ ps, Ptk K p) → (pre ++ ps).length ≤ 8 → 1 ≤ (pre ++ ps).length → Bgk K rest → N ≤ 2000 → FrR (pre ++ ps) bl bc (pre ++ ps).length cc b11 N h0 →
    Does Tryz.prog 115 (.int (pre.length : Nat) :: .sl (rest.map Go.AI.encI) :: capsP (pre ++ ps) bl bc (pre ++ ps).length cc b11) h0
      (fun v h' => v = .raw (.bool (dec (min 2001 (N + packN (pre ++ ps) ps rest) ≤ 2000))) ∧ FrR (pre ++ ps) bl bc (pre ++ ps).length cc b11 (min 2001 (N + packN (pre ++ ps) ps rest)) h') := by
  intro ps
  induction ps with
  | nil =>
    intro pre rest N h0 hp h8 h1 hr hN H
    rw [List.append_nil] at hp h8 h1 H ⊢
    obtain ⟨hL, c, hL0, hcl, rfl⟩ := H
    have hcn : c ≠ [] := fun q => by rw [q] at hcl; simp at hcl; omega
    refine fn_of_runD tyOk ztOk mix Tryz.func115 rfl (by decide) Tryz.ntmps115 (fun w0 F => ?_)
    change Run _ _ _ _ _ (selfP pre bl bc pre.length cc b11 :: (hL ++ [_] ++ F))
    unfold capsP
    repeat' (first
      | (refine j_go ?_; first
        | refine j_op0 rfl rfl rfl rfl ?_ | refine j_off rfl rfl rfl ?_ | (refine j_kLen rfl ?_; first | refine j_len rfl rfl rfl rfl rfl rfl ?_) | (refine j_kCall rfl rfl rfl rfl ?_; first | refine jc (c_maxP1 K _ _ hr hp) (LeL.refl _) rfl rfl ?_) | (refine j_kGuard rfl ?_; first | (refine (j_ifn rfl rfl rfl (fun hb => ?_) (fun hb => ?_)) <;> first | (exfalso; omega) | skip)))
      | refine j_nil ?_
      | (refine r_go ?_; first | refine run_seq ?_ | refine run_region ?_ | (refine (run_if rfl (fun hb => ?_) (fun hb => ?_)) <;> first | (exfalso; omega) | skip) | refine run_ret ?_)
      | refine seqQ_normal ?_ | refine seqQ_ret ?_)
    · have eN : min 2001 (N + packN pre [] rest) = N := by rw [packN, if_neg hb]; omega
      rw [eN]
      exact endD_ret (h1 := selfP pre bl bc pre.length cc b11 :: (hL ++ [_])) rfl (.cons (.tmp rfl) .nil) (Le.refl _) ⟨rbT (by omega), hL, c, hL0, hcl, rfl⟩ (.inl rfl)
    · have eN : min 2001 (N + packN pre [] rest) = N + 1 := by rw [packN, if_pos hb]; omega
      rw [eN]
      have cA := o_listAdd bl N hL hN hL0 c hcn (by omega) (some bc) cc
      rw [hcl] at cA
      refine j_kCall rfl rfl rfl rfl ?_
      refine jcp (selfP pre bl bc pre.length cc b11 :: F) cA List.perm_middle.symm (LeL.refl _) rfl rfl (fun v h3 hR => ?_)
      obtain ⟨rfl, h4, q4, rfl⟩ := hR
      repeat' (first
      | (refine j_go ?_; first
        | refine j_op0 rfl rfl rfl rfl ?_)
      | refine j_nil ?_
      | (refine r_go ?_; first | refine run_ret ?_)
      | refine seqQ_normal ?_ | refine seqQ_ret ?_)
      refine endD_view (view_perm (List.perm_middle (l₁ := h4 ++ [⟨some bc, 2, cc * 1, (c.map Go.AI.encI).flatten⟩]) (l₂ := F) (a := selfP pre bl bc pre.length cc b11))) ?_
      exact endD_ret (h1 := selfP pre bl bc pre.length cc b11 :: (h4 ++ [_])) rfl (.cons (.tmp rfl) .nil) (Le.refl _) ⟨rfl, h4, c, q4, hcl, rfl⟩ (.inl rfl)
  | cons p ps ih =>
    intro pre rest N h0 hp h8 h1 hr hN H
    have hpp : Ptk K p := hp p (by simp)
    have tb := hpp.tb hr
    have ln : (pre ++ p :: ps).length = pre.length + ps.length + 1 := by simp only [List.length_append, List.length_cons]; omega
    have at1 : (pre ++ p :: ps)[pre.length]'(by omega) = p := at_app rfl _
    have cT' : Gives Tryz.prog 51 [.sl (((pre ++ p :: ps)[pre.length]'(by omega)).map Go.AI.encI), .sl (rest.map Go.AI.encI)] (.int (tms p rest)) := by rw [at1]; exact c_timesIn p rest (hpp.tm hr)
    have rl := hr.1
    have eqp : (pre ++ [p]) ++ ps = pre ++ p :: ps := by simp
    obtain ⟨hL, c, ⟨ob, cap, vs, hvs, rfl⟩, hcl, rfl⟩ := H
    refine fn_of_runD tyOk ztOk mix Tryz.func115 rfl (by decide) Tryz.ntmps115 (fun w0 F => ?_)
    change Run _ _ _ _ _ (selfP (pre ++ p :: ps) bl bc (pre ++ p :: ps).length cc b11 :: _ :: _ :: _ :: F)
    unfold capsP
    repeat' (first
      | (refine j_go ?_; first
        | refine j_op0 rfl rfl rfl rfl ?_ | (refine j_kLen rfl ?_; first | refine j_len rfl rfl rfl rfl rfl rfl ?_))
      | refine j_nil ?_
      | (refine r_go ?_; first | refine run_seq ?_ | refine run_region ?_ | (refine (run_if rfl (fun hb => ?_) (fun hb => ?_)) <;> first | (exfalso; omega) | skip) | refine run_block ?_ | refine run_skip ?_)
      | refine seqQ_normal ?_)
    refine run_loop (fun x : Nat × (Option Nat × Nat) × List A × List Int => [(0, .int (pre.length : Nat)), (1, .sl (rest.map Go.AI.encI)), (2, .ip [.sl ((pre ++ p :: ps).map (encS Go.AI.encI))]), (5, .ip [.os (some bc) (pre ++ p :: ps).length cc]), (6, .op (some b11) 0), (10, .int (x.1 : Int))])
      (fun x => selfP (pre ++ p :: ps) bl bc (pre ++ p :: ps).length cc b11 :: ⟨some bl, 149, 1, [.os x.2.1.1 x.2.2.1.length x.2.1.2]⟩ :: ⟨x.2.1.1, 24, x.2.1.2 * 1, (x.2.2.1.map fun a => [a]).flatten⟩ :: ⟨some bc, 2, cc * 1, (x.2.2.2.map Go.AI.encI).flatten⟩ :: F)
      (fun x => x.1 ≤ (tms p rest).toNat + 1 ∧ x.2.2.1.length = N + sumN (fun n => packN (pre ++ p :: ps) ps (plusL rest p (0 - (n : Int)))) x.1 ∧ x.2.2.1.length ≤ 2000 ∧ x.2.2.2.length = (pre ++ p :: ps).length) (fun x => (tms p rest).toNat + 1 - x.1) (0, (ob, cap), vs, c) ⟨rfl, rfl, rfl, rfl, rfl, rfl, trivial⟩ rfl
      ⟨Nat.zero_le _, (by simp only [sumN]; omega), (by simp only []; omega), hcl⟩ (fun ⟨n, ⟨ob, cap⟩, vs, c⟩ ⟨kl, kv, k2, kc⟩ => ?_)
    dsimp only at kl kv k2 kc ⊢
    by_cases hn : (n : Int) ≤ tms p rest
    · have fit := hpp.fits hr (n := (n : Int)) (by omega) (by omega)
      have cP' : Gives Tryz.prog 52 [.sl (rest.map Go.AI.encI), .sl (((pre ++ p :: ps)[pre.length]'(by omega)).map Go.AI.encI), .int (0 - (n : Int))] (.sl ((plusL rest p (0 - (n : Int))).map Go.AI.encI)) := by rw [at1]; exact c_plus _ _ _ fit
      have IH := ih (pre ++ [p]) (plusL rest p (0 - (n : Int))) vs.length (selfP (pre ++ p :: ps) bl bc (pre ++ p :: ps).length cc b11 :: ([⟨some bl, 149, 1, [.os ob vs.length cap]⟩, ⟨ob, 24, cap * 1, (vs.map fun a => [a]).flatten⟩] ++ [⟨some bc, 2, cc * 1, ((c.set pre.length (n : Int)).map Go.AI.encI).flatten⟩])) (by rw [eqp]; exact hp) (by rw [eqp]; exact h8) (by rw [eqp]; exact h1) (hpp.left hr (by omega) hn) k2
        (by rw [eqp]; exact ⟨_, c.set pre.length (n : Int), ⟨ob, cap, vs, rfl, rfl⟩, by rw [List.length_set]; exact kc, rfl⟩)
      rw [eqp] at IH
      repeat' (first
      | (refine j_go ?_; first
        | refine j_op0 rfl rfl rfl rfl ?_ | (refine j_kIdx rfl ?_; first | refine j_idx rfl rfl rfl rfl rfl (by omega) rfl rfl rfl ?_ | refine j_midx rfl rfl rfl rfl rfl (by first | omega | (simp only [List.length_append, List.length_cons, List.length_nil]; omega)) rfl rfl ?_) | (refine j_kCall rfl rfl rfl rfl ?_; first | refine jc (cT') (LeL.refl _) rfl rfl ?_))
      | refine j_nil ?_
      | (refine r_go ?_; first | refine run_seq ?_ | refine run_region ?_ | (refine (run_if rfl (fun hb => ?_) (fun hb => ?_)) <;> first | (exfalso; omega) | skip) | refine run_block ?_ | refine run_skip ?_)
      | refine seqQ_normal ?_)
      refine j_storeE 3 pre.length (g := Go.AI.encI) (n : Int) rfl rfl rfl rfl rfl rfl rfl rfl rfl (fun _ => rfl) rfl (by omega) ?_
      repeat' (first
      | refine j_nil ?_
      | (refine j_goO ?_; first
        | refine j_op0O rfl rfl rfl rfl ?_ | (refine j_kIdxO rfl ?_; first | refine j_idxO rfl rfl rfl rfl rfl (by omega) rfl rfl rfl ?_) | (refine j_kBinO rfl ?_; first | refine j_inO rfl rfl ⟨by omega, by omega⟩ rfl rfl ?_) | (refine j_kCallO rfl rfl rfl rfl ?_; first | refine jcO (cP') (LeL.refl _) rfl rfl ?_) | (refine j_kLoadO rfl ?_; first | refine j_mloadO 0 rfl rfl rfl rfl rfl rfl rfl rfl ?_) | refine j_inO rfl rfl ⟨by omega, by omega⟩ rfl rfl ?_)
      | (refine r_go ?_; first | refine run_seq ?_ | refine run_opn 7 [⟨0, true, false, 0⟩, ⟨1, true, false, 0⟩, ⟨2, true, false, 0⟩, ⟨3, true, false, 0⟩, ⟨4, true, false, 0⟩, ⟨5, true, false, 0⟩, ⟨6, true, false, 0⟩, ⟨7, true, false, 0⟩, ⟨8, true, false, 0⟩, ⟨9, true, false, 0⟩, ⟨10, true, false, 0⟩, ⟨11, false, true, 0⟩, ⟨12, true, false, 0⟩] rfl rfl (by kernel_rfl) ?_)
      | refine seqQ_normal ?_)
      refine j_kCallO rfl rfl rfl rfl ?_
      refine jcpO F IH rfl (List.Perm.refl _) (LeL.cons (le_iN (by simp)) (LeL.refl _)) rfl rfl (fun v h3 hR => ?_)
      obtain ⟨rfl, hL', c', ⟨ob', cap', vs', hvs', rfl⟩, hcl', rfl⟩ := hR
      have mo := sumN_mono (f := fun n => packN (pre ++ p :: ps) ps (plusL rest p (0 - (n : Int)))) (a := n + 1) (b := (tms p rest).toNat + 1) (by omega)
      rw [sumN] at mo
      have eP : packN (pre ++ p :: ps) (p :: ps) rest = sumN (fun n => packN (pre ++ p :: ps) ps (plusL rest p (0 - (n : Int)))) ((tms p rest).toNat + 1) := by rw [packN]
      by_cases hM : min 2001 (vs.length + packN (pre ++ p :: ps) ps (plusL rest p (0 - (n : Int)))) ≤ 2000
      · rw [dec_t hM]
        repeat' (first
      | (refine j_go ?_; first
        | refine j_op0 rfl rfl rfl rfl ?_ | (refine j_kBin rfl ?_; first | refine j_in rfl rfl ⟨by omega, by omega⟩ rfl rfl ?_) | refine j_in rfl rfl ⟨by omega, by omega⟩ rfl rfl ?_)
      | refine j_nil ?_
      | (refine j_goO ?_; first
        | refine j_op0O rfl rfl rfl rfl ?_)
      | refine j_nilO ?_
      | (refine r_go ?_; first | refine run_region ?_ | refine run_cond_f rfl ?_ | refine run_skip ?_)
      | refine seqQ_normal ?_ | refine blockQ_normal ?_)
        exact loopQ_next (n + 1, (ob', cap'), vs', c') ⟨by dsimp only; omega, by dsimp only; rw [hvs', sumN]; omega, by dsimp only; omega, hcl'⟩ (by dsimp only; omega) rfl ⟨rfl, rfl, rfl, rfl, rfl, nx _, trivial⟩
      · rw [dec_f hM]
        repeat' (first
      | (refine j_go ?_; first
        | refine j_op0 rfl rfl rfl rfl ?_)
      | refine j_nil ?_
      | (refine j_goO ?_; first
        | refine j_op0O rfl rfl rfl rfl ?_)
      | refine j_nilO ?_
      | (refine r_go ?_; first | refine run_seq ?_ | refine run_region ?_ | refine run_cond_t rfl ?_ | refine run_ret ?_)
      | refine seqQ_normal ?_ | refine seqQ_ret ?_ | refine blockQ_ret ?_ | refine loopQ_ret ?_)
        have eN : min 2001 (N + packN (pre ++ p :: ps) (p :: ps) rest) = 2001 := by rw [eP]; omega
        rw [eN]
        exact endD_ret (h1 := selfP (pre ++ p :: ps) bl bc (pre ++ p :: ps).length cc b11 :: ([_, _] ++ [_])) rfl (.cons (.tmp rfl) .nil) (Le.refl _) ⟨rbF (by omega), _, c', ⟨ob', cap', vs', by omega, rfl⟩, hcl', rfl⟩ (.inl rfl)
    · have hne : n = (tms p rest).toNat + 1 := by omega
      have eP : packN (pre ++ p :: ps) (p :: ps) rest = sumN (fun n => packN (pre ++ p :: ps) ps (plusL rest p (0 - (n : Int)))) ((tms p rest).toNat + 1) := by rw [packN]
      have eN : min 2001 (N + packN (pre ++ p :: ps) (p :: ps) rest) = vs.length := by rw [eP, ← hne]; omega
      rw [eN]
      repeat' (first
      | (refine j_go ?_; first
        | refine j_op0 rfl rfl rfl rfl ?_ | (refine j_kIdx rfl ?_; first | refine j_idx rfl rfl rfl rfl rfl (by omega) rfl rfl rfl ?_) | (refine j_kCall rfl rfl rfl rfl ?_; first | refine jc (cT') (LeL.refl _) rfl rfl ?_))
      | refine j_nil ?_
      | (refine r_go ?_; first | refine run_seq ?_ | refine run_region ?_ | (refine (run_if rfl (fun hb => ?_) (fun hb => ?_)) <;> first | (exfalso; omega) | skip) | refine run_ret ?_ | refine run_exit ?_)
      | refine seqQ_normal ?_ | refine seqQ_exit ?_ | refine blockQ_eq ?_ | refine loopQ_exit ?_)
      exact endD_ret (h1 := selfP (pre ++ p :: ps) bl bc (pre ++ p :: ps).length cc b11 :: ([_, _] ++ [_])) rfl (.cons (.tmp rfl) .nil) (Le.refl _) ⟨rbT (by omega), _, c, ⟨ob, cap, vs, rfl, rfl⟩, kc, rfl⟩ (.inl rfl)
end Go.Proofs.YtkfmjjoalkoncaaGreat
