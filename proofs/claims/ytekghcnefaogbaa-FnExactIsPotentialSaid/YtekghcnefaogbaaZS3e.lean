/-
  Choices: what the program computes of them; IsChoice, IsMaximal. No condition.
-/
import Derived.Test.YtekghcnefaogbaaZS3d
namespace Go.Proofs.Ytekghcnefaogbaa
open Go.AI
set_option maxRecDepth 8000
set_option maxHeartbeats 1600000

/-- The least of some numbers. -/
def minF : List Int → Int
  | [] => 0
  | [x] => x
  | x :: y :: l => min x (minF (y :: l))
theorem minF_spec : ∀ (l : List Int), l ≠ [] → minF l ∈ l ∧ ∀ x ∈ l, minF l ≤ x
  | [], h => absurd rfl h
  | [x], _ => ⟨by simp [minF], fun y hy => by simp at hy; subst hy; exact Int.le_refl _⟩
  | x :: y :: l, _ => by
    have ⟨h1, h2⟩ := minF_spec (y :: l) (by simp)
    simp only [minF]
    refine ⟨?_, fun z hz => ?_⟩
    · by_cases hx : x ≤ minF (y :: l)
      · rw [Int.min_eq_left hx]; simp
      · rw [Int.min_eq_right (by omega)]; exact List.mem_cons_of_mem _ h1
    · rcases List.mem_cons.1 hz with rfl | hz
      · omega
      · have := h2 z hz; omega
theorem minF_eq {l : List Int} {m : Int} (h1 : m ∈ l) (h2 : ∀ x ∈ l, m ≤ x) : m = minF l := by
  have hne : l ≠ [] := fun q => by rw [q] at h1; cases h1
  have ⟨a, b⟩ := minF_spec l hne
  have := h2 _ a; have := b _ h1; omega

theorem first_le {l : List Int} (h : 0 < l.length) : ∀ i (hi : i < l.length), i < 1 → l[0] ≤ l[i] := fun i hi h1 => by
  have : i = 0 := by omega
  subst this; exact Int.le_refl _

theorem c_slMin (l : List Int) (hne : 1 ≤ l.length) (hn : l.length ≤ 1000000) : Gives Try.prog 103 [.sl (l.map encI)] (.int (minF l)) := by
  refine fn_of_run tyOk ztOk mix Try.func103 rfl (by decide) Try.ntmps103 (fun w0 h => ?_)
  repeat' (first
      | (refine j_go ?_; first
        | refine j_op0 rfl rfl rfl rfl ?_ | (refine j_kIdx rfl ?_; first | refine j_idx rfl rfl rfl rfl rfl (by omega) rfl rfl rfl ?_ | refine j_idxz rfl rfl rfl rfl rfl ⟨by omega, by omega⟩ rfl rfl rfl ?_) | (refine j_kBin rfl ?_; first | refine j_in rfl rfl ⟨by omega, by omega⟩ rfl rfl ?_) | (refine j_kLen rfl ?_; first | refine j_len rfl rfl rfl rfl rfl rfl ?_ | refine j_op rfl rfl rfl rfl ?_))
      | refine j_nil ?_
      | (refine r_go ?_; first | refine run_seq ?_ | refine run_region ?_ | refine run_cond_t rfl ?_ | refine run_cond_f rfl ?_ | (refine (run_if rfl (fun hb => ?_) (fun hb => ?_)) <;> first | (exfalso; omega) | skip) | (refine (run_ifn rfl (fun hb => ?_) (fun hb => ?_)) <;> first | (exfalso; omega) | skip) | refine run_block ?_ | refine run_ret ?_ | refine run_exit ?_ | refine run_skip ?_ | refine run_regionD (by kernel_rfl) ?_ | refine run_condn rfl (fun hb => ?_) (fun hb => ?_) | refine run_cond rfl (fun hb => ?_) (fun hb => ?_))
      | refine seqQ_normal ?_ | refine seqQ_ret ?_ | refine seqQ_exit ?_ | refine blockQ_normal ?_ | refine blockQ_ret ?_ | refine blockQ_eq ?_ | refine blockQ_ne rfl ?_ | refine loopQ_ret ?_ | refine loopQ_exit ?_)
  refine run_loop (fun x : Nat × Int => [(0, .sl (l.map encI)), (3, .int x.2), (4, .int (x.1 : Int))]) (fun _ => _) (fun x => (1 ≤ x.1 ∧ x.1 ≤ l.length) ∧ x.2 ∈ l ∧ ∀ i (h : i < l.length), i < x.1 → x.2 ≤ l[i]) (fun x => l.length - x.1) (1, l[0]'(by omega)) ⟨rfl, rfl, rfl, trivial⟩ rfl ⟨⟨by omega, by omega⟩, List.getElem_mem _, first_le (by omega)⟩ (fun ⟨k, m⟩ ⟨kl, km, kp⟩ => ?_)
  dsimp only at kl km kp ⊢
  by_cases hk : k < l.length
  · repeat' (first
      | (refine j_go ?_; first
        | refine j_op0 rfl rfl rfl rfl ?_ | (refine j_kIdx rfl ?_; first | refine j_idx rfl rfl rfl rfl rfl (by omega) rfl rfl rfl ?_ | refine j_idxz rfl rfl rfl rfl rfl ⟨by omega, by omega⟩ rfl rfl rfl ?_) | (refine j_kBin rfl ?_; first | refine j_in rfl rfl ⟨by omega, by omega⟩ rfl rfl ?_) | (refine j_kLen rfl ?_; first | refine j_len rfl rfl rfl rfl rfl rfl ?_ | refine j_op rfl rfl rfl rfl ?_))
      | refine j_nil ?_
      | (refine r_go ?_; first | refine run_seq ?_ | refine run_region ?_ | refine run_cond_t rfl ?_ | refine run_cond_f rfl ?_ | (refine (run_if rfl (fun hb => ?_) (fun hb => ?_)) <;> first | (exfalso; omega) | skip) | (refine (run_ifn rfl (fun hb => ?_) (fun hb => ?_)) <;> first | (exfalso; omega) | skip) | refine run_block ?_ | refine run_ret ?_ | refine run_exit ?_ | refine run_skip ?_ | refine run_regionD (by kernel_rfl) ?_ | refine run_condn rfl (fun hb => ?_) (fun hb => ?_) | refine run_cond rfl (fun hb => ?_) (fun hb => ?_))
      | refine seqQ_normal ?_ | refine seqQ_ret ?_ | refine seqQ_exit ?_ | refine blockQ_normal ?_ | refine blockQ_ret ?_ | refine blockQ_eq ?_ | refine blockQ_ne rfl ?_ | refine loopQ_ret ?_ | refine loopQ_exit ?_)
    exact loopQ_nextD (k + 1, min m l[k]) ⟨⟨by dsimp only; omega, by dsimp only; omega⟩, by
      dsimp only
      by_cases hx : m ≤ l[k]
      · rw [Int.min_eq_left hx]; exact km
      · rw [Int.min_eq_right (by omega)]; exact List.getElem_mem hk, by
      dsimp only
      exact all_step (fun i h1 h2 => by have := kp i h1 h2; omega) (fun _ => by omega)⟩ (by dsimp only; omega) (List.Sublist.refl _) ⟨rfl, rfl, nx _, trivial⟩
  · repeat' (first
      | (refine j_go ?_; first
        | refine j_op0 rfl rfl rfl rfl ?_ | (refine j_kIdx rfl ?_; first | refine j_idx rfl rfl rfl rfl rfl (by omega) rfl rfl rfl ?_ | refine j_idxz rfl rfl rfl rfl rfl ⟨by omega, by omega⟩ rfl rfl rfl ?_) | (refine j_kBin rfl ?_; first | refine j_in rfl rfl ⟨by omega, by omega⟩ rfl rfl ?_) | (refine j_kLen rfl ?_; first | refine j_len rfl rfl rfl rfl rfl rfl ?_ | refine j_op rfl rfl rfl rfl ?_))
      | refine j_nil ?_
      | (refine r_go ?_; first | refine run_seq ?_ | refine run_region ?_ | refine run_cond_t rfl ?_ | refine run_cond_f rfl ?_ | (refine (run_if rfl (fun hb => ?_) (fun hb => ?_)) <;> first | (exfalso; omega) | skip) | (refine (run_ifn rfl (fun hb => ?_) (fun hb => ?_)) <;> first | (exfalso; omega) | skip) | refine run_block ?_ | refine run_ret ?_ | refine run_exit ?_ | refine run_skip ?_ | refine run_regionD (by kernel_rfl) ?_ | refine run_condn rfl (fun hb => ?_) (fun hb => ?_) | refine run_cond rfl (fun hb => ?_) (fun hb => ?_))
      | refine seqQ_normal ?_ | refine seqQ_ret ?_ | refine seqQ_exit ?_ | refine blockQ_normal ?_ | refine blockQ_ret ?_ | refine blockQ_eq ?_ | refine blockQ_ne rfl ?_ | refine loopQ_ret ?_ | refine loopQ_exit ?_)
    exact end1 rfl (List.Sublist.refl _) (ai (minF_eq km (fun x hx => by obtain ⟨i, hi, rfl⟩ := List.getElem_of_mem hx; exact kp i hi (by omega)))) (.inl rfl)

/-- All rules that are counted are applicable. -/
def AllApp (s : System) (t : State) (cs : List Int) : Prop := ∀ i (h : i < s.rules.length) (h2 : i < cs.length), 0 < cs[i] → App s t s.rules[i]
open Classical in
noncomputable def restI (s : System) (t : State) (cs : List Int) : A := if AllApp s t cs then .sl ((restK s t cs s.rules.length).map (encS encI)) else .os none 0 0
end Go.Proofs.Ytekghcnefaogbaa
