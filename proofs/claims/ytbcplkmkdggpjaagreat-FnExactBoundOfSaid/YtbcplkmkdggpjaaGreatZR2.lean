/-
  Invariants and potentials: what the reference and the program compute. No condition.
-/
import Derived.Test.YtbcplkmkdggpjaaGreatZS3f
import Derived.Test.YtbcplkmkdggpjaaGreatZG2
import Derived.KernelRfl
namespace Go.Proofs.YtbcplkmkdggpjaaGreat
open Go.AI
set_option maxRecDepth 8000
set_option maxHeartbeats 1600000

theorem c_weightsCode (s : System) (ws : List (List Int)) : Gives Tryz.prog 44 [.agg (encSystem s), .sl (ws.map (encS encI))] (.int (cd2 s.Ok (s.Wts ws))) := by
  refine fn_of_run tyOk ztOk mix Tryz.func44 rfl (by decide) Tryz.ntmps44 (fun w0 h => ?_)
  repeat' (first
      | (refine j_go ?_; first
        | refine j_op0 rfl rfl rfl rfl ?_ | (refine j_kCall rfl rfl rfl rfl ?_; first | refine jc (c_iValidSystem _) (LeL.refl _) rfl rfl ?_) | refine j_box rfl rfl rfl rfl rfl rfl ?_)
      | refine j_nil ?_
      | (refine r_go ?_; first | refine run_seq ?_ | refine run_region ?_ | (refine (run_ifn rfl (fun hb => ?_) (fun hb => ?_)) <;> first | (exfalso; omega) | skip) | refine run_block ?_ | refine run_ret ?_)
      | refine seqQ_normal ?_ | refine seqQ_ret ?_ | refine blockQ_ret ?_)
  · exact end1 rfl (List.Sublist.refl _) (ai (cd2_f hb).symm) (.inl rfl)
  · have hv := hb
    repeat' (first
      | (refine j_go ?_; first
        | refine j_op0 rfl rfl rfl rfl ?_ | (refine j_kCall rfl rfl rfl rfl ?_; first | refine jc (c_areWeights _ _ hv.1.2.1.2) (LeL.refl _) rfl rfl ?_))
      | refine j_nil ?_
      | (refine r_go ?_; first | refine run_seq ?_ | refine run_region ?_ | (refine (run_ifn rfl (fun hb => ?_) (fun hb => ?_)) <;> first | (exfalso; omega) | skip) | refine run_ret ?_ | refine run_skip ?_)
      | refine seqQ_normal ?_ | refine seqQ_ret ?_ | refine blockQ_normal ?_ | refine blockQ_ret ?_)
    · exact end1 rfl (List.Sublist.refl _) (ai (cd2_t hv hb).symm) (.inl rfl)
    · exact end1 rfl (List.Sublist.refl _) (ai (cd2_o hv hb).symm) (.inl rfl)

theorem within_iff {a b : List Int} (hl : a.length = b.length) : Within b a ↔ ∀ k (h : k < a.length), b.getD k 0 ≤ a[k] := by
  constructor
  · intro q k h; rw [getD_get (by omega)]; exact q k (by omega) h
  · intro q i hb ha; have := q i ha; rw [getD_get hb] at this; exact this

def PotP (s : System) (ws : List (List Int)) : Prop := (∀ i (h : i < ws.length), ∀ x ∈ ws[i], 0 ≤ x) ∧ HoldsG s ws (fun n => n < 0) (fun a b => b ≤ a)

theorem c_pot1 (n : Int) : Gives Tryz.prog 47 [.int n] (.raw (.bool (dec (n < 0)))) := by
  refine fn_of_run tyOk ztOk mix Tryz.func47 rfl (by decide) Tryz.ntmps47 (fun w0 h => ?_)
  repeat' (first
      | (refine j_go ?_; first
        | refine j_op0 rfl rfl rfl rfl ?_)
      | refine j_nil ?_
      | (refine r_go ?_; first | refine run_seq ?_ | refine run_region ?_ | refine run_ret ?_)
      | refine seqQ_normal ?_)
  exact end1 rfl (List.Sublist.refl _) (rfl) (.inl rfl)
theorem c_pot2 (a b : Int) : Gives Tryz.prog 48 [.int a, .int b] (.raw (.bool (dec (b ≤ a)))) := by
  refine fn_of_run tyOk ztOk mix Tryz.func48 rfl (by decide) Tryz.ntmps48 (fun w0 h => ?_)
  repeat' (first
      | (refine j_go ?_; first
        | refine j_op0 rfl rfl rfl rfl ?_)
      | refine j_nil ?_
      | (refine r_go ?_; first | refine run_seq ?_ | refine run_region ?_ | refine run_ret ?_)
      | refine seqQ_normal ?_)
  exact end1 rfl (List.Sublist.refl _) (rfl) (.inl rfl)


theorem c_iIsPotential (s : System) (ws : List (List Int)) : Gives Tryz.prog 26 [.agg (encSystem s), .sl (ws.map (encS encI))] (.tup [.raw (.bool (dec ((s.Ok ∧ s.Wts ws) ∧ PotP s ws))), .int (cd2 s.Ok (s.Wts ws))]) := by
  refine fn_of_run tyOk ztOk mix Tryz.func26 rfl (by decide) Tryz.ntmps26 (fun w0 h => ?_)
  repeat' (first
      | (refine j_go ?_; first
        | refine j_op0 rfl rfl rfl rfl ?_ | (refine j_kLen rfl ?_; first | refine j_len rfl rfl rfl rfl rfl rfl ?_) | (refine j_kCall rfl rfl rfl rfl ?_; first | refine jc (c_weightsCode _ _) (LeL.refl _) rfl rfl ?_) | refine j_box rfl rfl rfl rfl rfl rfl ?_)
      | refine j_nil ?_
      | (refine r_go ?_; first | refine run_seq ?_ | refine run_region ?_ | (refine (run_ifn rfl (fun hb => ?_) (fun hb => ?_)) <;> first | (exfalso; omega) | skip) | refine run_block ?_ | refine run_ret ?_ | refine run_skip ?_)
      | refine seqQ_normal ?_ | refine seqQ_ret ?_)
  · exact end2 rfl rfl (List.Sublist.refl _) (by rw [dec_f (fun q => hb (cd2_z.2 q.1))]; rfl) (.inl rfl)
  have hz := hb
  have ⟨hv, hw⟩ := cd2_z.1 hb
  have e0 : dec ((s.Ok ∧ s.Wts ws) ∧ PotP s ws) = dec (PotP s ws) := dec_congr ⟨fun q => q.2, fun q => ⟨⟨hv, hw⟩, q⟩⟩
  have wlen := hw.2
  have hl := hv.1.2.1
  have k8 := hv.1.1
  rw [hz, e0]
  refine run_loop (fun k : Nat => [(1, .sl (ws.map (encS encI))), (2, .ip (encSystem s)), (15, .sl (ws.map (encS encI))), (16, .int ws.length), (17, .int (k : Int))]) (fun _ => _) (fun k => k ≤ ws.length ∧ (∀ i (h : i < ws.length), i < k → ∀ x ∈ ws[i], 0 ≤ x)) (fun k => ws.length - k) 0 ⟨rfl, rfl, rfl, rfl, rfl, trivial⟩ rfl ⟨Nat.zero_le _, by first | (intros; omega) | (simp; done) | rfl | trivial | exact ⟨by simp [sumF], by intros; omega⟩ | exact ⟨by omega, by simp⟩⟩ (fun k ⟨kl, kp⟩ => ?_)
  by_cases hk : k < ws.length
  · have hwk := hw.1 k hk
    have hne : ws[k] ≠ [] := fun q => by rw [q] at hwk; have := hwk.1; simp at this; omega
    have ms := minF_spec ws[k] hne
    repeat' (first
      | (refine j_go ?_; first
        | refine j_op0 rfl rfl rfl rfl ?_ | (refine j_kIdx rfl ?_; first | refine j_idx rfl rfl rfl rfl rfl (by omega) rfl rfl rfl ?_) | (refine j_kBin rfl ?_; first | refine j_in rfl rfl ⟨by omega, by omega⟩ rfl rfl ?_) | (refine j_kCall rfl rfl rfl rfl ?_; first | refine jc (c_slMin _ (by omega) (by omega)) (LeL.refl _) rfl rfl ?_))
      | refine j_nil ?_
      | (refine r_go ?_; first | refine run_seq ?_ | refine run_region ?_ | (refine (run_if rfl (fun hb => ?_) (fun hb => ?_)) <;> first | (exfalso; omega) | skip) | refine run_block ?_ | refine run_ret ?_ | refine run_skip ?_)
      | refine seqQ_normal ?_ | refine seqQ_ret ?_ | refine blockQ_normal ?_ | refine blockQ_ret ?_ | refine loopQ_ret ?_)
    · exact end2 rfl rfl (List.Sublist.refl _) (by rw [dec_f (fun q : PotP s ws => by have := q.1 k hk _ ms.1; omega)]; rfl) (.inl rfl)
    · exact loopQ_nextD (k + 1) ⟨by omega, all_step kp (fun _ x hx => by have := ms.2 x hx; omega)⟩ (by omega) (by first | exact List.Sublist.refl _ | exact sub1 | exact sub2 | exact sub3) ⟨rfl, rfl, rfl, rfl, nx _, trivial⟩
  · repeat' (first
      | (refine j_go ?_; first
        | refine j_op0 rfl rfl rfl rfl ?_ | (refine j_kCall rfl rfl rfl rfl ?_; first | refine jc (c_holdsG _ _ (fun n => n < 0) (fun a b => b ≤ a) c_pot1 c_pot2 _ _ hv hw) (LeL.refl _) rfl rfl ?_))
      | refine j_nil ?_
      | (refine r_go ?_; first | refine run_seq ?_ | refine run_region ?_ | (refine (run_if rfl (fun hb => ?_) (fun hb => ?_)) <;> first | (exfalso; omega) | skip) | refine run_ret ?_ | refine run_exit ?_)
      | refine seqQ_normal ?_ | refine seqQ_exit ?_ | refine blockQ_eq ?_ | refine loopQ_exit ?_)
    exact end2 rfl rfl (List.Sublist.refl _) (by rw [dec_congr (p := PotP s ws) (q := HoldsG s ws (fun n => n < 0) (fun a b => b ≤ a)) ⟨fun q => q.2, fun q => ⟨fun i h => kp i h (by omega), q⟩⟩]; rfl) (.inl rfl)


end Go.Proofs.YtbcplkmkdggpjaaGreat

/-
  Potentials: what the reference computes. No condition.
-/
namespace Go.Proofs.YtbcplkmkdggpjaaGreat
open Go.AI
set_option maxRecDepth 8000
set_option maxHeartbeats 1600000

theorem c_l04Falls (s : System) (ws : List (List Int)) (hv : s.Ok) (hw : s.Wts ws) : Gives Tryz.prog 20 [.ip (encSystem s), .sl (ws.map (encS encI))] (.raw (.bool (dec (PotP s ws)))) := by
  refine fn_of_run tyOk ztOk mix Tryz.func20 rfl (by decide) Tryz.ntmps20 (fun w0 h => ?_)
  have hf := hv.1
  have hl := hf.2.1
  have k8 := hf.1
  have h16 := hv.2.1
  have wlen := hw.2
  repeat' (first
      | (refine j_go ?_; first
        | refine j_op0 rfl rfl rfl rfl ?_)
      | refine j_nil ?_
      | (refine r_go ?_; first | refine run_seq ?_ | refine run_region ?_ | refine run_block ?_)
      | refine seqQ_normal ?_)
  refine run_loop (fun a9 : Nat => [(0, .ip (encSystem s)), (1, .sl (ws.map (encS encI))), (5, .int (a9 : Int))]) (fun _ => _) (fun a9 => a9 ≤ ws.length ∧ (∀ i (h : i < ws.length), i < a9 → ∀ x ∈ ws[i], 0 ≤ x)) (fun a9 => ws.length - a9) 0 ⟨rfl, rfl, rfl, trivial⟩ rfl ⟨Nat.zero_le _, by first | (intros; omega) | (simp; done) | rfl | trivial | exact ⟨by simp [sumF], by intros; omega⟩ | exact ⟨by omega, by simp⟩⟩ (fun a9 ⟨a9l, a9p⟩ => ?_)
  by_cases ha9 : a9 < ws.length
  · have hwk := (hw.1 a9 ha9).1
    repeat' (first
      | (refine j_go ?_; first
        | refine j_op0 rfl rfl rfl rfl ?_ | (refine j_kLen rfl ?_; first | refine j_len rfl rfl rfl rfl rfl rfl ?_))
      | refine j_nil ?_
      | (refine r_go ?_; first | refine run_seq ?_ | refine run_region ?_ | (refine (run_if rfl (fun hb => ?_) (fun hb => ?_)) <;> first | (exfalso; omega) | skip) | refine run_block ?_ | refine run_skip ?_)
      | refine seqQ_normal ?_)
    refine run_loop (fun b9 : Nat => [(0, .ip (encSystem s)), (1, .sl (ws.map (encS encI))), (5, .int (a9 : Int)), (6, .int (b9 : Int))]) (fun _ => _) (fun b9 => b9 ≤ ws[a9].length ∧ (∀ i (h : i < ws[a9].length), i < b9 → 0 ≤ ws[a9][i])) (fun b9 => ws[a9].length - b9) 0 ⟨rfl, rfl, rfl, rfl, trivial⟩ rfl ⟨Nat.zero_le _, by first | (intros; omega) | (simp; done) | rfl | trivial | exact ⟨by simp [sumF], by intros; omega⟩ | exact ⟨by omega, by simp⟩⟩ (fun b9 ⟨b9l, b9p⟩ => ?_)
    repeat' (first
      | (refine j_go ?_; first
        | refine j_op0 rfl rfl rfl rfl ?_ | (refine j_kIdx rfl ?_; first | refine j_idx rfl rfl rfl rfl rfl (by omega) rfl rfl rfl ?_) | (refine j_kBin rfl ?_; first | refine j_in rfl rfl ⟨by omega, by omega⟩ rfl rfl ?_) | (refine j_kLen rfl ?_; first | refine j_len rfl rfl rfl rfl rfl rfl ?_))
      | refine j_nil ?_
      | (refine r_go ?_; first | refine run_seq ?_ | refine run_region ?_ | (refine (run_if rfl (fun hb => ?_) (fun hb => ?_)) <;> first | (exfalso; omega) | skip) | refine run_block ?_ | refine run_ret ?_ | refine run_exit ?_ | refine run_skip ?_)
      | refine seqQ_normal ?_ | refine seqQ_ret ?_ | refine seqQ_exit ?_ | refine blockQ_normal ?_ | refine blockQ_ret ?_ | refine blockQ_eq ?_ | refine loopQ_ret ?_ | refine loopQ_exit ?_)
    · exact end1 rfl (by first | exact List.Sublist.refl _ | exact sub1 | exact sub2 | exact sub3) (rbF (fun q => by have := q.1 a9 ha9 _ (List.getElem_mem (n := b9) (by omega)); omega)) (.inl rfl)
    · exact loopQ_nextD (b9 + 1) ⟨by omega, all_step b9p (fun _ => by omega)⟩ (by omega) (by first | exact List.Sublist.refl _ | exact sub1 | exact sub2 | exact sub3) ⟨rfl, rfl, rfl, nx _, trivial⟩
    · exact loopQ_nextD (a9 + 1) ⟨by omega, all_step a9p (fun _ x hx => by obtain ⟨i, hi, rfl⟩ := List.getElem_of_mem hx; exact b9p i hi (by omega))⟩ (by omega) (by first | exact List.Sublist.refl _ | exact sub1 | exact sub2 | exact sub3) ⟨rfl, rfl, nx _, trivial⟩
  repeat' (first
      | (refine j_go ?_; first
        | refine j_op0 rfl rfl rfl rfl ?_ | (refine j_kLen rfl ?_; first | refine j_len rfl rfl rfl rfl rfl rfl ?_))
      | refine j_nil ?_
      | (refine r_go ?_; first | refine run_seq ?_ | refine run_region ?_ | (refine (run_if rfl (fun hb => ?_) (fun hb => ?_)) <;> first | (exfalso; omega) | skip) | refine run_block ?_ | refine run_exit ?_)
      | refine seqQ_normal ?_ | refine seqQ_exit ?_ | refine blockQ_eq ?_ | refine loopQ_exit ?_)
  refine run_loop (fun k : Nat => [(0, .ip (encSystem s)), (1, .sl (ws.map (encS encI))), (7, .int (k : Int))]) (fun _ => _) (fun k => k ≤ s.rules.length ∧ (∀ i (h : i < s.rules.length), i < k → ∀ p ∈ places s s.rules[i], gainAt s.rules[i] ws p < 0)) (fun k => s.rules.length - k) 0 ⟨rfl, rfl, rfl, trivial⟩ rfl ⟨Nat.zero_le _, by first | (intros; omega) | (simp; done) | rfl | trivial | exact ⟨by simp [sumF], by intros; omega⟩ | exact ⟨by omega, by simp⟩⟩ (fun k ⟨kl, kp⟩ => ?_)
  by_cases hk : k < s.rules.length
  · have hr := (hv.2.2 k hk).1
    have pl := places_len (s := s) (r := s.rules[k])
    have ml : ((places s s.rules[k]).map (gainAt s.rules[k] ws)).length = (places s s.rules[k]).length := List.length_map _
    repeat' (first
      | (refine j_go ?_; first
        | refine j_op0 rfl rfl rfl rfl ?_ | (refine j_kIdx rfl ?_; first | refine j_idx rfl rfl rfl rfl rfl (by omega) rfl rfl rfl ?_) | (refine j_kLen rfl ?_; first | refine j_len rfl rfl rfl rfl rfl rfl ?_) | (refine j_kCall rfl rfl rfl rfl ?_; first | refine jc (c_l04Gains _ _ _ hv hr hw) (LeL.refl _) rfl rfl ?_))
      | refine j_nil ?_
      | (refine r_go ?_; first | refine run_seq ?_ | refine run_region ?_ | (refine (run_if rfl (fun hb => ?_) (fun hb => ?_)) <;> first | (exfalso; omega) | skip) | refine run_block ?_ | refine run_skip ?_)
      | refine seqQ_normal ?_)
    refine run_loop (fun j : Nat => [(0, .ip (encSystem s)), (1, .sl (ws.map (encS encI))), (7, .int (k : Int)), (8, .sl (((places s s.rules[k]).map (gainAt s.rules[k] ws)).map encI)), (9, .int (j : Int))]) (fun _ => _) (fun j => j ≤ ((places s s.rules[k]).map (gainAt s.rules[k] ws)).length ∧ (∀ i (h : i < (places s s.rules[k]).length), i < j → gainAt s.rules[k] ws (places s s.rules[k])[i] < 0)) (fun j => ((places s s.rules[k]).map (gainAt s.rules[k] ws)).length - j) 0 ⟨rfl, rfl, rfl, rfl, rfl, trivial⟩ rfl ⟨Nat.zero_le _, by first | (intros; omega) | (simp; done) | rfl | trivial | exact ⟨by simp [sumF], by intros; omega⟩ | exact ⟨by omega, by simp⟩⟩ (fun j ⟨jl, jp⟩ => ?_)
    repeat' (first
      | (refine j_go ?_; first
        | refine j_op0 rfl rfl rfl rfl ?_ | (refine j_kIdx rfl ?_; first | refine j_idx rfl rfl rfl rfl rfl (by omega) rfl rfl rfl ?_) | (refine j_kBin rfl ?_; first | refine j_in rfl rfl ⟨by omega, by omega⟩ rfl rfl ?_) | (refine j_kLen rfl ?_; first | refine j_len rfl rfl rfl rfl rfl rfl ?_))
      | refine j_nil ?_
      | (refine r_go ?_; first | refine run_seq ?_ | refine run_region ?_ | (refine (run_if rfl (fun hb => ?_) (fun hb => ?_)) <;> first | (exfalso; omega) | skip) | refine run_block ?_ | refine run_ret ?_ | refine run_exit ?_ | refine run_skip ?_)
      | refine seqQ_normal ?_ | refine seqQ_ret ?_ | refine seqQ_exit ?_ | refine blockQ_normal ?_ | refine blockQ_ret ?_ | refine blockQ_eq ?_ | refine loopQ_ret ?_ | refine loopQ_exit ?_)
    · rw [List.getElem_map] at hb
      exact end1 rfl (by first | exact List.Sublist.refl _ | exact sub1 | exact sub2 | exact sub3) (rbF (fun q => by have := q.2.1 k hk _ (List.getElem_mem (n := j) (by omega)); omega)) (.inl rfl)
    · rw [List.getElem_map] at hb
      exact loopQ_nextD (j + 1) ⟨by omega, all_step jp (fun _ => by omega)⟩ (by omega) (by first | exact List.Sublist.refl _ | exact sub1 | exact sub2 | exact sub3) ⟨rfl, rfl, rfl, rfl, nx _, trivial⟩
    · exact loopQ_nextD (k + 1) ⟨by omega, all_step kp (fun _ p hp => by obtain ⟨i, hi, rfl⟩ := List.getElem_of_mem hp; exact jp i hi (by omega))⟩ (by omega) (by first | exact List.Sublist.refl _ | exact sub1 | exact sub2 | exact sub3) ⟨rfl, rfl, nx _, trivial⟩
  repeat' (first
      | (refine j_go ?_; first
        | refine j_op0 rfl rfl rfl rfl ?_ | (refine j_kLen rfl ?_; first | refine j_len rfl rfl rfl rfl rfl rfl ?_))
      | refine j_nil ?_
      | (refine r_go ?_; first | refine run_seq ?_ | refine run_region ?_ | (refine (run_if rfl (fun hb => ?_) (fun hb => ?_)) <;> first | (exfalso; omega) | skip) | refine run_block ?_ | refine run_exit ?_)
      | refine seqQ_normal ?_ | refine seqQ_exit ?_ | refine blockQ_eq ?_ | refine loopQ_exit ?_)
  refine run_loop (fun c9 : Nat => [(0, .ip (encSystem s)), (1, .sl (ws.map (encS encI))), (10, .int (c9 : Int))]) (fun _ => _) (fun c9 => 1 ≤ c9 ∧ c9 ≤ s.parents.length ∧ (∀ c : Nat, 1 ≤ c → c < c9 → Melts s c → ∀ p ∈ pars s c, Within (wt ws p) (wt ws c))) (fun c9 => s.parents.length - c9) 1 ⟨rfl, rfl, rfl, trivial⟩ rfl ⟨Nat.le_refl _, by omega, by first | (intros; omega) | (simp; done) | rfl | trivial | exact ⟨by simp [sumF], by intros; omega⟩ | exact ⟨by omega, by simp⟩⟩ (fun c9 ⟨c9s, c9l, c9p⟩ => ?_)
  by_cases hc9 : c9 < s.parents.length
  · obtain ⟨wc, we, wl, ww⟩ := wt_ok hw (c := (c9 : Int)) (by omega)
    simp only [Int.toNat_natCast] at wc we wl ww
    have pm : ∀ x ∈ (pars s (c9 : Int)).reverse, 0 ≤ x ∧ x ≤ (s.parents.length : Int) - 1 := fun x hx => pars_mem hf (by omega) x (List.mem_reverse.1 hx)
    have pl : (pars s (c9 : Int)).reverse.length ≤ 7 := by rw [List.length_reverse]; exact chainF_len s 7 _
    repeat' (first
      | (refine j_go ?_; first
        | refine j_op0 rfl rfl rfl rfl ?_ | (refine j_kLen rfl ?_; first | refine j_len rfl rfl rfl rfl rfl rfl ?_) | (refine j_kCall rfl rfl rfl rfl ?_; first | refine jc (c_l04Parents _ _ hv (by omega)) (LeL.refl _) rfl rfl ?_))
      | refine j_nil ?_
      | (refine r_go ?_; first | refine run_seq ?_ | refine run_region ?_ | (refine (run_if rfl (fun hb => ?_) (fun hb => ?_)) <;> first | (exfalso; omega) | skip) | refine run_block ?_ | refine run_skip ?_)
      | refine seqQ_normal ?_)
    refine run_loop (fun p9 : Nat => [(0, .ip (encSystem s)), (1, .sl (ws.map (encS encI))), (10, .int (c9 : Int)), (11, .sl ((pars s (c9 : Int)).reverse.map encI)), (12, .int (p9 : Int))]) (fun _ => _) (fun p9 => p9 ≤ (pars s (c9 : Int)).reverse.length ∧ (∀ i (h : i < (pars s (c9 : Int)).reverse.length), i < p9 → Within (wt ws (pars s (c9 : Int)).reverse[i]) (wt ws c9))) (fun p9 => (pars s (c9 : Int)).reverse.length - p9) 0 ⟨rfl, rfl, rfl, rfl, rfl, trivial⟩ rfl ⟨Nat.zero_le _, by first | (intros; omega) | (simp; done) | rfl | trivial | exact ⟨by simp [sumF], by intros; omega⟩ | exact ⟨by omega, by simp⟩⟩ (fun p9 ⟨p9l, p9p⟩ => ?_)
    by_cases hp9 : p9 < (pars s (c9 : Int)).reverse.length
    · have pj := pm _ (List.getElem_mem hp9)
      obtain ⟨yc, ye, yl, yw⟩ := wt_ok hw (c := (pars s (c9 : Int)).reverse[p9]) (by omega)
      repeat' (first
      | (refine j_go ?_; first
        | refine j_op0 rfl rfl rfl rfl ?_ | (refine j_kIdx rfl ?_; first | refine j_idx rfl rfl rfl rfl rfl (by omega) rfl rfl rfl ?_ | refine j_idxz rfl rfl rfl rfl rfl ⟨by omega, by omega⟩ rfl rfl rfl ?_) | (refine j_kBin rfl ?_; first | refine j_in rfl rfl ⟨by omega, by omega⟩ rfl rfl ?_) | (refine j_kLen rfl ?_; first | refine j_len rfl rfl rfl rfl rfl rfl ?_) | (refine j_kCall rfl rfl rfl rfl ?_; first | refine jc (c_l04Melts _ _ h16) (LeL.refl _) rfl rfl ?_ | refine jc (c_l01Within _ _ (by omega) (by omega)) (LeL.refl _) rfl rfl ?_) | (refine j_kGuard rfl ?_; first | (refine (j_if rfl rfl rfl (fun hb => ?_) (fun hb => ?_)) <;> first | (exfalso; omega) | skip)))
      | refine j_nil ?_
      | (refine r_go ?_; first | refine run_seq ?_ | refine run_region ?_ | (refine (run_if rfl (fun hb => ?_) (fun hb => ?_)) <;> first | (exfalso; omega) | skip) | (refine (run_ifn rfl (fun hb => ?_) (fun hb => ?_)) <;> first | (exfalso; omega) | skip) | refine run_block ?_ | refine run_ret ?_ | refine run_exit ?_ | refine run_skip ?_ | refine run_regionD (by kernel_rfl) ?_)
      | refine seqQ_normal ?_ | refine seqQ_ret ?_ | refine seqQ_exit ?_ | refine blockQ_normal ?_ | refine blockQ_ret ?_ | refine blockQ_eq ?_ | refine loopQ_ret ?_ | refine loopQ_exit ?_)
      · exact end1 rfl (by first | exact List.Sublist.refl _ | exact sub1 | exact sub2 | exact sub3) (rbF (fun q => hb (by
          have h3 := (within_iff (a := wt ws c9) (b := wt ws (pars s (c9 : Int)).reverse[p9]) (by rw [we, ye]; omega)).2 (q.2.2 c9 hc9 (by assumption) _ (List.mem_reverse.1 (List.getElem_mem hp9)))
          rw [we, ye] at h3; exact h3))) (.inl rfl)
      · exact loopQ_nextD (p9 + 1) ⟨by omega, all_step p9p (fun _ => by rw [we, ye]; assumption)⟩ (by omega) (by first | exact List.Sublist.refl _ | exact sub1 | exact sub2 | exact sub3) ⟨rfl, rfl, rfl, rfl, nx _, trivial⟩
      · exact loopQ_nextD (c9 + 1) ⟨by omega, by omega, fun c h0 h1 hm => by
          by_cases hc : c = c9
          · subst hc; exact absurd hm (by assumption)
          · exact c9p c h0 (by omega) hm⟩ (by omega) (by first | exact List.Sublist.refl _ | exact sub1 | exact sub2 | exact sub3) ⟨rfl, rfl, nx _, trivial⟩
    · repeat' (first
      | (refine j_go ?_; first
        | refine j_op0 rfl rfl rfl rfl ?_ | refine j_off rfl rfl rfl ?_ | (refine j_kBin rfl ?_; first | refine j_in rfl rfl ⟨by omega, by omega⟩ rfl rfl ?_) | (refine j_kLen rfl ?_; first | refine j_len rfl rfl rfl rfl rfl rfl ?_) | (refine j_kGuard rfl ?_; first | (refine (j_if rfl rfl rfl (fun hb => ?_) (fun hb => ?_)) <;> first | (exfalso; omega) | skip)))
      | refine j_nil ?_
      | (refine r_go ?_; first | refine run_seq ?_ | refine run_region ?_ | refine run_cond_f rfl ?_ | refine run_exit ?_)
      | refine seqQ_normal ?_ | refine seqQ_exit ?_ | refine blockQ_normal ?_ | refine blockQ_eq ?_ | refine loopQ_exit ?_)
      exact loopQ_nextD (c9 + 1) ⟨by omega, by omega, fun c h0 h1 hm => by
        by_cases hc : c = c9
        · subst hc
          intro p hp
          obtain ⟨i, hi, rfl⟩ := List.getElem_of_mem (List.mem_reverse.2 hp)
          exact p9p i hi (by omega)
        · exact c9p c h0 (by omega) hm⟩ (by omega) (by first | exact List.Sublist.refl _ | exact sub1 | exact sub2 | exact sub3) ⟨rfl, rfl, nx _, trivial⟩
  · repeat' (first
      | (refine j_go ?_; first
        | refine j_op0 rfl rfl rfl rfl ?_ | (refine j_kLen rfl ?_; first | refine j_len rfl rfl rfl rfl rfl rfl ?_))
      | refine j_nil ?_
      | (refine r_go ?_; first | refine run_seq ?_ | refine run_region ?_ | (refine (run_if rfl (fun hb => ?_) (fun hb => ?_)) <;> first | (exfalso; omega) | skip) | refine run_ret ?_ | refine run_exit ?_)
      | refine seqQ_normal ?_ | refine seqQ_exit ?_ | refine blockQ_eq ?_ | refine loopQ_exit ?_)
    have n0 : ¬ Melts s ((0 : Nat) : Int) := fun ⟨r, hr, e1, e2⟩ => by
      obtain ⟨i, hi, rfl⟩ := List.getElem_of_mem hr
      exact (hv.2.2 i hi).1.2.2.1 ⟨e2, e1⟩
    exact end1 rfl (by first | exact List.Sublist.refl _ | exact sub1 | exact sub2 | exact sub3) (rbT (⟨fun i h => a9p i h (by omega), fun i h => kp i h (by omega), fun c h1 hm p hp => by
        by_cases h0 : c = 0
        · subst h0; exact absurd hm n0
        · obtain ⟨yc, ye, yl, yw⟩ := wt_ok hw (c := p) (by have := pars_mem hf (c := (c : Int)) (by omega) p hp; omega)
          obtain ⟨wc, we, wl, ww⟩ := wt_ok hw (c := (c : Int)) (by omega)
          exact (within_iff (by rw [we, ye]; omega)).1 (c9p c (by omega) (by omega) hm p hp)⟩)) (.inl rfl)


end Go.Proofs.YtbcplkmkdggpjaaGreat

/-
  The bound of a run by a potential, on both sides. No condition.
-/
namespace Go.Proofs.YtbcplkmkdggpjaaGreat
open Go.AI
set_option maxRecDepth 8000
set_option maxHeartbeats 1600000
open Classical in
noncomputable def cdB (p q r : Prop) : Int := if p then (if q then (if r then 0 else 8) else 2) else 1
theorem cdB_f {p q r : Prop} (h : ¬p) : cdB p q r = 1 := by unfold cdB; rw [if_neg h]
theorem cdB_t {p q r : Prop} (h : p) (h2 : ¬q) : cdB p q r = 2 := by unfold cdB; rw [if_pos h, if_neg h2]
theorem cdB_s {p q r : Prop} (h : p) (h2 : q) (h3 : ¬r) : cdB p q r = 8 := by unfold cdB; rw [if_pos h, if_pos h2, if_neg h3]
theorem cdB_o {p q r : Prop} (h : p) (h2 : q) (h3 : r) : cdB p q r = 0 := by unfold cdB; rw [if_pos h, if_pos h2, if_pos h3]

theorem c_sBoundOf (s : System) (t : State) (ws : List (List Int)) : Gives Tryz.prog 7 [.agg (encSystem s), .agg (encState t), .sl (ws.map (encS encI))] (.tup [.int (numP (s.WP t ∧ s.Wts ws ∧ PotP s ws) (wgh t ws)), .int (cdB (s.WP t) (s.Wts ws) (PotP s ws))]) := by
  refine fn_of_run tyOk ztOk mix Tryz.func7 rfl (by decide) Tryz.ntmps7 (fun w0 h => ?_)
  repeat' (first
      | (refine j_go ?_; first
        | refine j_op0 rfl rfl rfl rfl ?_ | (refine j_kCall rfl rfl rfl rfl ?_; first | refine jc (c_l03Both _ _) (LeL.refl _) rfl rfl ?_) | refine j_box rfl rfl rfl rfl rfl rfl ?_)
      | refine j_nil ?_
      | (refine r_go ?_; first | refine run_seq ?_ | refine run_region ?_ | (refine (run_ifn rfl (fun hb => ?_) (fun hb => ?_)) <;> first | (exfalso; omega) | skip) | refine run_ret ?_ | refine run_skip ?_)
      | refine seqQ_normal ?_ | refine seqQ_ret ?_)
  · exact end2 rfl rfl (List.Sublist.refl _) (by rw [num_f (fun q => hb q.1), cdB_f (p := s.WP t) hb]; rfl) (.inl rfl)
  · have hv := hb
    repeat' (first
      | (refine j_go ?_; first
        | refine j_op0 rfl rfl rfl rfl ?_ | (refine j_kCall rfl rfl rfl rfl ?_; first | refine jc (c_l02Weights _ _ hv.1.1) (LeL.refl _) rfl rfl ?_))
      | refine j_nil ?_
      | (refine r_go ?_; first | refine run_seq ?_ | refine run_region ?_ | (refine (run_ifn rfl (fun hb => ?_) (fun hb => ?_)) <;> first | (exfalso; omega) | skip) | refine run_ret ?_ | refine run_skip ?_)
      | refine seqQ_normal ?_ | refine seqQ_ret ?_)
    · exact end2 rfl rfl (List.Sublist.refl _) (by rw [num_f (fun q => hb q.2.1), cdB_t (p := s.WP t) hv hb]; rfl) (.inl rfl)
    · have hw := hb
      repeat' (first
      | (refine j_go ?_; first
        | refine j_op0 rfl rfl rfl rfl ?_ | (refine j_kCall rfl rfl rfl rfl ?_; first | refine jc (c_l04Falls _ _ hv.1 hw) (LeL.refl _) rfl rfl ?_))
      | refine j_nil ?_
      | (refine r_go ?_; first | refine run_seq ?_ | refine run_region ?_ | (refine (run_ifn rfl (fun hb => ?_) (fun hb => ?_)) <;> first | (exfalso; omega) | skip) | refine run_ret ?_ | refine run_skip ?_)
      | refine seqQ_normal ?_ | refine seqQ_ret ?_)
      · exact end2 rfl rfl (List.Sublist.refl _) (by rw [num_f (fun q => hb q.2.2), cdB_s (p := s.WP t) hv hw hb]; rfl) (.inl rfl)
      · have hp := hb
        have e0 : numP (s.WP t ∧ s.Wts ws) (wgh t ws) = wgh t ws := num_t ⟨hv, hw⟩ _
        have e1 : cd2 (s.WP t) (s.Wts ws) = 0 := cd2_o hv hw
        repeat' (first
      | (refine j_go ?_; first
        | refine j_op0 rfl rfl rfl rfl ?_ | (refine j_kCall rfl rfl rfl rfl ?_; first | refine jc (c_sWeighState _ _ _) (LeL.refl _) rfl rfl ?_))
      | refine j_nil ?_
      | (refine r_go ?_; first | refine run_seq ?_ | refine run_region ?_ | refine run_ret ?_)
      | refine seqQ_normal ?_)
        exact end2 rfl rfl (List.Sublist.refl _) (by rw [cdB_o (p := s.WP t) hv hw hp]; rw [num_t (p := s.WP t ∧ s.Wts ws ∧ PotP s ws) ⟨hv, hw, hp⟩]; rw [e0, e1]) (.inl rfl)

theorem c_iBoundOf (s : System) (t : State) (ws : List (List Int)) : Gives Tryz.prog 11 [.agg (encSystem s), .agg (encState t), .sl (ws.map (encS encI))] (.tup [.int (numP (s.WP t ∧ s.Wts ws ∧ PotP s ws) (wgh t ws)), .int (cdB (s.WP t) (s.Wts ws) (PotP s ws))]) := by
  refine fn_of_run tyOk ztOk mix Tryz.func11 rfl (by decide) Tryz.ntmps11 (fun w0 h => ?_)
  repeat' (first
      | (refine j_go ?_; first
        | refine j_op0 rfl rfl rfl rfl ?_ | (refine j_kCall rfl rfl rfl rfl ?_; first | refine jc (c_iValidState _ _) (LeL.refl _) rfl rfl ?_) | refine j_box rfl rfl rfl rfl rfl rfl ?_)
      | refine j_nil ?_
      | (refine r_go ?_; first | refine run_seq ?_ | refine run_region ?_ | (refine (run_ifn rfl (fun hb => ?_) (fun hb => ?_)) <;> first | (exfalso; omega) | skip) | refine run_ret ?_ | refine run_skip ?_)
      | refine seqQ_normal ?_ | refine seqQ_ret ?_)
  · exact end2 rfl rfl (List.Sublist.refl _) (by rw [num_f (fun q => hb q.1), cdB_f (p := s.WP t) hb]; rfl) (.inl rfl)
  · have hv := hb
    by_cases hw : s.Wts ws
    · have e1 : cd2 s.Ok (s.Wts ws) = 0 := cd2_o hv.1 hw
      by_cases hp : PotP s ws
      · have e2 : dec ((s.Ok ∧ s.Wts ws) ∧ PotP s ws) = true := dec_t ⟨⟨hv.1, hw⟩, hp⟩
        have cW := c_weighState s t ws hv.1 hv.2 hw
        have cP := c_iIsPotential s ws
        rw [e1, e2] at cP
        repeat' (first
      | (refine j_go ?_; first
        | refine j_op0 rfl rfl rfl rfl ?_ | (refine j_kCall rfl rfl rfl rfl ?_; first | refine jc (cP) (LeL.refl _) rfl rfl ?_ | refine jc (cW) (LeL.refl _) rfl rfl ?_) | (refine j_kGuard rfl ?_; first | (refine (j_if rfl rfl rfl (fun hb => ?_) (fun hb => ?_)) <;> first | (exfalso; omega) | skip)))
      | refine j_nil ?_
      | (refine r_go ?_; first | refine run_seq ?_ | refine run_region ?_ | refine run_cond_f rfl ?_ | (refine (run_ifn rfl (fun hb => ?_) (fun hb => ?_)) <;> first | (exfalso; omega) | skip) | refine run_ret ?_ | refine run_skip ?_)
      | refine seqQ_normal ?_)
        exact end2 rfl rfl (List.Sublist.refl _) (by rw [num_t (p := s.WP t ∧ s.Wts ws ∧ PotP s ws) ⟨hv, hw, hp⟩, cdB_o (p := s.WP t) hv hw hp]; rfl) (.inl rfl)
      · have e2 : dec ((s.Ok ∧ s.Wts ws) ∧ PotP s ws) = false := dec_f fun q => hp q.2
        have cP := c_iIsPotential s ws
        rw [e1, e2] at cP
        repeat' (first
      | (refine j_go ?_; first
        | refine j_op0 rfl rfl rfl rfl ?_ | (refine j_kCall rfl rfl rfl rfl ?_; first | refine jc (cP) (LeL.refl _) rfl rfl ?_) | (refine j_kGuard rfl ?_; first | (refine (j_if rfl rfl rfl (fun hb => ?_) (fun hb => ?_)) <;> first | (exfalso; omega) | skip)))
      | refine j_nil ?_
      | (refine r_go ?_; first | refine run_seq ?_ | refine run_region ?_ | refine run_cond_t rfl ?_ | (refine (run_ifn rfl (fun hb => ?_) (fun hb => ?_)) <;> first | (exfalso; omega) | skip) | refine run_ret ?_)
      | refine seqQ_normal ?_ | refine seqQ_ret ?_)
        exact end2 rfl rfl (List.Sublist.refl _) (by rw [num_f (fun q => hp q.2.2), cdB_s (p := s.WP t) hv hw hp]; rfl) (.inl rfl)
    · have e1 : cd2 s.Ok (s.Wts ws) = 2 := cd2_t hv.1 hw
      have e2 : dec ((s.Ok ∧ s.Wts ws) ∧ PotP s ws) = false := dec_f fun q => hw q.1.2
      have cP := c_iIsPotential s ws
      rw [e1, e2] at cP
      repeat' (first
      | (refine j_go ?_; first
        | refine j_op0 rfl rfl rfl rfl ?_ | refine j_off rfl rfl rfl ?_ | (refine j_kCall rfl rfl rfl rfl ?_; first | refine jc (cP) (LeL.refl _) rfl rfl ?_) | (refine j_kGuard rfl ?_; first | (refine (j_if rfl rfl rfl (fun hb => ?_) (fun hb => ?_)) <;> first | (exfalso; omega) | skip)))
      | refine j_nil ?_
      | (refine r_go ?_; first | refine run_seq ?_ | refine run_region ?_ | refine run_cond_f rfl ?_ | (refine (run_ifn rfl (fun hb => ?_) (fun hb => ?_)) <;> first | (exfalso; omega) | skip) | refine run_ret ?_ | refine run_skip ?_)
      | refine seqQ_normal ?_ | refine seqQ_ret ?_)
      exact end2 rfl rfl (List.Sublist.refl _) (by rw [num_f (fun q => hw q.2.1), cdB_t (p := s.WP t) hv hw]; rfl) (.inl rfl)

end Go.Proofs.YtbcplkmkdggpjaaGreat

/-
  The law FnExactBoundOf answers true whatever it reads. No condition.
-/
namespace Go.Proofs.YtbcplkmkdggpjaaGreat
open Go.AI
set_option maxRecDepth 8000
set_option maxHeartbeats 1600000

theorem c_FnExactBoundOf (a0 : System) (a1 : State) (a2 : List (List Int)) : Gives Tryz.prog 3 [.agg (encSystem a0), .agg (encState a1), .sl (a2.map (encS encI))] (.raw (.bool true)) := by
  refine fn_of_run tyOk ztOk mix Tryz.func3 rfl (by decide) Tryz.ntmps3 (fun w0 h => ?_)
  repeat' (first
      | (refine j_go ?_; first
        | refine j_op0 rfl rfl rfl rfl ?_ | (refine j_kCall rfl rfl rfl rfl ?_; first | refine jc (c_szSystem _ _ (by omega) (by omega)) (LeL.refl _) rfl rfl ?_) | refine j_box rfl rfl rfl rfl rfl rfl ?_)
      | refine j_nil ?_
      | (refine r_go ?_; first | refine run_seq ?_ | refine run_region ?_ | (refine (run_if rfl (fun hb => ?_) (fun hb => ?_)) <;> first | (exfalso; omega) | skip) | refine run_ret ?_ | refine run_skip ?_)
      | refine seqQ_normal ?_ | refine seqQ_ret ?_)
  · exact end1 rfl (List.Sublist.refl _) (rfl) (.inl rfl)
  · have ok0 := szSystem_ok (by omega) (by omega) hb
    have le0 := szSystem_le (left := 1048576) (x := a0) (by omega) (by omega)
    repeat' (first
      | (refine j_go ?_; first
        | refine j_op0 rfl rfl rfl rfl ?_ | (refine j_kCall rfl rfl rfl rfl ?_; first | refine jc (c_szState _ _ (by omega) (by omega)) (LeL.refl _) rfl rfl ?_))
      | refine j_nil ?_
      | (refine r_go ?_; first | refine run_seq ?_ | refine run_region ?_ | (refine (run_if rfl (fun hb => ?_) (fun hb => ?_)) <;> first | (exfalso; omega) | skip) | refine run_ret ?_ | refine run_skip ?_)
      | refine seqQ_normal ?_ | refine seqQ_ret ?_)
    · exact end1 rfl (List.Sublist.refl _) (rfl) (.inl rfl)
    · have ok1 := szState_ok (by omega) (by omega) hb
      have le1 := szState_le (left := (szSystem 1048576 a0)) (x := a1) (by omega) (by omega)
      repeat' (first
      | (refine j_go ?_; first
        | refine j_op0 rfl rfl rfl rfl ?_ | (refine j_kCall rfl rfl rfl rfl ?_; first | refine jc (c_szInt64SS _ _ (by omega) (by omega)) (LeL.refl _) rfl rfl ?_))
      | refine j_nil ?_
      | (refine r_go ?_; first | refine run_seq ?_ | refine run_region ?_ | (refine (run_if rfl (fun hb => ?_) (fun hb => ?_)) <;> first | (exfalso; omega) | skip) | refine run_ret ?_ | refine run_skip ?_ | refine run_regionD (by kernel_rfl) ?_)
      | refine seqQ_normal ?_ | refine seqQ_ret ?_)
      · exact end1 rfl (List.Sublist.refl _) (rfl) (.inl rfl)
      · have ⟨okl2, ok2⟩ := szSl_ok (p := fun r : List Int => r.length ≤ 1048576) (fun _ _ p q => szR_le p q) (fun _ _ _ q r => szR_ok q r) (by omega) (by omega) hb
        have le2 := szSl_le (f := szR) (left := (szState (szSystem 1048576 a0) a1)) (l := a2) (fun _ _ p q => szR_le p q) (by omega) (by omega)
        repeat' (first
      | (refine j_go ?_; first
        | refine j_op0 rfl rfl rfl rfl ?_ | (refine j_kCall rfl rfl rfl rfl ?_; first | refine jc (c_toSystem _ (by assumption)) (LeL.refl _) rfl rfl ?_ | refine jc (c_toState _ (by assumption)) (LeL.refl _) rfl rfl ?_ | refine jc (c_toInt64SS _ (by assumption) (by assumption)) (LeL.refl _) rfl rfl ?_ | refine jc (c_sBoundOf _ _ _) (LeL.refl _) rfl rfl ?_ | refine jc (c_iBoundOf _ _ _) (LeL.refl _) rfl rfl ?_ | refine jc (c_eqSystem _ _) (LeL.refl _) rfl rfl ?_ | refine jc (c_eqState _ _) (LeL.refl _) rfl rfl ?_ | refine jc (c_eqInt64SS _ _) (LeL.refl _) rfl rfl ?_) | (refine j_kLoad rfl ?_; first | refine j_mload 0 rfl rfl rfl rfl rfl rfl rfl ?_ | refine j_mload 1 rfl rfl rfl rfl rfl rfl rfl ?_) | (refine j_kStore rfl ?_; first | refine j_storeN 0 rfl rfl rfl rfl rfl rfl rfl rfl rfl rfl rfl ?_) | (refine j_kGuard rfl ?_; first | (refine (j_ifn rfl rfl rfl (fun hb => ?_) (fun hb => ?_)) <;> first | (exfalso; omega) | skip)) | refine j_alloc rfl rfl rfl rfl rfl (fun _ => ?_))
      | refine j_nil ?_
      | (refine r_go ?_; first | refine run_seq ?_ | refine run_region ?_ | (refine (run_ifn rfl (fun hb => ?_) (fun hb => ?_)) <;> first | (exfalso; omega) | skip) | refine run_ret ?_ | refine run_skip ?_ | refine run_regionD (by kernel_rfl) ?_)
      | refine seqQ_normal ?_ | refine seqQ_ret ?_)
        all_goals first | exact absurd rfl hb | exact end1 rfl (by repeat' first | exact List.Sublist.refl _ | refine List.Sublist.cons _ ?_) rfl (.inl rfl)

end Go.Proofs.YtbcplkmkdggpjaaGreat

/-
  The structs of theme 2, read as data. No condition.
-/
namespace Go.Proofs.YtbcplkmkdggpjaaGreat
open Go.AI Go.RowKit

theorem own : ownKnob Tryz.prog.godebug = none := by kernel_rfl
theorem laidOut : laidOutB Tryz.prog = true := by kernel_rfl
theorem rdInto {H : Type} {enc : TypeId × Value → H} {W : World} : Rd enc Tryz.prog W 104 encInto :=
  rd_struct Tryz.underlying104 (m := 2) (by kernel_rfl) (rdFs_cons (z := 1) rfl (by kernel_rfl) (by decide) (rd_int Tryz.underlying2) (rdFs_cons (z := 1) rfl (by kernel_rfl) (by decide) (rd_slice (f := encI) (z := 1) Tryz.underlying22 (by kernel_rfl) (by decide) (fun _ => rfl) (rd_int Tryz.underlying2)) rdFs_nil))
    (fun p => (⟨p.1, p.2.1⟩ : Into)) (fun _ => rfl)
theorem rdRule {H : Type} {enc : TypeId × Value → H} {W : World} : Rd enc Tryz.prog W 66 encRule :=
  rd_struct Tryz.underlying66 (m := 9) (by kernel_rfl) (rdFs_cons (z := 1) rfl (by kernel_rfl) (by decide) (rd_int Tryz.underlying2) (rdFs_cons (z := 1) rfl (by kernel_rfl) (by decide) (rd_int Tryz.underlying2) (rdFs_cons (z := 1) rfl (by kernel_rfl) (by decide) (rd_slice (f := encI) (z := 1) Tryz.underlying22 (by kernel_rfl) (by decide) (fun _ => rfl) (rd_int Tryz.underlying2)) (rdFs_cons (z := 1) rfl (by kernel_rfl) (by decide) (rd_slice (f := encI) (z := 1) Tryz.underlying22 (by kernel_rfl) (by decide) (fun _ => rfl) (rd_int Tryz.underlying2)) (rdFs_cons (z := 1) rfl (by kernel_rfl) (by decide) (rd_slice (f := encI) (z := 1) Tryz.underlying22 (by kernel_rfl) (by decide) (fun _ => rfl) (rd_int Tryz.underlying2)) (rdFs_cons (z := 1) rfl (by kernel_rfl) (by decide) (rd_slice (f := encI) (z := 1) Tryz.underlying22 (by kernel_rfl) (by decide) (fun _ => rfl) (rd_int Tryz.underlying2)) (rdFs_cons (z := 1) rfl (by kernel_rfl) (by decide) (rd_slice (f := encI) (z := 1) Tryz.underlying22 (by kernel_rfl) (by decide) (fun _ => rfl) (rd_int Tryz.underlying2)) (rdFs_cons (z := 1) rfl (by kernel_rfl) (by decide) (rd_slice (f := encInto) (z := 2) Tryz.underlying64 (by kernel_rfl) (by decide) (fun _ => rfl) rdInto) (rdFs_cons (z := 1) rfl (by kernel_rfl) (by decide) (rd_bool Tryz.underlying4) rdFs_nil)))))))))
    (fun p => (⟨p.1, p.2.1, p.2.2.1, p.2.2.2.1, p.2.2.2.2.1, p.2.2.2.2.2.1, p.2.2.2.2.2.2.1, p.2.2.2.2.2.2.2.1, p.2.2.2.2.2.2.2.2.1⟩ : Rule)) (fun _ => rfl)
theorem rdSystem {H : Type} {enc : TypeId × Value → H} {W : World} : Rd enc Tryz.prog W 25 encSystem :=
  rd_struct Tryz.underlying25 (m := 3) (by kernel_rfl) (rdFs_cons (z := 1) rfl (by kernel_rfl) (by decide) (rd_int Tryz.underlying2) (rdFs_cons (z := 1) rfl (by kernel_rfl) (by decide) (rd_slice (f := encI) (z := 1) Tryz.underlying22 (by kernel_rfl) (by decide) (fun _ => rfl) (rd_int Tryz.underlying2)) (rdFs_cons (z := 1) rfl (by kernel_rfl) (by decide) (rd_slice (f := encRule) (z := 9) Tryz.underlying23 (by kernel_rfl) (by decide) (fun _ => rfl) rdRule) rdFs_nil)))
    (fun p => (⟨p.1, p.2.1, p.2.2.1⟩ : System)) (fun _ => rfl)
theorem rdState {H : Type} {enc : TypeId × Value → H} {W : World} : Rd enc Tryz.prog W 29 encState :=
  rd_struct Tryz.underlying29 (m := 3) (by kernel_rfl) (rdFs_cons (z := 1) rfl (by kernel_rfl) (by decide) (rd_slice (f := encB) (z := 1) Tryz.underlying26 (by kernel_rfl) (by decide) (fun _ => rfl) (rd_bool Tryz.underlying4)) (rdFs_cons (z := 1) rfl (by kernel_rfl) (by decide) (rd_slice (f := (encS encI)) (z := 1) Tryz.underlying27 (by kernel_rfl) (by decide) (fun _ => rfl) (rd_slice (f := encI) (z := 1) Tryz.underlying22 (by kernel_rfl) (by decide) (fun _ => rfl) (rd_int Tryz.underlying2))) (rdFs_cons (z := 1) rfl (by kernel_rfl) (by decide) (rd_slice (f := encI) (z := 1) Tryz.underlying22 (by kernel_rfl) (by decide) (fun _ => rfl) (rd_int Tryz.underlying2)) rdFs_nil)))
    (fun p => (⟨p.1, p.2.1, p.2.2.1⟩ : State)) (fun _ => rfl)
end Go.Proofs.YtbcplkmkdggpjaaGreat
