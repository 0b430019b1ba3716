/-
  Texts of rules and systems: RuleText, SystemText. No condition.
-/
import Derived.Test.YtdlhajkidekjaaaDoorZX2
namespace Go.Proofs.YtdlhajkidekjaaaDoor
open Go.AI Go.RowKit
set_option maxRecDepth 8000
set_option maxHeartbeats 6400000

def intoW (x : Into) : List UInt8 := dcm x.cell ++ [32] ++ bagT x.bag
def intoT (l : List Into) : List UInt8 := if l = [] then [45] else Lib.join (l.map intoW) [44, 32]
def ruleH (r : Rule) : List UInt8 := [114, 117, 108, 101, 32] ++ dcm r.cell ++ [32] ++ dcm r.rank ++ [32, 58, 32] ++ bagT r.need ++ [32, 124, 32] ++ bagT r.have_ ++ [32, 33, 32] ++ bagT r.lack ++ [32, 45, 62, 32] ++ bagT r.here ++ [32, 59, 32] ++ bagT r.out ++ [32, 59, 32]
def endT (b : Bool) : List UInt8 := if b = true then [109, 101, 108, 116] else [115, 116, 97, 121]
def ruleT (r : Rule) : List UInt8 := ruleH r ++ intoT r.into ++ [32, 59, 32] ++ endT r.melts
theorem intoT_nil {l : List Into} (h : (l.length : Int) = 0) : joinK intoW [44, 32] l l.length ++ [45] = intoT l := by
  have : l = [] := List.eq_nil_of_length_eq_zero (by omega)
  subst this; rfl
theorem intoT_ne {l : List Into} (h : ¬ (l.length : Int) = 0) : joinK intoW [44, 32] l l.length = intoT l := by
  unfold intoT
  rw [joinK_all, if_neg (fun q => by rw [q] at h; exact h rfl)]
theorem endT_t {b : Bool} (h : b = true) : endT b = [109, 101, 108, 116] := by unfold endT; rw [if_pos h]
theorem endT_n {b : Bool} (h : b = false) : endT b = [115, 116, 97, 121] := by subst h; rfl
structure RuleTx (r : Rule) : Prop where
  cell : 0 ≤ r.cell ∧ r.cell ≤ 1000
  rank : 0 ≤ r.rank ∧ r.rank ≤ 9
  need : Bag r.need
  have_ : Bag r.have_
  lack : Bag r.lack
  here : Bag r.here
  out : Bag r.out
  into : r.into.length ≤ 3
  bags : ∀ i (h : i < r.into.length), (0 ≤ r.into[i].cell ∧ r.into[i].cell ≤ 1000) ∧ Bag r.into[i].bag
theorem rule_tx {s : System} {r : Rule} (hf : s.Frame) (hr : s.RuleOk r) : RuleTx r := by
  have h6 := hf.2.1
  obtain ⟨q1, q2, q3, q4, q5, q6, q7, q8, q9, q10, q11⟩ := hr
  exact ⟨by omega, by omega, q5.1, q6.1, q7.1, q8.1, q9.1, by omega, fun i h => by
    have := (q11 i h).1
    exact ⟨by have := this.1; omega, this.2.2.1.1⟩⟩
theorem intoW_len {r : Rule} (h : RuleTx r) : ∀ x ∈ r.into, (intoW x).length ≤ 198 := fun x hx => by
  obtain ⟨i, hi, rfl⟩ := List.getElem_of_mem hx
  have h1 := h.bags i hi
  have h2 := bagT_len (bag_in h1.2)
  have h3 := h1.2.2
  have h4 := dcm_len (n := r.into[i].cell) ⟨by omega, by omega⟩
  unfold intoW
  simp only [List.length_append, List.length_cons, List.length_nil]; omega
theorem bag_tl {b : List Int} (h : Bag b) : (bagT b).length ≤ 177 := by
  have h2 := bagT_len (bag_in h)
  have h3 := h.2
  omega
theorem ruleH_len {r : Rule} (h : RuleTx r) : (ruleH r).length ≤ 1000 := by
  have h1 := dcm_len (n := r.cell) ⟨by have := h.cell; omega, by have := h.cell; omega⟩
  have h2 := dcm_len (n := r.rank) ⟨by have := h.rank; omega, by have := h.rank; omega⟩
  have h3 := bag_tl h.need
  have h4 := bag_tl h.have_
  have h5 := bag_tl h.lack
  have h6 := bag_tl h.here
  have h7 := bag_tl h.out
  unfold ruleH
  simp only [List.length_append, List.length_cons, List.length_nil]; omega
theorem ruleT_len {r : Rule} (h : RuleTx r) : (ruleT r).length ≤ 2000 := by
  have h1 := ruleH_len h
  have h2 := joinK_len (sep := [44, 32]) (intoW_len h) r.into.length
  have h3 := h.into
  unfold ruleT intoT endT
  rw [joinK_all] at h2
  simp only [List.length_cons, List.length_nil] at h2
  split <;> split <;> simp only [List.length_append, List.length_cons, List.length_nil] <;> omega

theorem c_l02RuleText (r : Rule) (hr : RuleTx r) : Gives Tryd.prog 79 [.ip (encRule r)] (.str (ruleT r)) := by
  refine fn_of_run tyOk ztOk mix Tryd.func79 rfl (by decide) Tryd.ntmps79 (fun w0 h => ?_)
  have h1 := dcm_len (n := r.cell) ⟨by have := hr.cell; omega, by have := hr.cell; omega⟩
  have h2 := dcm_len (n := r.rank) ⟨by have := hr.rank; omega, by have := hr.rank; omega⟩
  have h3 := bag_tl hr.need
  have h4 := bag_tl hr.have_
  have h5 := bag_tl hr.lack
  have h6 := bag_tl hr.here
  have h7 := bag_tl hr.out
  have hc := hr.cell
  have hk1 := hr.rank
  have hi3 := hr.into
  repeat' (first
      | (refine j_go ?_; first
        | refine j_op0 rfl rfl rfl rfl ?_ | (refine j_kIdx rfl ?_; first | refine j_idx rfl rfl rfl rfl rfl (by omega) rfl rfl rfl ?_ | refine j_idxz rfl rfl rfl rfl rfl ⟨by omega, by omega⟩ rfl rfl rfl ?_) | (refine j_kBin rfl ?_; first | refine j_in rfl rfl ⟨by omega, by omega⟩ rfl rfl ?_ | refine j_cat rfl rfl rfl rfl (by first | omega | (simp only [List.length_append, List.length_cons, List.length_nil]; omega)) rfl rfl ?_) | (refine j_kLen rfl ?_; first | refine j_len rfl rfl rfl rfl rfl rfl ?_ | refine j_op rfl rfl rfl rfl ?_) | (refine j_kCall rfl rfl rfl rfl ?_; first | refine jc (c_dec r.cell ⟨by omega, by omega⟩) (LeL.refl _) rfl rfl ?_ | refine jc (c_dec r.rank ⟨by omega, by omega⟩) (LeL.refl _) rfl rfl ?_ | refine jc (c_l01Text _ hr.need) (LeL.refl _) rfl rfl ?_ | refine jc (c_l01Text _ hr.have_) (LeL.refl _) rfl rfl ?_ | refine jc (c_l01Text _ hr.lack) (LeL.refl _) rfl rfl ?_ | refine jc (c_l01Text _ hr.here) (LeL.refl _) rfl rfl ?_ | refine jc (c_l01Text _ hr.out) (LeL.refl _) rfl rfl ?_ | refine jc (c_dec r.cell ⟨by omega, by omega⟩) (by repeat' (first | exact LeL.nil | refine LeL.cons ?_ ?_ | exact Le.refl _ | exact Le.nilm _ _ | exact Le.nil _ | refine Le.agg ?_)) rfl rfl ?_ | refine jc (c_dec r.rank ⟨by omega, by omega⟩) (by repeat' (first | exact LeL.nil | refine LeL.cons ?_ ?_ | exact Le.refl _ | exact Le.nilm _ _ | exact Le.nil _ | refine Le.agg ?_)) rfl rfl ?_ | refine jc (c_l01Text _ hr.need) (by repeat' (first | exact LeL.nil | refine LeL.cons ?_ ?_ | exact Le.refl _ | exact Le.nilm _ _ | exact Le.nil _ | refine Le.agg ?_)) rfl rfl ?_ | refine jc (c_l01Text _ hr.have_) (by repeat' (first | exact LeL.nil | refine LeL.cons ?_ ?_ | exact Le.refl _ | exact Le.nilm _ _ | exact Le.nil _ | refine Le.agg ?_)) rfl rfl ?_ | refine jc (c_l01Text _ hr.lack) (by repeat' (first | exact LeL.nil | refine LeL.cons ?_ ?_ | exact Le.refl _ | exact Le.nilm _ _ | exact Le.nil _ | refine Le.agg ?_)) rfl rfl ?_ | refine jc (c_l01Text _ hr.here) (by repeat' (first | exact LeL.nil | refine LeL.cons ?_ ?_ | exact Le.refl _ | exact Le.nilm _ _ | exact Le.nil _ | refine Le.agg ?_)) rfl rfl ?_ | refine jc (c_l01Text _ hr.out) (by repeat' (first | exact LeL.nil | refine LeL.cons ?_ ?_ | exact Le.refl _ | exact Le.nilm _ _ | exact Le.nil _ | refine Le.agg ?_)) rfl rfl ?_))
      | refine j_nil ?_
      | (refine r_go ?_; first | refine run_seq ?_ | refine run_region ?_ | refine run_cond_t rfl ?_ | refine run_cond_f rfl ?_ | (refine (run_if rfl (fun hb => ?_) (fun hb => ?_)) <;> first | (exfalso; omega) | skip) | (refine (run_ifn rfl (fun hb => ?_) (fun hb => ?_)) <;> first | (exfalso; omega) | skip) | refine run_block ?_ | refine run_ret ?_ | refine run_exit ?_ | refine run_skip ?_ | refine run_regionD (by kernel_rfl) ?_ | refine run_condn rfl (fun hb => ?_) (fun hb => ?_) | refine run_cond rfl (fun hb => ?_) (fun hb => ?_))
      | refine seqQ_normal ?_ | refine seqQ_ret ?_ | refine seqQ_exit ?_ | refine blockQ_normal ?_ | refine blockQ_ret ?_ | refine blockQ_eq ?_ | refine blockQ_ne rfl ?_ | refine loopQ_ret ?_ | refine loopQ_exit ?_)
  clear h1 h2 h3 h4 h5 h6 h7
  refine run_loop (fun k : Nat => [(0, .ip (encRule r)), (3, .str (ruleH r ++ joinK intoW [44, 32] r.into k)), (4, .int (k : Int))]) (fun _ => _) (fun k => k ≤ r.into.length ∧ (True)) (fun k => r.into.length - k) 0 ⟨rfl, (by first | rfl | exact si (by first | omega | (simp; done) | (simp [sumF]; done) | (simp; omega)) | exact raw_f (by simp) | exact raw_t (by simp) | exact sa (by first | (rw [catK_zero]; rfl) | (rw [catK_zero, List.append_nil]; rfl) | (rw [catK_zero, List.append_nil]) | (rw [joinK_zero, List.append_nil]; rfl) | (rw [joinK_zero, List.append_nil]) | (simp [catK]; done))), rfl, trivial⟩ rfl ⟨Nat.zero_le _, by first | (intros; omega) | (simp; done) | rfl | trivial | exact ⟨by simp [sumF], by intros; omega⟩ | exact ⟨by omega, by simp⟩⟩ (fun k ⟨kl, kp⟩ => ?_)
  have hl := ruleH_len hr
  have jl := joinK_len (sep := [44, 32]) (intoW_len hr) k
  simp only [List.length_cons, List.length_nil] at jl
  by_cases hk : k < r.into.length
  · have hb0 := hr.bags k hk
    have bl := bag_tl hb0.2
    have d1 := dcm_len (n := r.into[k].cell) ⟨by omega, by omega⟩
    by_cases hk0 : k = 0
    · subst hk0
      have es := joinK_first intoW [44, 32] hk
      repeat' (first
      | (refine j_go ?_; first
        | refine j_op0 rfl rfl rfl rfl ?_ | (refine j_kIdx rfl ?_; first | refine j_idx rfl rfl rfl rfl rfl (by omega) rfl rfl rfl ?_ | refine j_idxz rfl rfl rfl rfl rfl ⟨by omega, by omega⟩ rfl rfl rfl ?_) | (refine j_kBin rfl ?_; first | refine j_in rfl rfl ⟨by omega, by omega⟩ rfl rfl ?_ | refine j_cat rfl rfl rfl rfl (by first | omega | (simp only [List.length_append, List.length_cons, List.length_nil]; omega)) rfl rfl ?_) | (refine j_kLen rfl ?_; first | refine j_len rfl rfl rfl rfl rfl rfl ?_ | refine j_op rfl rfl rfl rfl ?_) | (refine j_kCall rfl rfl rfl rfl ?_; first | refine jc (c_dec _ ⟨by omega, by omega⟩) (LeL.refl _) rfl rfl ?_ | refine jc (c_l01Text _ hb0.2) (LeL.refl _) rfl rfl ?_ | refine jc (c_dec _ ⟨by omega, by omega⟩) (by repeat' (first | exact LeL.nil | refine LeL.cons ?_ ?_ | exact Le.refl _ | exact Le.nilm _ _ | exact Le.nil _ | refine Le.agg ?_)) rfl rfl ?_ | refine jc (c_l01Text _ hb0.2) (by repeat' (first | exact LeL.nil | refine LeL.cons ?_ ?_ | exact Le.refl _ | exact Le.nilm _ _ | exact Le.nil _ | refine Le.agg ?_)) rfl rfl ?_))
      | refine j_nil ?_
      | (refine r_go ?_; first | refine run_seq ?_ | refine run_region ?_ | refine run_cond_t rfl ?_ | refine run_cond_f rfl ?_ | (refine (run_if rfl (fun hb => ?_) (fun hb => ?_)) <;> first | (exfalso; omega) | skip) | (refine (run_ifn rfl (fun hb => ?_) (fun hb => ?_)) <;> first | (exfalso; omega) | skip) | refine run_block ?_ | refine run_ret ?_ | refine run_exit ?_ | refine run_skip ?_ | refine run_regionD (by kernel_rfl) ?_ | refine run_condn rfl (fun hb => ?_) (fun hb => ?_) | refine run_cond rfl (fun hb => ?_) (fun hb => ?_))
      | refine seqQ_normal ?_ | refine seqQ_ret ?_ | refine seqQ_exit ?_ | refine blockQ_normal ?_ | refine blockQ_ret ?_ | refine blockQ_eq ?_ | refine blockQ_ne rfl ?_ | refine loopQ_ret ?_ | refine loopQ_exit ?_)
      exact loopQ_nextD (0 + 1) ⟨by omega, trivial⟩ (by omega) (by exact List.Sublist.refl _) ⟨rfl, sa (by rw [es, joinK_zero]; unfold intoW; simp only [List.append_assoc, List.append_nil, List.nil_append] <;> rfl), nx _, trivial⟩
    · have es := joinK_succ intoW [44, 32] hk (by omega)
      repeat' (first
      | (refine j_go ?_; first
        | refine j_op0 rfl rfl rfl rfl ?_ | (refine j_kIdx rfl ?_; first | refine j_idx rfl rfl rfl rfl rfl (by omega) rfl rfl rfl ?_ | refine j_idxz rfl rfl rfl rfl rfl ⟨by omega, by omega⟩ rfl rfl rfl ?_) | (refine j_kBin rfl ?_; first | refine j_in rfl rfl ⟨by omega, by omega⟩ rfl rfl ?_ | refine j_cat rfl rfl rfl rfl (by first | omega | (simp only [List.length_append, List.length_cons, List.length_nil]; omega)) rfl rfl ?_) | (refine j_kLen rfl ?_; first | refine j_len rfl rfl rfl rfl rfl rfl ?_ | refine j_op rfl rfl rfl rfl ?_) | (refine j_kCall rfl rfl rfl rfl ?_; first | refine jc (c_dec _ ⟨by omega, by omega⟩) (LeL.refl _) rfl rfl ?_ | refine jc (c_l01Text _ hb0.2) (LeL.refl _) rfl rfl ?_ | refine jc (c_dec _ ⟨by omega, by omega⟩) (by repeat' (first | exact LeL.nil | refine LeL.cons ?_ ?_ | exact Le.refl _ | exact Le.nilm _ _ | exact Le.nil _ | refine Le.agg ?_)) rfl rfl ?_ | refine jc (c_l01Text _ hb0.2) (by repeat' (first | exact LeL.nil | refine LeL.cons ?_ ?_ | exact Le.refl _ | exact Le.nilm _ _ | exact Le.nil _ | refine Le.agg ?_)) rfl rfl ?_))
      | refine j_nil ?_
      | (refine r_go ?_; first | refine run_seq ?_ | refine run_region ?_ | refine run_cond_t rfl ?_ | refine run_cond_f rfl ?_ | (refine (run_if rfl (fun hb => ?_) (fun hb => ?_)) <;> first | (exfalso; omega) | skip) | (refine (run_ifn rfl (fun hb => ?_) (fun hb => ?_)) <;> first | (exfalso; omega) | skip) | refine run_block ?_ | refine run_ret ?_ | refine run_exit ?_ | refine run_skip ?_ | refine run_regionD (by kernel_rfl) ?_ | refine run_condn rfl (fun hb => ?_) (fun hb => ?_) | refine run_cond rfl (fun hb => ?_) (fun hb => ?_))
      | refine seqQ_normal ?_ | refine seqQ_ret ?_ | refine seqQ_exit ?_ | refine blockQ_normal ?_ | refine blockQ_ret ?_ | refine blockQ_eq ?_ | refine blockQ_ne rfl ?_ | refine loopQ_ret ?_ | refine loopQ_exit ?_)
      exact loopQ_nextD (k + 1) ⟨by omega, trivial⟩ (by omega) (by first | exact List.Sublist.refl _ | exact sub1 | exact sub2 | exact sub3) ⟨rfl, (by first | rfl | (exact sa (by rw [es]; unfold intoW; simp only [List.append_assoc] <;> rfl)) | exact si (by omega)), nx _, trivial⟩
  · have hke : k = r.into.length := by omega
    subst hke
    repeat' (first
      | (refine j_go ?_; first
        | refine j_op0 rfl rfl rfl rfl ?_ | (refine j_kIdx rfl ?_; first | refine j_idx rfl rfl rfl rfl rfl (by omega) rfl rfl rfl ?_ | refine j_idxz rfl rfl rfl rfl rfl ⟨by omega, by omega⟩ rfl rfl rfl ?_) | (refine j_kBin rfl ?_; first | refine j_in rfl rfl ⟨by omega, by omega⟩ rfl rfl ?_ | refine j_cat rfl rfl rfl rfl (by first | omega | (simp only [List.length_append, List.length_cons, List.length_nil]; omega)) rfl rfl ?_) | (refine j_kLen rfl ?_; first | refine j_len rfl rfl rfl rfl rfl rfl ?_ | refine j_op rfl rfl rfl rfl ?_))
      | refine j_nil ?_
      | (refine r_go ?_; first | refine run_seq ?_ | refine run_region ?_ | refine run_cond_t rfl ?_ | refine run_cond_f rfl ?_ | (refine (run_if rfl (fun hb => ?_) (fun hb => ?_)) <;> first | (exfalso; omega) | skip) | (refine (run_ifn rfl (fun hb => ?_) (fun hb => ?_)) <;> first | (exfalso; omega) | skip) | refine run_block ?_ | refine run_ret ?_ | refine run_exit ?_ | refine run_skip ?_ | refine run_regionD (by kernel_rfl) ?_ | refine run_condn rfl (fun hb => ?_) (fun hb => ?_) | refine run_cond rfl (fun hb => ?_) (fun hb => ?_))
      | refine seqQ_normal ?_ | refine seqQ_ret ?_ | refine seqQ_exit ?_ | refine blockQ_normal ?_ | refine blockQ_ret ?_ | refine blockQ_eq ?_ | refine blockQ_ne rfl ?_ | refine loopQ_ret ?_ | refine loopQ_exit ?_)
    all_goals first
      | exact end1 rfl (List.Sublist.refl _) (st (by unfold ruleT; rw [← intoT_nil (by assumption), endT_t (by assumption)]; simp only [List.append_assoc] <;> rfl)) (.inl rfl)
      | exact end1 rfl (List.Sublist.refl _) (st (by unfold ruleT; rw [← intoT_nil (by assumption), endT_n (by assumption)]; simp only [List.append_assoc] <;> rfl)) (.inl rfl)
      | exact end1 rfl (List.Sublist.refl _) (st (by unfold ruleT; rw [← intoT_ne (by assumption), endT_t (by assumption)]; simp only [List.append_assoc] <;> rfl)) (.inl rfl)
      | exact end1 rfl (List.Sublist.refl _) (st (by unfold ruleT; rw [← intoT_ne (by assumption), endT_n (by assumption)]; simp only [List.append_assoc] <;> rfl)) (.inl rfl)
      | trace_state

end Go.Proofs.YtdlhajkidekjaaaDoor
