/-
  Systems: what ValidSystem of the reference and of the program compute. No condition.
-/
import Derived.Test.YtlllmhjpcdcoiaaZS2b
namespace Go.Proofs.Ytlllmhjpcdcoiaa
open Go.AI
set_option maxRecDepth 8000
set_option maxHeartbeats 1600000

/-- How many of some rules each cell has. -/
def cntR (c : Int) (rs : List Rule) : Int := sumF (fun r => one c r.cell) rs
def cntL (n : Nat) (rs : List Rule) : List Int := (List.range n).map (fun c : Nat => cntR (c : Int) rs)
theorem cntL_len (n : Nat) (rs : List Rule) : (cntL n rs).length = n := by simp [cntL]
theorem cntL_get {n : Nat} {rs : List Rule} {c : Nat} (h : c < (cntL n rs).length) : (cntL n rs)[c] = cntR (c : Int) rs := by simp [cntL]
theorem cntL_nil (n : Nat) : cntL n [] = List.replicate n 0 := by
  apply List.ext_getElem
  · simp [cntL]
  · intro i h1 h2; simp [cntL, cntR, sumF]
theorem cntR_bnd (c : Int) (rs : List Rule) (k : Nat) (hk : k ≤ rs.length) : 0 ≤ cntR c (rs.take k) ∧ cntR c (rs.take k) ≤ k := by
  have := sumF_take (fun r : Rule => one c r.cell) rs (fun r _ => one_bnd c r.cell) k hk
  unfold cntR; simpa using this
theorem cntR_succ {c : Int} {rs : List Rule} {k : Nat} (hk : k < rs.length) : cntR c (rs.take (k + 1)) = cntR c (rs.take k) + one c rs[k].cell := sumF_succ (fun r : Rule => one c r.cell) hk
theorem cntL_set {n : Nat} {rs : List Rule} {k m : Nat} (hk : k < rs.length) (hm : rs[k].cell = (m : Int)) (hn : m < n) {v : Int} (hv : v = cntR (m : Int) (rs.take k) + 1) : (cntL n (rs.take k)).set m v = cntL n (rs.take (k + 1)) := by
  apply List.ext_getElem
  · simp [cntL]
  · intro i h1 h2
    rw [List.getElem_set, cntL_get, cntL_get, cntR_succ hk]
    split
    · rename_i e; subst e; rw [hv, one_t hm]
    · rename_i e; rw [one_f (by omega), Int.add_zero]

/-- A system is right. -/
def System.Ok (s : System) : Prop := s.Frame ∧ s.rules.length ≤ 16 ∧ ∀ i (h : i < s.rules.length), s.RuleOk s.rules[i] ∧ cntR s.rules[i].cell (s.rules.take (i + 1)) ≤ 8

theorem c_l02Ok (s : System) : Gives Try.prog 36 [.ip (encSystem s)] (.raw (.bool (dec s.Ok))) := by
  refine fn_of_run tyOk ztOk mix Try.func36 rfl (by decide) Try.ntmps36 (fun w0 h => ?_)
  repeat' (first
      | (refine j_go ?_; first
        | refine j_op0 rfl rfl rfl rfl ?_ | refine j_off rfl rfl rfl ?_ | (refine j_kLen rfl ?_; first | refine j_len rfl rfl rfl rfl rfl rfl ?_) | (refine j_kCall rfl rfl rfl rfl ?_; first | refine jc (c_l02Frame _) (LeL.refl _) rfl rfl ?_) | (refine j_kGuard rfl ?_; first | (refine (j_ifn rfl rfl rfl (fun hb => ?_) (fun hb => ?_)) <;> first | (exfalso; omega) | skip)))
      | refine j_nil ?_
      | (refine r_go ?_; first | refine run_seq ?_ | refine run_region ?_ | refine run_cond_t rfl ?_ | (refine (run_if rfl (fun hb => ?_) (fun hb => ?_)) <;> first | (exfalso; omega) | skip) | refine run_ret ?_ | refine run_skip ?_)
      | refine seqQ_normal ?_ | refine seqQ_ret ?_)
  · exact end1 rfl (by first | exact List.Sublist.refl _ | exact sub1 | exact sub2 | exact sub3) (rbF (fun q => hb q.1)) (.inl rfl)
  · exact end1 rfl (by first | exact List.Sublist.refl _ | exact sub1 | exact sub2 | exact sub3) (rbF (fun q => by have := q.2.1; omega)) (.inl rfl)
  · have hf : s.Frame := by assumption
    have hl := hf.2.1
    refine j_makeI (g := Go.AI.encI) 0 rfl rfl rfl rfl rfl rfl rfl rfl rfl (by omega) rfl rfl (fun b => ?_)
    repeat' (first
      | (refine j_go ?_; first
        | refine j_op0 rfl rfl rfl rfl ?_)
      | refine j_nil ?_
      | (refine r_go ?_; first | refine run_seq ?_ | refine run_region ?_ | refine run_block ?_)
      | refine seqQ_normal ?_)
    refine run_loop (fun k : Nat => [(0, .ip (encSystem s)), (3, .os (some b) s.parents.length s.parents.length), (4, .int (k : Int))]) (fun k => ⟨some b, 2, s.parents.length * 1, ((cntL s.parents.length (s.rules.take k)).map Go.AI.encI).flatten⟩ :: h)
      (fun k => k ≤ s.rules.length ∧ ∀ i (h : i < s.rules.length), i < k → s.RuleOk s.rules[i] ∧ cntR s.rules[i].cell (s.rules.take (i + 1)) ≤ 8) (fun k => s.rules.length - k) 0 ⟨rfl, rfl, rfl, trivial⟩ (by rw [List.take_zero, cntL_nil]) ⟨by omega, by intros; omega⟩ (fun k ⟨kl, kp⟩ => ?_)
    by_cases hk : k < s.rules.length
    · repeat' (first
      | (refine j_go ?_; first
        | refine j_op0 rfl rfl rfl rfl ?_ | (refine j_kIdx rfl ?_; first | refine j_idx rfl rfl rfl rfl rfl (by omega) rfl rfl rfl ?_) | (refine j_kLen rfl ?_; first | refine j_len rfl rfl rfl rfl rfl rfl ?_) | (refine j_kCall rfl rfl rfl rfl ?_; first | refine jc (c_l02Rule _ _ hf) (LeL.refl _) rfl rfl ?_))
      | refine j_nil ?_
      | (refine r_go ?_; first | refine run_seq ?_ | refine run_region ?_ | (refine (run_if rfl (fun hb => ?_) (fun hb => ?_)) <;> first | (exfalso; omega) | skip) | (refine (run_ifn rfl (fun hb => ?_) (fun hb => ?_)) <;> first | (exfalso; omega) | skip) | refine run_block ?_ | refine run_ret ?_ | refine run_skip ?_)
      | refine seqQ_normal ?_ | refine seqQ_ret ?_ | refine blockQ_ret ?_ | refine loopQ_ret ?_)
      · exact end1 rfl (by first | exact List.Sublist.refl _ | exact sub1 | exact sub2 | exact sub3) (rbF (fun q => hb (q.2.2 k hk).1)) (.inl rfl)
      · have hr : s.RuleOk s.rules[k] := hb
        have hc := hr.1
        have hcm : s.rules[k].cell = ((s.rules[k].cell.toNat : Nat) : Int) := by omega
        have hv := cntR_bnd ((s.rules[k].cell.toNat : Nat) : Int) s.rules k kl
        have hg : (cntL s.parents.length (s.rules.take k))[s.rules[k].cell.toNat]'(by rw [cntL_len]; omega) = cntR ((s.rules[k].cell.toNat : Nat) : Int) (s.rules.take k) := cntL_get _
        repeat' (first
      | (refine j_go ?_; first
        | (refine j_kIdx rfl ?_; first | refine j_midxz rfl rfl rfl rfl rfl (by first | omega | (simp only [List.length_append, List.length_cons, List.length_nil]; omega)) rfl rfl ?_)))
        refine j_mloadE 0 s.rules[k].cell.toNat (g := Go.AI.encI) (L := cntL s.parents.length (s.rules.take k)) (z := 1) rfl rfl rfl rfl (fun _ => rfl) rfl (by rw [cntL_len]; omega) (fun _ => rfl) rfl rfl ?_
        rw [hg]
        repeat' (first
      | (refine j_go ?_; first
        | (refine j_kIdx rfl ?_; first | refine j_midxz rfl rfl rfl rfl rfl (by first | omega | (simp only [List.length_append, List.length_cons, List.length_nil]; omega)) rfl rfl ?_) | (refine j_kBin rfl ?_; first | refine j_in rfl rfl ⟨by omega, by omega⟩ rfl rfl ?_)))
        refine j_storeE 0 s.rules[k].cell.toNat (g := Go.AI.encI) (cntR ((s.rules[k].cell.toNat : Nat) : Int) (s.rules.take k) + 1) rfl rfl rfl rfl rfl rfl rfl rfl rfl (fun _ => rfl) rfl (by rw [cntL_len]; omega) ?_
        rw [cntL_set hk hcm (by omega) rfl]
        have hg2 : (cntL s.parents.length (s.rules.take (k + 1)))[s.rules[k].cell.toNat]'(by rw [cntL_len]; omega) = cntR s.rules[k].cell (s.rules.take (k + 1)) := by rw [cntL_get, ← hcm]
        repeat' (first
      | (refine j_go ?_; first
        | refine j_op0 rfl rfl rfl rfl ?_ | (refine j_kIdx rfl ?_; first | refine j_idx rfl rfl rfl rfl rfl (by omega) rfl rfl rfl ?_ | refine j_midxz rfl rfl rfl rfl rfl (by first | omega | (simp only [List.length_append, List.length_cons, List.length_nil]; omega)) rfl rfl ?_))
      | refine j_nil ?_
      | (refine r_go ?_; first | refine run_seq ?_ | refine run_region ?_)
      | refine seqQ_normal ?_)
        refine j_mloadE 0 s.rules[k].cell.toNat (g := Go.AI.encI) (L := cntL s.parents.length (s.rules.take (k + 1))) (z := 1) rfl rfl rfl rfl (fun _ => rfl) rfl (by rw [cntL_len]; omega) (fun _ => rfl) rfl rfl ?_
        rw [hg2]
        repeat' (first
      | (refine j_go ?_; first
        | refine j_op0 rfl rfl rfl rfl ?_ | (refine j_kBin rfl ?_; first | refine j_in rfl rfl ⟨by omega, by omega⟩ rfl rfl ?_))
      | refine j_nil ?_
      | (refine r_go ?_; first | refine run_seq ?_ | refine run_region ?_ | (refine (run_if rfl (fun hb => ?_) (fun hb => ?_)) <;> first | (exfalso; omega) | skip) | refine run_ret ?_ | refine run_skip ?_)
      | refine seqQ_normal ?_ | refine seqQ_ret ?_ | refine blockQ_normal ?_ | refine blockQ_ret ?_ | refine loopQ_ret ?_)
        · exact end1 rfl (by first | exact List.Sublist.refl _ | exact sub1 | exact sub2 | exact sub3) (rbF (fun q => by have := (q.2.2 k hk).2; omega)) (.inl rfl)
        · exact loopQ_next (k + 1) ⟨by omega, all_step kp (fun _ => ⟨hr, by omega⟩)⟩ (by omega) rfl ⟨rfl, rfl, nx _, trivial⟩
    · repeat' (first
      | (refine j_go ?_; first
        | refine j_op0 rfl rfl rfl rfl ?_ | (refine j_kLen rfl ?_; first | refine j_len rfl rfl rfl rfl rfl rfl ?_))
      | refine j_nil ?_
      | (refine r_go ?_; first | refine run_seq ?_ | refine run_region ?_ | (refine (run_if rfl (fun hb => ?_) (fun hb => ?_)) <;> first | (exfalso; omega) | skip) | refine run_ret ?_ | refine run_exit ?_)
      | refine seqQ_normal ?_ | refine seqQ_exit ?_ | refine blockQ_eq ?_ | refine loopQ_exit ?_)
      exact end1 rfl (by first | exact List.Sublist.refl _ | exact sub1 | exact sub2 | exact sub3) (rbT (⟨hf, by omega, fun i h => kp i h (by omega)⟩)) (.inl rfl)


theorem c_iValidSystem (s : System) : Gives Try.prog 41 [.agg (encSystem s)] (.raw (.bool (dec s.Ok))) := by
  refine fn_of_run tyOk ztOk mix Try.func41 rfl (by decide) Try.ntmps41 (fun w0 h => ?_)
  repeat' (first
      | (refine j_go ?_; first
        | refine j_op0 rfl rfl rfl rfl ?_ | refine j_off rfl rfl rfl ?_ | (refine j_kLen rfl ?_; first | refine j_len rfl rfl rfl rfl rfl rfl ?_) | (refine j_kCall rfl rfl rfl rfl ?_; first | refine jc (c_isShell _) (LeL.refl _) rfl rfl ?_) | (refine j_kStore rfl ?_; first | refine j_storeN 0 rfl rfl rfl rfl rfl rfl rfl rfl rfl rfl rfl ?_) | (refine j_kGuard rfl ?_; first | (refine (j_ifn rfl rfl rfl (fun hb => ?_) (fun hb => ?_)) <;> first | (exfalso; omega) | skip)) | refine j_box rfl rfl rfl rfl rfl rfl ?_ | refine j_buildA rfl rfl rfl rfl rfl rfl rfl ?_ | refine j_alloc rfl rfl rfl rfl rfl (fun _ => ?_))
      | refine j_nil ?_
      | (refine r_go ?_; first | refine run_seq ?_ | refine run_region ?_ | refine run_cond_t rfl ?_ | (refine (run_if rfl (fun hb => ?_) (fun hb => ?_)) <;> first | (exfalso; omega) | skip) | refine run_block ?_ | refine run_ret ?_ | refine run_skip ?_)
      | refine seqQ_normal ?_ | refine seqQ_ret ?_)
  · exact end1 rfl (by first | exact List.Sublist.refl _ | exact sub1 | exact sub2 | exact sub3) (rbF (fun q => hb q.1)) (.inl rfl)
  · exact end1 rfl (by first | exact List.Sublist.refl _ | exact sub1 | exact sub2 | exact sub3) (rbF (fun q => by have := q.2.1; omega)) (.inl rfl)
  · have hf : s.Frame := by assumption
    have hl := hf.2.1
    rename_i b
    refine run_loop (fun k : Nat => [(1, .ip (encSystem s)), (3, .op (some b) 0), (17, .sl (s.rules.map encRule)), (18, .int s.rules.length), (19, .int (k : Int))]) (fun k => ⟨some b, 91, 6, ((cntL 6 (s.rules.take k)).map Go.AI.encI).flatten⟩ :: h)
      (fun k => k ≤ s.rules.length ∧ ∀ i (h : i < s.rules.length), i < k → s.RuleOk s.rules[i] ∧ cntR s.rules[i].cell (s.rules.take (i + 1)) ≤ 8) (fun k => s.rules.length - k) 0 ⟨rfl, rfl, rfl, rfl, rfl, trivial⟩ (by rw [List.take_zero, cntL_nil]; rfl) ⟨by omega, by intros; omega⟩ (fun k ⟨kl, kp⟩ => ?_)
    by_cases hk : k < s.rules.length
    · repeat' (first
      | (refine j_go ?_; first
        | refine j_op0 rfl rfl rfl rfl ?_ | (refine j_kIdx rfl ?_; first | refine j_idx rfl rfl rfl rfl rfl (by omega) rfl rfl rfl ?_) | (refine j_kCall rfl rfl rfl rfl ?_; first | refine jc (c_isRule2 _ _ hf) (LeL.refl _) rfl rfl ?_) | (refine j_kLoad rfl ?_; first | refine j_mload 0 rfl rfl rfl rfl rfl rfl rfl ?_) | (refine j_kStore rfl ?_; first | refine j_storeN 0 rfl rfl rfl rfl rfl rfl rfl rfl rfl rfl rfl ?_) | refine j_alloc rfl rfl rfl rfl rfl (fun _ => ?_))
      | refine j_nil ?_
      | (refine r_go ?_; first | refine run_seq ?_ | refine run_region ?_ | (refine (run_if rfl (fun hb => ?_) (fun hb => ?_)) <;> first | (exfalso; omega) | skip) | (refine (run_ifn rfl (fun hb => ?_) (fun hb => ?_)) <;> first | (exfalso; omega) | skip) | refine run_block ?_ | refine run_ret ?_ | refine run_skip ?_)
      | refine seqQ_normal ?_ | refine seqQ_ret ?_ | refine blockQ_ret ?_ | refine loopQ_ret ?_)
      · exact end1 rfl (by first | exact List.Sublist.refl _ | exact sub1 | exact sub2 | exact sub3) (rbF (fun q => hb (q.2.2 k hk).1)) (.inl rfl)
      · have hr : s.RuleOk s.rules[k] := hb
        have hc := hr.1
        have hcm : s.rules[k].cell = ((s.rules[k].cell.toNat : Nat) : Int) := by omega
        have hv := cntR_bnd ((s.rules[k].cell.toNat : Nat) : Int) s.rules k kl
        have hg : (cntL 6 (s.rules.take k))[s.rules[k].cell.toNat]'(by rw [cntL_len]; omega) = cntR ((s.rules[k].cell.toNat : Nat) : Int) (s.rules.take k) := cntL_get _
        repeat' (first
      | (refine j_go ?_; first
        | (refine j_kIdx rfl ?_; first | refine j_aidxz rfl rfl rfl rfl rfl (by omega) rfl rfl ?_)))
        refine j_mloadE 1 s.rules[k].cell.toNat (g := Go.AI.encI) (L := cntL 6 (s.rules.take k)) (z := 1) rfl rfl rfl rfl (fun _ => rfl) (by omega) (by rw [cntL_len]; omega) (fun _ => rfl) rfl rfl ?_
        rw [hg]
        repeat' (first
      | (refine j_go ?_; first
        | (refine j_kIdx rfl ?_; first | refine j_aidxz rfl rfl rfl rfl rfl (by omega) rfl rfl ?_) | (refine j_kBin rfl ?_; first | refine j_in rfl rfl ⟨by omega, by omega⟩ rfl rfl ?_)))
        refine j_storeE 1 s.rules[k].cell.toNat (g := Go.AI.encI) (cntR ((s.rules[k].cell.toNat : Nat) : Int) (s.rules.take k) + 1) rfl rfl rfl rfl rfl rfl rfl rfl rfl (fun _ => rfl) (by omega) (by rw [cntL_len]; omega) ?_
        rw [cntL_set hk hcm (by omega) rfl]
        have hg2 : (cntL 6 (s.rules.take (k + 1)))[s.rules[k].cell.toNat]'(by rw [cntL_len]; omega) = cntR s.rules[k].cell (s.rules.take (k + 1)) := by rw [cntL_get, ← hcm]
        repeat' (first
      | (refine j_go ?_; first
        | refine j_op0 rfl rfl rfl rfl ?_ | (refine j_kIdx rfl ?_; first | refine j_aidxz rfl rfl rfl rfl rfl (by omega) rfl rfl ?_) | (refine j_kLoad rfl ?_; first | refine j_mload 0 rfl rfl rfl rfl rfl rfl rfl ?_))
      | refine j_nil ?_
      | (refine r_go ?_; first | refine run_seq ?_ | refine run_region ?_)
      | refine seqQ_normal ?_)
        refine j_mloadE 1 s.rules[k].cell.toNat (g := Go.AI.encI) (L := cntL 6 (s.rules.take (k + 1))) (z := 1) rfl rfl rfl rfl (fun _ => rfl) (by omega) (by rw [cntL_len]; omega) (fun _ => rfl) rfl rfl ?_
        rw [hg2]
        repeat' (first
      | (refine j_go ?_; first
        | refine j_op0 rfl rfl rfl rfl ?_ | (refine j_kBin rfl ?_; first | refine j_in rfl rfl ⟨by omega, by omega⟩ rfl rfl ?_))
      | refine j_nil ?_
      | (refine r_go ?_; first | refine run_seq ?_ | refine run_region ?_ | (refine (run_if rfl (fun hb => ?_) (fun hb => ?_)) <;> first | (exfalso; omega) | skip) | refine run_ret ?_ | refine run_skip ?_)
      | refine seqQ_normal ?_ | refine seqQ_ret ?_ | refine blockQ_normal ?_ | refine blockQ_ret ?_ | refine loopQ_ret ?_)
        · exact end1 rfl sub2 (rbF (fun q => by have := (q.2.2 k hk).2; omega)) (.inl rfl)
        · exact loopQ_nextD (k + 1) ⟨by omega, all_step kp (fun _ => ⟨hr, by omega⟩)⟩ (by omega) (List.sublist_cons_self _ _) ⟨rfl, rfl, rfl, rfl, nx _, trivial⟩
    · repeat' (first
      | (refine j_go ?_; first
        | refine j_op0 rfl rfl rfl rfl ?_)
      | refine j_nil ?_
      | (refine r_go ?_; first | refine run_seq ?_ | refine run_region ?_ | (refine (run_if rfl (fun hb => ?_) (fun hb => ?_)) <;> first | (exfalso; omega) | skip) | refine run_ret ?_ | refine run_exit ?_)
      | refine seqQ_normal ?_ | refine seqQ_exit ?_ | refine blockQ_eq ?_ | refine loopQ_exit ?_)
      exact end1 rfl (by first | exact List.Sublist.refl _ | exact sub1 | exact sub2 | exact sub3) (rbT (⟨hf, by omega, fun i h => kp i h (by omega)⟩)) (.inl rfl)

end Go.Proofs.Ytlllmhjpcdcoiaa

/-
  States: what ValidState and ParentNow of the reference and of the program compute. No condition.
-/
namespace Go.Proofs.Ytlllmhjpcdcoiaa
open Go.AI
set_option maxRecDepth 8000
set_option maxHeartbeats 1600000

def System.CellOk (s : System) (al : Option Bool) (b : List Int) : Prop := BagK s.kinds b ∧ (al = some true ∨ tot b ≤ 0)
/-- A state is right for a system. -/
def System.StateOk (s : System) (t : State) : Prop := t.alive.length = s.parents.length ∧ t.bags.length = s.parents.length ∧ t.alive[0]? = some true ∧ BagK s.kinds t.around ∧ ∀ i (h : i < t.bags.length), s.CellOk t.alive[i]? t.bags[i]
theorem al_t {l : List Bool} {i : Nat} {h : i < l.length} (e : l[i] = true) : l[i]? = some true := by rw [List.getElem?_eq_getElem h, e]
theorem al_t' {l : List Bool} {i : Nat} {h : i < l.length} (e : (!l[i]) = false) : l[i]? = some true := al_t (h := h) (by simpa using e)
theorem al_f' {l : List Bool} {i : Nat} {h : i < l.length} (e : (!l[i]) = true) : ¬ l[i]? = some true := by rw [List.getElem?_eq_getElem h]; simp at e; simp [e]
theorem al_f {l : List Bool} {i : Nat} {h : i < l.length} (e : l[i] = false) : ¬ l[i]? = some true := by rw [List.getElem?_eq_getElem h, e]; simp

theorem c_l02State (s : System) (t : State) (hs : 1 ≤ s.parents.length ∧ s.parents.length ≤ 6) : Gives Try.prog 37 [.ip (encSystem s), .ip (encState t)] (.raw (.bool (dec (s.StateOk t)))) := by
  refine fn_of_run tyOk ztOk mix Try.func37 rfl (by decide) Try.ntmps37 (fun w0 h => ?_)
  repeat' (first
      | (refine j_go ?_; first
        | refine j_op0 rfl rfl rfl rfl ?_ | refine j_off rfl rfl rfl ?_ | (refine j_kIdx rfl ?_; first | refine j_idxz rfl rfl rfl rfl rfl ⟨by omega, by omega⟩ rfl rfl rfl ?_) | (refine j_kLen rfl ?_; first | refine j_len rfl rfl rfl rfl rfl rfl ?_) | (refine j_kCall rfl rfl rfl rfl ?_; first | refine jc (c_l02Bag _ _) (LeL.refl _) rfl rfl ?_) | (refine j_kGuard rfl ?_; first | (refine (j_ifn rfl rfl rfl (fun hb => ?_) (fun hb => ?_)) <;> first | (exfalso; omega) | skip) | (refine (j_branch rfl rfl rfl (fun hb => ?_) (fun hb => ?_)) <;> skip; (fail_if_success guard_hyp hb : true = true); (fail_if_success guard_hyp hb : true = false); (fail_if_success guard_hyp hb : false = true); (fail_if_success guard_hyp hb : false = false))))
      | refine j_nil ?_
      | (refine r_go ?_; first | refine run_seq ?_ | refine run_region ?_ | refine run_cond_t rfl ?_ | (refine (run_ifn rfl (fun hb => ?_) (fun hb => ?_)) <;> first | (exfalso; omega) | skip) | refine run_block ?_ | refine run_ret ?_ | refine run_skip ?_ | refine run_regionD (by kernel_rfl) ?_)
      | refine seqQ_normal ?_ | refine seqQ_ret ?_)
  all_goals first
    | (refine end1 rfl (by first | exact List.Sublist.refl _ | exact sub1 | exact sub2 | exact sub3) ?_ (.inl rfl); first | exact rbF (fun ⟨q1, q2, q3, q4, q5⟩ => by first | (exfalso; omega) | exact absurd q4 (by assumption) | exact absurd q3 (al_f (by assumption)) | exact absurd q3 (al_f' (by assumption))))
    | skip
  have ha : t.alive[0]? = some true := by first | exact al_t (by assumption) | exact al_t' (by assumption)
  refine run_loop (fun k : Nat => [(0, .ip (encSystem s)), (1, .ip (encState t)), (5, .int (k : Int))]) (fun _ => _) (fun k => k ≤ t.bags.length ∧ (∀ i (h : i < t.bags.length), i < k → s.CellOk t.alive[i]? t.bags[i])) (fun k => t.bags.length - k) 0 ⟨rfl, rfl, rfl, trivial⟩ rfl ⟨Nat.zero_le _, by first | (intros; omega) | (simp; done) | rfl | trivial | exact ⟨by simp [sumF], by intros; omega⟩ | exact ⟨by omega, by simp⟩⟩ (fun k ⟨kl, kp⟩ => ?_)
  repeat' (first
      | (refine j_go ?_; first
        | refine j_op0 rfl rfl rfl rfl ?_ | refine j_off rfl rfl rfl ?_ | (refine j_kIdx rfl ?_; first | refine j_idx rfl rfl rfl rfl rfl (by omega) rfl rfl rfl ?_) | (refine j_kBin rfl ?_; first | refine j_in rfl rfl ⟨by omega, by omega⟩ rfl rfl ?_) | (refine j_kLen rfl ?_; first | refine j_len rfl rfl rfl rfl rfl rfl ?_) | (refine j_kCall rfl rfl rfl rfl ?_; first | refine jc (c_l02Bag _ _) (LeL.refl _) rfl rfl ?_ | refine jc (c_l01Size _ (BagK.bag (k := s.kinds) (by assumption))) (LeL.refl _) rfl rfl ?_) | (refine j_kGuard rfl ?_; first | (refine (j_ifn rfl rfl rfl (fun hb => ?_) (fun hb => ?_)) <;> first | (exfalso; omega) | skip) | (refine (j_branch rfl rfl rfl (fun hb => ?_) (fun hb => ?_)) <;> skip; (fail_if_success guard_hyp hb : true = true); (fail_if_success guard_hyp hb : true = false); (fail_if_success guard_hyp hb : false = true); (fail_if_success guard_hyp hb : false = false))))
      | refine j_nil ?_
      | (refine r_go ?_; first | refine run_seq ?_ | refine run_region ?_ | refine run_cond_t rfl ?_ | refine run_cond_f rfl ?_ | (refine (run_if rfl (fun hb => ?_) (fun hb => ?_)) <;> first | (exfalso; omega) | skip) | refine run_block ?_ | refine run_ret ?_ | refine run_exit ?_ | refine run_skip ?_)
      | refine seqQ_normal ?_ | refine seqQ_ret ?_ | refine seqQ_exit ?_ | refine blockQ_normal ?_ | refine blockQ_ret ?_ | refine blockQ_eq ?_ | refine loopQ_ret ?_ | refine loopQ_exit ?_)
  all_goals first
    | exact loopQ_nextD (k + 1) ⟨by omega, all_step kp (fun _ => ⟨by assumption, by first | exact .inl (al_t (by assumption)) | exact .inl (al_t' (by assumption)) | exact .inr (by omega)⟩)⟩ (by omega) (by first | exact List.Sublist.refl _ | exact sub1 | exact sub2 | exact sub3) ⟨rfl, rfl, nx _, trivial⟩
    | (refine end1 rfl (by first | exact List.Sublist.refl _ | exact sub1 | exact sub2 | exact sub3) ?_ (.inl rfl); first | exact rbF (fun ⟨_, _, _, _, q⟩ => by
        have ⟨a1, a2⟩ := q k (by omega)
        exact (by first | exact absurd a1 (by assumption) | exact a2.elim (al_f (by assumption)) (fun _ => by omega) | exact a2.elim (al_f' (by assumption)) (fun _ => by omega))) | exact rbT ⟨by omega, by omega, ha, by assumption, fun i h => kp i h (by omega)⟩)
    | trace_state


theorem c_iValidState (s : System) (t : State) : Gives Try.prog 27 [.agg (encSystem s), .agg (encState t)] (.raw (.bool (dec (s.Ok ∧ s.StateOk t)))) := by
  refine fn_of_run tyOk ztOk mix Try.func27 rfl (by decide) Try.ntmps27 (fun w0 h => ?_)
  repeat' (first
      | (refine j_go ?_; first
        | refine j_op0 rfl rfl rfl rfl ?_ | refine j_off rfl rfl rfl ?_ | (refine j_kLen rfl ?_; first | refine j_len rfl rfl rfl rfl rfl rfl ?_) | (refine j_kCall rfl rfl rfl rfl ?_; first | refine jc (c_iValidSystem _) (LeL.refl _) rfl rfl ?_) | (refine j_kGuard rfl ?_; first | (refine (j_ifn rfl rfl rfl (fun hb => ?_) (fun hb => ?_)) <;> first | (exfalso; omega) | skip)) | refine j_box rfl rfl rfl rfl rfl rfl ?_)
      | refine j_nil ?_
      | (refine r_go ?_; first | refine run_seq ?_ | refine run_region ?_ | refine run_cond_t rfl ?_ | refine run_ret ?_)
      | refine seqQ_normal ?_ | refine seqQ_ret ?_)
  · exact end1 rfl (by first | exact List.Sublist.refl _ | exact sub1 | exact sub2 | exact sub3) (rbF (fun q => hb q.1)) (.inl rfl)
  all_goals have hv : s.Ok := by assumption
  all_goals first
    | (refine end1 rfl (by first | exact List.Sublist.refl _ | exact sub1 | exact sub2 | exact sub3) ?_ (.inl rfl); first | exact rbF (fun ⟨_, q1, q2, q3, q4, q5⟩ => by omega))
    | skip
  have hl := hv.1.2.1
  repeat' (first
      | (refine j_go ?_; first
        | refine j_op0 rfl rfl rfl rfl ?_ | refine j_off rfl rfl rfl ?_ | (refine j_kIdx rfl ?_; first | refine j_idxz rfl rfl rfl rfl rfl ⟨by omega, by omega⟩ rfl rfl rfl ?_) | (refine j_kLen rfl ?_; first | refine j_len rfl rfl rfl rfl rfl rfl ?_) | (refine j_kCall rfl rfl rfl rfl ?_; first | refine jc (c_ValidBag _ _) (LeL.refl _) rfl rfl ?_) | (refine j_kGuard rfl ?_; first | (refine (j_branch rfl rfl rfl (fun hb => ?_) (fun hb => ?_)) <;> skip; (fail_if_success guard_hyp hb : true = true); (fail_if_success guard_hyp hb : true = false); (fail_if_success guard_hyp hb : false = true); (fail_if_success guard_hyp hb : false = false))))
      | refine j_nil ?_
      | (refine r_go ?_; first | refine run_seq ?_ | refine run_region ?_ | refine run_cond_t rfl ?_ | (refine (run_ifn rfl (fun hb => ?_) (fun hb => ?_)) <;> first | (exfalso; omega) | skip) | refine run_block ?_ | refine run_ret ?_ | refine run_skip ?_)
      | refine seqQ_normal ?_ | refine seqQ_ret ?_)
  all_goals first
    | (refine end1 rfl (by first | exact List.Sublist.refl _ | exact sub1 | exact sub2 | exact sub3) ?_ (.inl rfl); first | exact rbF (fun ⟨_, q1, q2, q3, q4, q5⟩ => by first | (exfalso; omega) | exact absurd q4 (by assumption) | exact absurd q3 (al_f (by assumption)) | exact absurd q3 (al_f' (by assumption))))
    | skip
  have ha : t.alive[0]? = some true := by first | exact al_t (by assumption) | exact al_t' (by assumption)
  refine run_loop (fun k : Nat => [(2, .ip (encSystem s)), (3, .ip (encState t)), (44, .sl (t.bags.map (encS Go.AI.encI))), (45, .int t.bags.length), (46, .int (k : Int))]) (fun _ => _) (fun k => k ≤ t.bags.length ∧ (∀ i (h : i < t.bags.length), i < k → s.CellOk t.alive[i]? t.bags[i])) (fun k => t.bags.length - k) 0 ⟨rfl, rfl, rfl, rfl, rfl, trivial⟩ rfl ⟨Nat.zero_le _, by first | (intros; omega) | (simp; done) | rfl | trivial | exact ⟨by simp [sumF], by intros; omega⟩ | exact ⟨by omega, by simp⟩⟩ (fun k ⟨kl, kp⟩ => ?_)
  repeat' (first
      | (refine j_go ?_; first
        | refine j_op0 rfl rfl rfl rfl ?_ | refine j_off rfl rfl rfl ?_ | (refine j_kIdx rfl ?_; first | refine j_idx rfl rfl rfl rfl rfl (by omega) rfl rfl rfl ?_) | (refine j_kBin rfl ?_; first | refine j_in rfl rfl ⟨by omega, by omega⟩ rfl rfl ?_) | (refine j_kCall rfl rfl rfl rfl ?_; first | refine jc (c_ValidBag _ _) (LeL.refl _) rfl rfl ?_ | refine jc (c_bagSize _ (BagK.bag (k := s.kinds) (by assumption))) (LeL.refl _) rfl rfl ?_) | (refine j_kGuard rfl ?_; first | (refine (j_ifn rfl rfl rfl (fun hb => ?_) (fun hb => ?_)) <;> first | (exfalso; omega) | skip) | (refine (j_branch rfl rfl rfl (fun hb => ?_) (fun hb => ?_)) <;> skip; (fail_if_success guard_hyp hb : true = true); (fail_if_success guard_hyp hb : true = false); (fail_if_success guard_hyp hb : false = true); (fail_if_success guard_hyp hb : false = false))))
      | refine j_nil ?_
      | (refine r_go ?_; first | refine run_seq ?_ | refine run_region ?_ | refine run_cond_t rfl ?_ | refine run_cond_f rfl ?_ | (refine (run_if rfl (fun hb => ?_) (fun hb => ?_)) <;> first | (exfalso; omega) | skip) | refine run_block ?_ | refine run_ret ?_ | refine run_exit ?_ | refine run_skip ?_)
      | refine seqQ_normal ?_ | refine seqQ_ret ?_ | refine seqQ_exit ?_ | refine blockQ_normal ?_ | refine blockQ_ret ?_ | refine blockQ_eq ?_ | refine loopQ_ret ?_ | refine loopQ_exit ?_)
  all_goals first
    | exact loopQ_nextD (k + 1) ⟨by omega, all_step kp (fun _ => ⟨by assumption, by first | exact .inl (al_t (by assumption)) | exact .inl (al_t' (by assumption)) | exact .inr (by omega)⟩)⟩ (by omega) (by first | exact List.Sublist.refl _ | exact sub1 | exact sub2 | exact sub3) ⟨rfl, rfl, rfl, rfl, nx _, trivial⟩
    | (refine end1 rfl (by first | exact List.Sublist.refl _ | exact sub1 | exact sub2 | exact sub3) ?_ (.inl rfl); first | exact rbF (fun ⟨_, _, _, _, _, q⟩ => by
        have ⟨a1, a2⟩ := q k (by omega)
        exact (by first | exact absurd a1 (by assumption) | exact a2.elim (al_f (by assumption)) (fun _ => by omega) | exact a2.elim (al_f' (by assumption)) (fun _ => by omega))) | exact rbT ⟨hv, by omega, by omega, ha, by assumption, fun i h => kp i h (by omega)⟩)
    | trace_state

/-- The parent now of a cell, from p on. -/
def pnowF (ps : List Int) (al : List Bool) : Nat → Int → Int
  | 0, p => p
  | n + 1, p => if 0 ≤ p ∧ al[p.toNat]? = some false then pnowF ps al n (ps.getD p.toNat (-1)) else p
def pnow (s : System) (t : State) (c : Int) : Int := pnowF s.parents t.alive 6 (s.parents.getD c.toNat (-1))
theorem getD_get {α : Type} {l : List α} {i : Nat} {d : α} (h : i < l.length) : l.getD i d = l[i] := by simp [h]
theorem pnowF_stop {ps : List Int} {al : List Bool} {n : Nat} {p : Int} (h : ¬ (0 ≤ p ∧ al[p.toNat]? = some false)) : pnowF ps al n p = p := by
  cases n with
  | zero => rfl
  | succ n => rw [pnowF, if_neg h]
theorem af {l : List Bool} {i : Nat} {h : i < l.length} (e : l[i] = false) : l[i]? = some false := by rw [List.getElem?_eq_getElem h, e]
theorem at_ {l : List Bool} {i : Nat} {h : i < l.length} (e : l[i] = true) : ¬ l[i]? = some false := by rw [List.getElem?_eq_getElem h, e]; simp

theorem c_l02Parent (s : System) (t : State) (c : Int) (hv : s.Ok) (ht : t.alive.length = s.parents.length) (h0 : 0 ≤ c ∧ c ≤ (s.parents.length : Int) - 1) : Gives Try.prog 53 [.ip (encSystem s), .ip (encState t), .int c] (.int (pnow s t c)) := by
  refine fn_of_run tyOk ztOk mix Try.func53 rfl (by decide) Try.ntmps53 (fun w0 h => ?_)
  have hf := hv.1
  have hl := hf.2.1
  have hp0 := hf.par h0.1 h0.2
  repeat' (first
      | (refine j_go ?_; first
        | refine j_op0 rfl rfl rfl rfl ?_ | (refine j_kIdx rfl ?_; first | refine j_idxz rfl rfl rfl rfl rfl ⟨by omega, by omega⟩ rfl rfl rfl ?_))
      | refine j_nil ?_
      | (refine r_go ?_; first | refine run_seq ?_ | refine run_region ?_ | refine run_block ?_)
      | refine seqQ_normal ?_)
  refine run_loop (fun x : Int => [(0, .ip (encSystem s)), (1, .ip (encState t)), (7, .int x)]) (fun _ => _) (fun x => (-1 ≤ x ∧ x ≤ (s.parents.length : Int) - 1) ∧ ∃ n : Nat, x < n ∧ pnow s t c = pnowF s.parents t.alive n x) (fun x => (x + 1).toNat) _ ⟨rfl, rfl, rfl, trivial⟩ rfl ⟨⟨by omega, by omega⟩, 6, by omega, by unfold pnow; rw [getD_get (by omega)]⟩ (fun x ⟨xl, n, xn, xe⟩ => ?_)
  by_cases hx : 0 ≤ x
  · have hp := hf.par hx xl.2
    obtain ⟨n, rfl⟩ : ∃ m, n = m + 1 := ⟨n - 1, by omega⟩
    repeat' (first
      | (refine j_go ?_; first
        | refine j_op0 rfl rfl rfl rfl ?_ | (refine j_kIdx rfl ?_; first | refine j_idxz rfl rfl rfl rfl rfl ⟨by omega, by omega⟩ rfl rfl rfl ?_) | (refine j_kGuard rfl ?_; first | (refine (j_if rfl rfl rfl (fun hb => ?_) (fun hb => ?_)) <;> first | (exfalso; omega) | skip)))
      | refine j_nil ?_
      | (refine r_go ?_; first | refine run_seq ?_ | refine run_region ?_ | refine run_block ?_ | refine run_ret ?_ | refine run_exit ?_ | refine run_skip ?_ | refine run_condn rfl (fun hb => ?_) (fun hb => ?_))
      | refine seqQ_normal ?_ | refine seqQ_exit ?_ | refine blockQ_normal ?_ | refine blockQ_eq ?_ | refine loopQ_exit ?_)
    · exact loopQ_nextD _ ⟨⟨by omega, by omega⟩, n, by omega, by rw [xe, pnowF, if_pos ⟨hx, af (by assumption)⟩, getD_get (by omega)]⟩ (by omega) (List.Sublist.refl _) ⟨rfl, rfl, rfl, trivial⟩
    · exact end1 rfl (List.Sublist.refl _) (ai (by rw [xe, pnowF_stop (fun q => at_ (by assumption) q.2)])) (.inl rfl)
  · repeat' (first
      | (refine j_go ?_; first
        | refine j_op0 rfl rfl rfl rfl ?_ | refine j_off rfl rfl rfl ?_ | (refine j_kGuard rfl ?_; first | (refine (j_if rfl rfl rfl (fun hb => ?_) (fun hb => ?_)) <;> first | (exfalso; omega) | skip)))
      | refine j_nil ?_
      | (refine r_go ?_; first | refine run_seq ?_ | refine run_region ?_ | refine run_cond_f rfl ?_ | refine run_ret ?_ | refine run_exit ?_)
      | refine seqQ_normal ?_ | refine seqQ_exit ?_ | refine blockQ_eq ?_ | refine loopQ_exit ?_)
    exact end1 rfl (List.Sublist.refl _) (ai (by rw [xe, pnowF_stop (fun q => hx q.1)])) (.inl rfl)
theorem c_parentNow (s : System) (t : State) (c : Int) (hv : s.Ok) (ht : t.alive.length = s.parents.length) (h0 : 0 ≤ c ∧ c ≤ (s.parents.length : Int) - 1) : Gives Try.prog 64 [.agg (encSystem s), .agg (encState t), .int c] (.int (pnow s t c)) := by
  refine fn_of_run tyOk ztOk mix Try.func64 rfl (by decide) Try.ntmps64 (fun w0 h => ?_)
  have hf := hv.1
  have hl := hf.2.1
  have hp0 := hf.par h0.1 h0.2
  repeat' (first
      | (refine j_go ?_; first
        | refine j_op0 rfl rfl rfl rfl ?_ | (refine j_kIdx rfl ?_; first | refine j_idxz rfl rfl rfl rfl rfl ⟨by omega, by omega⟩ rfl rfl rfl ?_) | refine j_box rfl rfl rfl rfl rfl rfl ?_)
      | refine j_nil ?_
      | (refine r_go ?_; first | refine run_seq ?_ | refine run_region ?_ | refine run_block ?_)
      | refine seqQ_normal ?_)
  refine run_loop (fun x : Int => [(3, .ip (encSystem s)), (4, .ip (encState t)), (7, .int x)]) (fun _ => _) (fun x => (-1 ≤ x ∧ x ≤ (s.parents.length : Int) - 1) ∧ ∃ n : Nat, x < n ∧ pnow s t c = pnowF s.parents t.alive n x) (fun x => (x + 1).toNat) _ ⟨rfl, rfl, rfl, trivial⟩ rfl ⟨⟨by omega, by omega⟩, 6, by omega, by unfold pnow; rw [getD_get (by omega)]⟩ (fun x ⟨xl, n, xn, xe⟩ => ?_)
  by_cases hx : 0 ≤ x
  · have hp := hf.par hx xl.2
    obtain ⟨n, rfl⟩ : ∃ m, n = m + 1 := ⟨n - 1, by omega⟩
    repeat' (first
      | (refine j_go ?_; first
        | refine j_op0 rfl rfl rfl rfl ?_ | (refine j_kIdx rfl ?_; first | refine j_idxz rfl rfl rfl rfl rfl ⟨by omega, by omega⟩ rfl rfl rfl ?_) | (refine j_kGuard rfl ?_; first | (refine (j_if rfl rfl rfl (fun hb => ?_) (fun hb => ?_)) <;> first | (exfalso; omega) | skip)))
      | refine j_nil ?_
      | (refine r_go ?_; first | refine run_seq ?_ | refine run_region ?_ | refine run_block ?_ | refine run_ret ?_ | refine run_exit ?_ | refine run_skip ?_ | refine run_condn rfl (fun hb => ?_) (fun hb => ?_))
      | refine seqQ_normal ?_ | refine seqQ_exit ?_ | refine blockQ_normal ?_ | refine blockQ_eq ?_ | refine loopQ_exit ?_)
    · exact loopQ_nextD _ ⟨⟨by omega, by omega⟩, n, by omega, by rw [xe, pnowF, if_pos ⟨hx, af (by assumption)⟩, getD_get (by omega)]⟩ (by omega) (List.Sublist.refl _) ⟨rfl, rfl, rfl, trivial⟩
    · exact end1 rfl (List.Sublist.refl _) (ai (by rw [xe, pnowF_stop (fun q => at_ (by assumption) q.2)])) (.inl rfl)
  · repeat' (first
      | (refine j_go ?_; first
        | refine j_op0 rfl rfl rfl rfl ?_ | refine j_off rfl rfl rfl ?_ | (refine j_kGuard rfl ?_; first | (refine (j_if rfl rfl rfl (fun hb => ?_) (fun hb => ?_)) <;> first | (exfalso; omega) | skip)))
      | refine j_nil ?_
      | (refine r_go ?_; first | refine run_seq ?_ | refine run_region ?_ | refine run_cond_f rfl ?_ | refine run_ret ?_ | refine run_exit ?_)
      | refine seqQ_normal ?_ | refine seqQ_exit ?_ | refine blockQ_eq ?_ | refine loopQ_exit ?_)
    exact end1 rfl (List.Sublist.refl _) (ai (by rw [xe, pnowF_stop (fun q => hx q.1)])) (.inl rfl)

def State.Lives (t : State) (c : Int) : Prop := t.alive[c.toNat]? = some true



end Go.Proofs.Ytlllmhjpcdcoiaa
