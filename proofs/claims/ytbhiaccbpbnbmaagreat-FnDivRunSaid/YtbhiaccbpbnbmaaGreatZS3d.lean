/-
  Colonies: what ValidColony of the reference and of the program compute. No condition.
-/
import Derived.Test.YtbhiaccbpbnbmaaGreatZS7e
import Derived.Test.YtbhiaccbpbnbmaaGreatZS0
import Derived.Test.YtbhiaccbpbnbmaaGreatZJA
namespace Go.Proofs.YtbhiaccbpbnbmaaGreat
open Go.AI
set_option maxRecDepth 8000
set_option maxHeartbeats 1600000

/-- One list is ahead of another one. -/
def less : List Int → List Int → Prop
  | [], [] => False
  | [], _ :: _ => True
  | _ :: _, [] => False
  | x :: a, y :: b => x < y ∨ (x = y ∧ less a b)
theorem less_step {a b : List Int} {k : Nat} (ha : k < a.length) (hb : k < b.length) : less (a.drop k) (b.drop k) ↔ a[k] < b[k] ∨ (a[k] = b[k] ∧ less (a.drop (k + 1)) (b.drop (k + 1))) := by
  rw [List.drop_eq_getElem_cons ha, List.drop_eq_getElem_cons hb]; exact Iff.rfl
theorem less_end {a b : List Int} {k : Nat} (h : ¬ (k < a.length ∧ k < b.length)) (h1 : k ≤ a.length) (h2 : k ≤ b.length) : less (a.drop k) (b.drop k) ↔ a.length < b.length := by
  by_cases ha : k < a.length
  · have e : b.drop k = [] := List.drop_of_length_le (by omega)
    rw [List.drop_eq_getElem_cons ha, e]
    exact ⟨fun q => by simp [less] at q, fun q => by omega⟩
  · have e : a.drop k = [] := List.drop_of_length_le (by omega)
    rw [e]
    by_cases hb : k < b.length
    · rw [List.drop_eq_getElem_cons hb]
      exact ⟨fun _ => by omega, fun _ => trivial⟩
    · rw [List.drop_of_length_le (by omega)]
      exact ⟨fun q => by simp [less] at q, fun q => by omega⟩

theorem c_l07Less (a b : List Int) : Gives Tryz.prog 71 [.sl (a.map Go.AI.encI), .sl (b.map Go.AI.encI)] (.raw (.bool (dec (less a b)))) := by
  refine fn_of_run tyOk ztOk mix Tryz.func71 rfl (by decide) Tryz.ntmps71 (fun w0 h => ?_)
  refine run_len (t := 0) rfl (fun hl => ?_)
  refine run_len (t := 1) rfl (fun hl2 => ?_)
  rw [List.length_map] at hl hl2
  repeat' (first
      | (refine j_go ?_; first
        | refine j_op0 rfl rfl rfl rfl ?_)
      | refine j_nil ?_
      | (refine r_go ?_; first | refine run_seq ?_ | refine run_region ?_ | refine run_block ?_)
      | refine seqQ_normal ?_)
  refine run_loop (fun k : Nat => [(0, .sl (a.map Go.AI.encI)), (1, .sl (b.map Go.AI.encI)), (5, .int (k : Int))]) (fun _ => _) (fun k => k ≤ a.length ∧ (k ≤ b.length ∧ (less a b ↔ less (a.drop k) (b.drop k)))) (fun k => a.length - k) 0 ⟨rfl, rfl, rfl, trivial⟩ rfl ⟨Nat.zero_le _, by first | (intros; omega) | (simp; done) | rfl | trivial | exact ⟨by simp [sumF], by intros; omega⟩ | exact ⟨by omega, by simp⟩⟩ (fun k ⟨kl, kp⟩ => ?_)
  obtain ⟨kb, ke⟩ := kp
  repeat' (first
      | (refine j_go ?_; first
        | refine j_op0 rfl rfl rfl rfl ?_ | refine j_off rfl rfl rfl ?_ | (refine j_kIdx rfl ?_; first | refine j_idx rfl rfl rfl rfl rfl (by omega) rfl rfl rfl ?_) | (refine j_kBin rfl ?_; first | refine j_in rfl rfl ⟨by omega, by omega⟩ rfl rfl ?_) | (refine j_kLen rfl ?_; first | refine j_len rfl rfl rfl rfl rfl rfl ?_) | (refine j_kGuard rfl ?_; first | (refine (j_if rfl rfl rfl (fun hb => ?_) (fun hb => ?_)) <;> first | (exfalso; omega) | skip)))
      | refine j_nil ?_
      | (refine r_go ?_; first | refine run_seq ?_ | refine run_region ?_ | refine run_cond_f rfl ?_ | (refine (run_if rfl (fun hb => ?_) (fun hb => ?_)) <;> first | (exfalso; omega) | skip) | (refine (run_ifn rfl (fun hb => ?_) (fun hb => ?_)) <;> first | (exfalso; omega) | skip) | refine run_block ?_ | refine run_ret ?_ | refine run_exit ?_ | refine run_skip ?_ | refine run_regionD (by kernel_rfl) ?_)
      | refine seqQ_normal ?_ | refine seqQ_ret ?_ | refine seqQ_exit ?_ | refine blockQ_normal ?_ | refine blockQ_ret ?_ | refine blockQ_eq ?_ | refine loopQ_ret ?_ | refine loopQ_exit ?_)
  all_goals first
    | exact loopQ_nextD (k + 1) ⟨by omega, ⟨by omega, by rw [ke, less_step (by omega) (by omega)]; exact ⟨fun q => (q.resolve_left (by omega)).2, fun q => .inr ⟨by assumption, q⟩⟩⟩⟩ (by omega) (by first | exact List.Sublist.refl _ | exact sub1 | exact sub2 | exact sub3) ⟨rfl, rfl, nx _, trivial⟩
    | exact end1 rfl (List.Sublist.refl _) (rbD (by rw [ke, less_step (by omega) (by omega)]; exact ⟨.inl, fun q => q.elim id (fun q => absurd q.1 (by assumption))⟩)) (.inl rfl)
    | exact end1 rfl (List.Sublist.refl _) (rbD (by rw [ke, less_end (by omega) (by omega) (by omega)]; omega)) (.inl rfl)
    | trace_state

open Classical in
noncomputable def cmp3 (p q : Prop) : Int := if p then -1 else if q then 1 else 0
theorem cmp3_l {p q : Prop} (h : p) : cmp3 p q = -1 := by unfold cmp3; rw [if_pos h]
theorem cmp3_g {p q : Prop} (h : ¬p) (h2 : q) : cmp3 p q = 1 := by unfold cmp3; rw [if_neg h, if_pos h2]
theorem cmp3_e {p q : Prop} (h : ¬p) (h2 : ¬q) : cmp3 p q = 0 := by unfold cmp3; rw [if_neg h, if_neg h2]
theorem cmp3_ge {p q : Prop} : 0 ≤ cmp3 p q ↔ ¬p := by
  by_cases h : p
  · rw [cmp3_l h]; exact ⟨fun q => by omega, fun q => absurd h q⟩
  · by_cases h2 : q
    · rw [cmp3_g h h2]; exact ⟨fun _ => h, fun _ => by omega⟩
    · rw [cmp3_e h h2]; exact ⟨fun _ => h, fun _ => by omega⟩

theorem c_cmpCompare (x y : Int) : Gives Tryz.prog 90 [.int x, .int y] (.int (cmp3 (x < y) (y < x))) := by
  refine fn_of_run tyOk ztOk mix Tryz.func90 rfl (by decide) Tryz.ntmps90 (fun w0 h => ?_)
  repeat' (first
      | (refine j_go ?_; first
        | refine j_op0 rfl rfl rfl rfl ?_ | (refine j_kCall rfl rfl rfl rfl ?_; first | refine jc (c_isNaN _) (LeL.refl _) rfl rfl ?_))
      | refine j_nil ?_
      | (refine r_go ?_; first | refine run_seq ?_ | refine run_region ?_ | refine run_cond_f rfl ?_ | (refine (run_if rfl (fun hb => ?_) (fun hb => ?_)) <;> first | (exfalso; omega) | skip) | refine run_ret ?_ | refine run_skip ?_)
      | refine seqQ_normal ?_ | refine seqQ_ret ?_)
  all_goals first | exact end1 rfl (List.Sublist.refl _) (ai (cmp3_l (by omega)).symm) (.inl rfl) | exact end1 rfl (List.Sublist.refl _) (ai (cmp3_g (by omega) (by omega)).symm) (.inl rfl) | exact end1 rfl (List.Sublist.refl _) (ai (cmp3_e (by omega) (by omega)).symm) (.inl rfl) | trace_state

theorem c_slCompare (a b : List Int) : Gives Tryz.prog 91 [.sl (a.map Go.AI.encI), .sl (b.map Go.AI.encI)] (.int (cmp3 (less a b) (less b a))) := by
  refine fn_of_run tyOk ztOk mix Tryz.func91 rfl (by decide) Tryz.ntmps91 (fun w0 h => ?_)
  refine run_len (t := 0) rfl (fun hl => ?_)
  refine run_len (t := 1) rfl (fun hl2 => ?_)
  rw [List.length_map] at hl hl2
  repeat' (first
      | (refine j_go ?_; first
        | refine j_op0 rfl rfl rfl rfl ?_ | (refine j_kLen rfl ?_; first | refine j_len rfl rfl rfl rfl rfl rfl ?_))
      | refine j_nil ?_
      | (refine r_go ?_; first | refine run_seq ?_ | refine run_region ?_ | refine run_block ?_)
      | refine seqQ_normal ?_)
  refine run_loop (fun k : Nat => [(0, .sl (a.map Go.AI.encI)), (1, .sl (b.map Go.AI.encI)), (9, .sl (a.map Go.AI.encI)), (10, .int a.length), (11, .int (k : Int))]) (fun _ => _) (fun k => k ≤ a.length ∧ (k ≤ b.length ∧ (less a b ↔ less (a.drop k) (b.drop k)) ∧ (less b a ↔ less (b.drop k) (a.drop k)))) (fun k => a.length - k) 0 ⟨rfl, rfl, rfl, rfl, rfl, trivial⟩ rfl ⟨Nat.zero_le _, by first | (intros; omega) | (simp; done) | rfl | trivial | exact ⟨by simp [sumF], by intros; omega⟩ | exact ⟨by omega, by simp⟩⟩ (fun k ⟨kl, kp⟩ => ?_)
  obtain ⟨kb, ke, ke2⟩ := kp
  repeat' (first
      | (refine j_go ?_; first
        | refine j_op0 rfl rfl rfl rfl ?_ | (refine j_kIdx rfl ?_; first | refine j_idx rfl rfl rfl rfl rfl (by omega) rfl rfl rfl ?_) | (refine j_kBin rfl ?_; first | refine j_in rfl rfl ⟨by omega, by omega⟩ rfl rfl ?_) | (refine j_kLen rfl ?_; first | refine j_len rfl rfl rfl rfl rfl rfl ?_) | (refine j_kCall rfl rfl rfl rfl ?_; first | refine jc (c_cmpCompare _ _) (LeL.refl _) rfl rfl ?_))
      | refine j_nil ?_
      | (refine r_go ?_; first | refine run_seq ?_ | refine run_region ?_ | (refine (run_if rfl (fun hb => ?_) (fun hb => ?_)) <;> first | (exfalso; omega) | skip) | (refine (run_ifn rfl (fun hb => ?_) (fun hb => ?_)) <;> first | (exfalso; omega) | skip) | refine run_block ?_ | refine run_ret ?_ | refine run_exit ?_ | refine run_skip ?_)
      | refine seqQ_normal ?_ | refine seqQ_ret ?_ | refine seqQ_exit ?_ | refine blockQ_normal ?_ | refine blockQ_ret ?_ | refine blockQ_eq ?_ | refine loopQ_ret ?_ | refine loopQ_exit ?_)
  · exact end1 rfl (List.Sublist.refl _) (ai (cmp3_g (by rw [ke, less_end (by omega) (by omega) (by omega)]; omega) (by rw [ke2, less_end (by omega) (by omega) (by omega)]; omega)).symm) (.inl rfl)
  · rename_i h1 h2
    have h1' : k < a.length := by omega
    have h2' : k < b.length := by omega
    have s1 := less_step h1' h2'
    have s2 := less_step h2' h1'
    by_cases hx : a[k] < b[k]
    · exact end1 rfl (List.Sublist.refl _) (ai (by rw [cmp3_l hx, cmp3_l (by rw [ke, s1]; exact .inl hx)])) (.inl rfl)
    · by_cases hy : b[k] < a[k]
      · exact end1 rfl (List.Sublist.refl _) (ai (by rw [cmp3_g hx hy, cmp3_g (by rw [ke, s1]; omega) (by rw [ke2, s2]; exact .inl hy)])) (.inl rfl)
      · exact absurd (cmp3_e hx hy) hb
  · rename_i h1 h2
    have h1' : k < a.length := by omega
    have h2' : k < b.length := by omega
    have s1 := less_step h1' h2'
    have s2 := less_step h2' h1'
    have he : a[k] = b[k] := by
      by_cases hx : a[k] < b[k]
      · rw [cmp3_l hx] at hb; cases hb
      · by_cases hy : b[k] < a[k]
        · rw [cmp3_g hx hy] at hb; cases hb
        · omega
    exact loopQ_nextD (k + 1) ⟨by omega, ⟨by omega, by rw [ke, s1]; exact ⟨fun q => (q.resolve_left (by omega)).2, fun q => .inr ⟨he, q⟩⟩, by rw [ke2, s2]; exact ⟨fun q => (q.resolve_left (by omega)).2, fun q => .inr ⟨he.symm, q⟩⟩⟩⟩ (by omega) (by first | exact List.Sublist.refl _ | exact sub1 | exact sub2 | exact sub3) ⟨rfl, rfl, rfl, rfl, nx _, trivial⟩
  · exact end1 rfl (List.Sublist.refl _) (ai (cmp3_l (by rw [ke, less_end (by omega) (by omega) (by omega)]; omega)).symm) (.inl rfl)
  · exact end1 rfl (List.Sublist.refl _) (ai (cmp3_e (by rw [ke, less_end (by omega) (by omega) (by omega)]; omega) (by rw [ke2, less_end (by omega) (by omega) (by omega)]; omega)).symm) (.inl rfl)

/-- The first number that is not 0. -/
def orF : List Int → Int
  | [] => 0
  | x :: l => if x = 0 then orF l else x
theorem c_cmpOr (l : List Int) : Gives Tryz.prog 89 [.sl (l.map Go.AI.encI)] (.int (orF l)) := by
  refine fn_of_run tyOk ztOk mix Tryz.func89 rfl (by decide) Tryz.ntmps89 (fun w0 h => ?_)
  refine run_len (t := 0) rfl (fun hl => ?_)
  rw [List.length_map] at hl
  repeat' (first
      | (refine j_go ?_; first
        | refine j_op0 rfl rfl rfl rfl ?_ | (refine j_kLen rfl ?_; first | refine j_len rfl rfl rfl rfl rfl rfl ?_))
      | refine j_nil ?_
      | (refine r_go ?_; first | refine run_seq ?_ | refine run_region ?_ | refine run_block ?_)
      | refine seqQ_normal ?_)
  refine run_loop (fun k : Nat => [(3, .int 0), (6, .sl (l.map Go.AI.encI)), (7, .int l.length), (8, .int (k : Int))]) (fun _ => _) (fun k => k ≤ l.length ∧ (orF l = orF (l.drop k))) (fun k => l.length - k) 0 ⟨rfl, rfl, rfl, rfl, trivial⟩ rfl ⟨Nat.zero_le _, by first | (intros; omega) | (simp; done) | rfl | trivial | exact ⟨by simp [sumF], by intros; omega⟩ | exact ⟨by omega, by simp⟩⟩ (fun k ⟨kl, kp⟩ => ?_)
  have gn : ∀ (hk : k < l.length), orF (l.drop k) = if l[k] = 0 then orF (l.drop (k + 1)) else l[k] := fun hk => by rw [List.drop_eq_getElem_cons hk, orF]
  repeat' (first
      | (refine j_go ?_; first
        | refine j_op0 rfl rfl rfl rfl ?_ | (refine j_kIdx rfl ?_; first | refine j_idx rfl rfl rfl rfl rfl (by omega) rfl rfl rfl ?_) | (refine j_kBin rfl ?_; first | refine j_in rfl rfl ⟨by omega, by omega⟩ rfl rfl ?_))
      | refine j_nil ?_
      | (refine r_go ?_; first | refine run_seq ?_ | refine run_region ?_ | (refine (run_if rfl (fun hb => ?_) (fun hb => ?_)) <;> first | (exfalso; omega) | skip) | (refine (run_ifn rfl (fun hb => ?_) (fun hb => ?_)) <;> first | (exfalso; omega) | skip) | refine run_block ?_ | refine run_ret ?_ | refine run_exit ?_ | refine run_skip ?_)
      | refine seqQ_normal ?_ | refine seqQ_ret ?_ | refine seqQ_exit ?_ | refine blockQ_normal ?_ | refine blockQ_ret ?_ | refine blockQ_eq ?_ | refine loopQ_ret ?_ | refine loopQ_exit ?_)
  · exact end1 rfl (List.Sublist.refl _) (ai (by rw [kp, gn (by omega), if_neg hb])) (.inl rfl)
  · exact loopQ_nextD (k + 1) ⟨by omega, by rw [kp, gn (by omega), if_pos hb]⟩ (by omega) (by first | exact List.Sublist.refl _ | exact sub1 | exact sub2 | exact sub3) ⟨rfl, rfl, rfl, nx _, trivial⟩
  · exact end1 rfl (List.Sublist.refl _) (ai (by rw [kp, List.drop_of_length_le (by omega), orF])) (.inl rfl)

def Before (a b : Group) : Prop := a.charge < b.charge ∨ (a.charge = b.charge ∧ less a.contents b.contents)

theorem c_l07Before (a b : Group) : Gives Tryz.prog 44 [.ip (encGroup a), .ip (encGroup b)] (.raw (.bool (dec (Before a b)))) := by
  refine fn_of_run tyOk ztOk mix Tryz.func44 rfl (by decide) Tryz.ntmps44 (fun w0 h => ?_)
  repeat' (first
      | (refine j_go ?_; first
        | refine j_op0 rfl rfl rfl rfl ?_ | (refine j_kCall rfl rfl rfl rfl ?_; first | refine jc (c_l07Less _ _) (LeL.refl _) rfl rfl ?_))
      | refine j_nil ?_
      | (refine r_go ?_; first | refine run_seq ?_ | refine run_region ?_ | (refine (run_ifn rfl (fun hb => ?_) (fun hb => ?_)) <;> first | (exfalso; omega) | skip) | refine run_ret ?_ | refine run_skip ?_ | refine run_regionD (by kernel_rfl) ?_)
      | refine seqQ_normal ?_ | refine seqQ_ret ?_)
  · exact end1 rfl (List.Sublist.refl _) (rbD ⟨.inl, fun q => q.elim id (fun q => absurd q.1 hb)⟩) (.inl rfl)
  · exact end1 rfl (List.Sublist.refl _) (rbD ⟨fun q => .inr ⟨hb, q⟩, fun q => (q.resolve_left (by omega)).2⟩) (.inl rfl)

theorem c_compareGroups (a b : Group) : Gives Tryz.prog 64 [.agg (encGroup a), .agg (encGroup b)] (.int (cmp3 (Before a b) (Before b a))) := by
  refine fn_of_run tyOk ztOk mix Tryz.func64 rfl (by decide) Tryz.ntmps64 (fun w0 h => ?_)
  repeat' (first
      | (refine j_go ?_; first
        | refine j_op0 rfl rfl rfl rfl ?_ | (refine j_kCall rfl rfl rfl rfl ?_; first | refine jc (c_cmpCompare _ _) (LeL.refl _) rfl rfl ?_ | refine jc (c_slCompare _ _) (LeL.refl _) rfl rfl ?_ | refine jc (c_cmpOr [_, _]) (LeL.refl _) rfl rfl ?_) | (refine j_kBsl rfl ?_; first | refine j_bsl rfl rfl rfl rfl rfl rfl rfl rfl rfl rfl rfl ?_) | refine j_box rfl rfl rfl rfl rfl rfl ?_)
      | refine j_nil ?_
      | (refine r_go ?_; first | refine run_seq ?_ | refine run_region ?_ | refine run_ret ?_ | refine run_regionD (by kernel_rfl) ?_)
      | refine seqQ_normal ?_)
  refine end1 rfl (List.Sublist.refl _) (ai ?_) (.inl rfl)
  show orF [cmp3 (a.charge < b.charge) (b.charge < a.charge), cmp3 (less a.contents b.contents) (less b.contents a.contents)] = _
  rw [orF, orF, orF]
  by_cases hx : a.charge < b.charge
  · rw [cmp3_l hx, cmp3_l (show Before a b from .inl hx)]; rfl
  · by_cases hy : b.charge < a.charge
    · rw [cmp3_g hx hy, cmp3_g (show ¬ Before a b from fun q => q.elim hx (fun q => by omega)) (show Before b a from .inl hy)]; rfl
    · rw [cmp3_e hx hy, if_pos rfl]
      have he : a.charge = b.charge := by omega
      have e1 : Before a b ↔ less a.contents b.contents := ⟨fun q => (q.resolve_left hx).2, fun q => .inr ⟨he, q⟩⟩
      have e2 : Before b a ↔ less b.contents a.contents := ⟨fun q => (q.resolve_left hy).2, fun q => .inr ⟨he.symm, q⟩⟩
      rw [show Before a b = less a.contents b.contents from propext e1, show Before b a = less b.contents a.contents from propext e2]
      by_cases hz : cmp3 (less a.contents b.contents) (less b.contents a.contents) = 0
      · rw [if_pos hz, hz]
      · rw [if_neg hz]

theorem sumF_nn {α : Type} (f : α → Int) : ∀ (l : List α), (∀ x ∈ l, 0 ≤ f x) → 0 ≤ sumF f l
  | [], _ => by simp [sumF]
  | x :: l, h => by
    have h1 := h x (by simp)
    have h2 := sumF_nn f l (fun y hy => h y (by simp [hy]))
    simp only [sumF]; omega
theorem sumF_split {α : Type} (f : α → Int) : ∀ (l : List α) (k : Nat), sumF f l = sumF f (l.take k) + sumF f (l.drop k)
  | [], k => by simp [sumF]
  | x :: l, 0 => by simp [sumF]
  | x :: l, k + 1 => by simp only [List.take_succ_cons, List.drop_succ_cons, sumF]; rw [sumF_split f l k]; omega
theorem sumF_pre {α : Type} (f : α → Int) (l : List α) (k : Nat) (h : ∀ x ∈ l, 0 ≤ f x) : sumF f (l.take k) ≤ sumF f l := by
  have := sumF_nn f (l.drop k) (fun x hx => h x (List.mem_of_mem_drop hx))
  have := sumF_split f l k
  omega

/-- A colony is right for a system of so many objects. -/
def Colony.Ok (o : Int) (c : Colony) : Prop := HeapOf o c.skin 300 ∧ c.groups.length ≤ 200 ∧
  (∀ i (h : i < c.groups.length), ((-1 ≤ c.groups[i].charge ∧ c.groups[i].charge ≤ 1) ∧ HeapOf o c.groups[i].contents 60 ∧ 1 ≤ c.groups[i].count) ∧ (0 < i → Before c.groups[i-1] c.groups[i])) ∧ sumF Group.count c.groups ≤ 5000
theorem Colony.Ok.nn {o : Int} {c : Colony} (h : c.Ok o) : ∀ g ∈ c.groups, 0 ≤ g.count := fun g hg => by
  obtain ⟨i, hi, rfl⟩ := List.getElem_of_mem hg
  have := (h.2.2.1 i hi).1.2.2
  omega
theorem Colony.Ok.upto {o : Int} {c : Colony} (h : c.Ok o) {k : Nat} (hk : k < c.groups.length) : 1 ≤ c.groups[k].count ∧ 0 ≤ sumF Group.count (c.groups.take k) ∧ sumF Group.count (c.groups.take k) + c.groups[k].count ≤ 5000 := by
  have h1 := sumF_pre Group.count c.groups (k + 1) h.nn
  have h2 := sumF_succ Group.count hk
  have h3 := sumF_nn Group.count (c.groups.take k) (fun x hx => h.nn x (List.mem_of_mem_take hx))
  have h4 := h.2.2.2
  have h5 := (h.2.2.1 k hk).1.2.2
  try simp only at h1 h2 h3 h4 h5
  omega

theorem c_l07Colony (d : Division) (c : Colony) (hd : 1 ≤ d.objects ∧ d.objects ≤ 64) : Gives Tryz.prog 26 [.ip (encDivision d), .ip (encColony c)] (.raw (.bool (dec (c.Ok d.objects)))) := by
  refine fn_of_run tyOk ztOk mix Tryz.func26 rfl (by decide) Tryz.ntmps26 (fun w0 h => ?_)
  repeat' (first
      | (refine j_go ?_; first
        | refine j_op0 rfl rfl rfl rfl ?_ | refine j_off rfl rfl rfl ?_ | (refine j_kLen rfl ?_; first | refine j_len rfl rfl rfl rfl rfl rfl ?_) | (refine j_kCall rfl rfl rfl rfl ?_; first | refine jc (c_l07Heap _ _ _ hd) (LeL.refl _) rfl rfl ?_) | (refine j_kGuard rfl ?_; first | (refine (j_ifn rfl rfl rfl (fun hb => ?_) (fun hb => ?_)) <;> first | (exfalso; omega) | skip)))
      | refine j_nil ?_
      | (refine r_go ?_; first | refine run_seq ?_ | refine run_region ?_ | refine run_cond_t rfl ?_ | (refine (run_if rfl (fun hb => ?_) (fun hb => ?_)) <;> first | (exfalso; omega) | skip) | refine run_block ?_ | refine run_ret ?_ | refine run_skip ?_ | refine run_regionD (by kernel_rfl) ?_)
      | refine seqQ_normal ?_ | refine seqQ_ret ?_)
  · exact end1 rfl (by first | exact List.Sublist.refl _ | exact sub1 | exact sub2 | exact sub3) (rbF (fun q => hb q.1)) (.inl rfl)
  · exact end1 rfl (by first | exact List.Sublist.refl _ | exact sub1 | exact sub2 | exact sub3) (rbF (fun q => by have := q.2.1; omega)) (.inl rfl)
  · have h0 : HeapOf d.objects c.skin 300 := by assumption
    refine run_loop (fun k : Nat => [(0, .ip (encDivision d)), (1, .ip (encColony c)), (5, .int (sumF Group.count (c.groups.take k))), (6, .int (k : Int))]) (fun _ => _) (fun k => k ≤ c.groups.length ∧ ((0 ≤ sumF Group.count (c.groups.take k) ∧ sumF Group.count (c.groups.take k) ≤ 5000 * (k : Int)) ∧ ∀ i (h : i < c.groups.length), i < k → ((-1 ≤ c.groups[i].charge ∧ c.groups[i].charge ≤ 1) ∧ HeapOf d.objects c.groups[i].contents 60 ∧ 1 ≤ c.groups[i].count) ∧ (0 < i → Before c.groups[i-1] c.groups[i]))) (fun k => c.groups.length - k) 0 ⟨rfl, rfl, (by first | rfl | exact si (by first | omega | (simp; done) | (simp [sumF]; done) | (simp; omega)) | exact raw_f (by simp) | exact raw_t (by simp) | exact sa (by first | (rw [catK_zero]; rfl) | (rw [catK_zero, List.append_nil]; rfl) | (rw [catK_zero, List.append_nil]) | (rw [joinK_zero, List.append_nil]; rfl) | (rw [joinK_zero, List.append_nil]) | (simp [catK]; done))), rfl, trivial⟩ rfl ⟨Nat.zero_le _, by first | (intros; omega) | (simp; done) | rfl | trivial | exact ⟨by simp [sumF], by intros; omega⟩ | exact ⟨by omega, by simp⟩⟩ (fun k ⟨kl, kp⟩ => ?_)
    have e : ((k : Int) - 1).toNat = k - 1 := by omega
    obtain ⟨ks, kq⟩ := kp
    repeat' (first
      | (refine j_go ?_; first
        | refine j_op0 rfl rfl rfl rfl ?_ | refine j_off rfl rfl rfl ?_ | (refine j_kIdx rfl ?_; first | refine j_idx rfl rfl rfl rfl rfl (by omega) rfl rfl rfl ?_ | refine j_idxz rfl rfl rfl rfl rfl ⟨by omega, by omega⟩ rfl rfl rfl ?_) | (refine j_kBin rfl ?_; first | refine j_in rfl rfl ⟨by omega, by omega⟩ rfl rfl ?_) | (refine j_kLen rfl ?_; first | refine j_len rfl rfl rfl rfl rfl rfl ?_) | (refine j_kCall rfl rfl rfl rfl ?_; first | refine jc (c_l00In _ _ _) (LeL.refl _) rfl rfl ?_ | refine jc (c_l07Charge _) (LeL.refl _) rfl rfl ?_ | refine jc (c_l07Heap _ _ _ hd) (LeL.refl _) rfl rfl ?_ | refine jc (c_l07Before _ _) (LeL.refl _) rfl rfl ?_) | (refine j_kGuard rfl ?_; first | (refine (j_if rfl rfl rfl (fun hb => ?_) (fun hb => ?_)) <;> first | (exfalso; omega) | skip) | (refine (j_ifn rfl rfl rfl (fun hb => ?_) (fun hb => ?_)) <;> first | (exfalso; omega) | skip)))
      | refine j_nil ?_
      | (refine r_go ?_; first | refine run_seq ?_ | refine run_region ?_ | refine run_cond_t rfl ?_ | refine run_cond_f rfl ?_ | (refine (run_if rfl (fun hb => ?_) (fun hb => ?_)) <;> first | (exfalso; omega) | skip) | (refine (run_ifn rfl (fun hb => ?_) (fun hb => ?_)) <;> first | (exfalso; omega) | skip) | refine run_block ?_ | refine run_ret ?_ | refine run_exit ?_ | refine run_skip ?_ | refine run_regionD (by kernel_rfl) ?_)
      | refine seqQ_normal ?_ | refine seqQ_ret ?_ | refine seqQ_exit ?_ | refine blockQ_normal ?_ | refine blockQ_ret ?_ | refine blockQ_eq ?_ | refine loopQ_ret ?_ | refine loopQ_exit ?_)
    all_goals try simp only [e] at hb
    all_goals first
      | exact loopQ_nextD (k + 1) ⟨by omega, ⟨by rw [sumF_succ Group.count (by omega)]; (try simp only); omega, all_step kq (fun _ => ⟨⟨by assumption, by assumption, by omega⟩, fun _ => by first | assumption | omega⟩)⟩⟩ (by omega) (by first | exact List.Sublist.refl _ | exact sub1 | exact sub2 | exact sub3) ⟨rfl, rfl, (by first | rfl | (rw [sumF_succ Group.count (by omega)]; try rfl) | exact si (by omega)), nx _, trivial⟩
      | exact end1 rfl (by first | exact List.Sublist.refl _ | exact sub1 | exact sub2 | exact sub3) (rbF (fun q => by first
          | exact hb (q.2.2.1 k (by omega)).1.1
          | exact hb (q.2.2.1 k (by omega)).1.2.1
          | exact hb ((q.2.2.1 k (by omega)).2 (by omega))
          | (have hk : k < c.groups.length := by omega
             have := q.upto hk; omega))) (.inl rfl)
      | exact end1 rfl (List.Sublist.refl _) (rbD ⟨fun q => ⟨h0, by omega, fun i h => kq i h (by omega), by rw [List.take_of_length_le (by omega)] at q; exact q⟩, fun q => by rw [List.take_of_length_le (by omega)]; exact q.2.2.2⟩) (.inl rfl)
      | trace_state


theorem c_isColony (d : Division) (c : Colony) (hd : 1 ≤ d.objects ∧ d.objects ≤ 64) : Gives Tryz.prog 45 [.agg (encDivision d), .agg (encColony c)] (.raw (.bool (dec (c.Ok d.objects)))) := by
  refine fn_of_run tyOk ztOk mix Tryz.func45 rfl (by decide) Tryz.ntmps45 (fun w0 h => ?_)
  repeat' (first
      | (refine j_go ?_; first
        | refine j_op0 rfl rfl rfl rfl ?_ | refine j_off rfl rfl rfl ?_ | (refine j_kLen rfl ?_; first | refine j_len rfl rfl rfl rfl rfl rfl ?_) | (refine j_kCall rfl rfl rfl rfl ?_; first | refine jc (c_isHeap _ _ _ hd) (LeL.refl _) rfl rfl ?_) | (refine j_kGuard rfl ?_; first | (refine (j_ifn rfl rfl rfl (fun hb => ?_) (fun hb => ?_)) <;> first | (exfalso; omega) | skip)) | refine j_box rfl rfl rfl rfl rfl rfl ?_)
      | refine j_nil ?_
      | (refine r_go ?_; first | refine run_seq ?_ | refine run_region ?_ | refine run_cond_t rfl ?_ | (refine (run_if rfl (fun hb => ?_) (fun hb => ?_)) <;> first | (exfalso; omega) | skip) | refine run_block ?_ | refine run_ret ?_ | refine run_skip ?_)
      | refine seqQ_normal ?_ | refine seqQ_ret ?_)
  · exact end1 rfl (by first | exact List.Sublist.refl _ | exact sub1 | exact sub2 | exact sub3) (rbF (fun q => hb q.1)) (.inl rfl)
  · exact end1 rfl (by first | exact List.Sublist.refl _ | exact sub1 | exact sub2 | exact sub3) (rbF (fun q => by have := q.2.1; omega)) (.inl rfl)
  · have h0 : HeapOf d.objects c.skin 300 := by assumption
    refine run_loop (fun k : Nat => [(2, .ip (encDivision d)), (3, .ip (encColony c)), (5, .int (5000 - sumF Group.count (c.groups.take k))), (20, .sl (c.groups.map encGroup)), (21, .int c.groups.length), (22, .int (k : Int))]) (fun _ => _) (fun k => k ≤ c.groups.length ∧ ((0 ≤ sumF Group.count (c.groups.take k) ∧ sumF Group.count (c.groups.take k) ≤ 5000) ∧ ∀ i (h : i < c.groups.length), i < k → ((-1 ≤ c.groups[i].charge ∧ c.groups[i].charge ≤ 1) ∧ HeapOf d.objects c.groups[i].contents 60 ∧ 1 ≤ c.groups[i].count) ∧ (0 < i → Before c.groups[i-1] c.groups[i]))) (fun k => c.groups.length - k) 0 ⟨rfl, rfl, (by first | rfl | exact si (by first | omega | (simp; done) | (simp [sumF]; done) | (simp; omega)) | exact raw_f (by simp) | exact raw_t (by simp) | exact sa (by first | (rw [catK_zero]; rfl) | (rw [catK_zero, List.append_nil]; rfl) | (rw [catK_zero, List.append_nil]) | (rw [joinK_zero, List.append_nil]; rfl) | (rw [joinK_zero, List.append_nil]) | (simp [catK]; done))), rfl, rfl, rfl, trivial⟩ rfl ⟨Nat.zero_le _, by first | (intros; omega) | (simp; done) | rfl | trivial | exact ⟨by simp [sumF], by intros; omega⟩ | exact ⟨by omega, by simp⟩⟩ (fun k ⟨kl, kp⟩ => ?_)
    have e : ((k : Int) - 1).toNat = k - 1 := by omega
    obtain ⟨ks, kq⟩ := kp
    repeat' (first
      | (refine j_go ?_; first
        | refine j_op0 rfl rfl rfl rfl ?_ | refine j_off rfl rfl rfl ?_ | (refine j_kIdx rfl ?_; first | refine j_idx rfl rfl rfl rfl rfl (by omega) rfl rfl rfl ?_ | refine j_idxz rfl rfl rfl rfl rfl ⟨by omega, by omega⟩ rfl rfl rfl ?_) | (refine j_kBin rfl ?_; first | refine j_in rfl rfl ⟨by omega, by omega⟩ rfl rfl ?_) | (refine j_kCall rfl rfl rfl rfl ?_; first | refine jc (c_inRange _ _ _) (LeL.refl _) rfl rfl ?_ | refine jc (c_isCharge _) (LeL.refl _) rfl rfl ?_ | refine jc (c_isHeap _ _ _ hd) (LeL.refl _) rfl rfl ?_ | refine jc (c_compareGroups _ _) (LeL.refl _) rfl rfl ?_) | (refine j_kLoad rfl ?_; first | refine j_mload 0 rfl rfl rfl rfl rfl rfl rfl ?_) | (refine j_kStore rfl ?_; first | refine j_storeN 0 rfl rfl rfl rfl rfl rfl rfl rfl rfl rfl rfl ?_) | (refine j_kGuard rfl ?_; first | (refine (j_if rfl rfl rfl (fun hb => ?_) (fun hb => ?_)) <;> first | (exfalso; omega) | skip) | (refine (j_ifn rfl rfl rfl (fun hb => ?_) (fun hb => ?_)) <;> first | (exfalso; omega) | skip)) | refine j_alloc rfl rfl rfl rfl rfl (fun _ => ?_))
      | refine j_nil ?_
      | (refine r_go ?_; first | refine run_seq ?_ | refine run_region ?_ | refine run_cond_t rfl ?_ | refine run_cond_f rfl ?_ | (refine (run_if rfl (fun hb => ?_) (fun hb => ?_)) <;> first | (exfalso; omega) | skip) | refine run_block ?_ | refine run_ret ?_ | refine run_exit ?_ | refine run_skip ?_ | refine run_regionD (by kernel_rfl) ?_)
      | refine seqQ_normal ?_ | refine seqQ_ret ?_ | refine seqQ_exit ?_ | refine blockQ_normal ?_ | refine blockQ_ret ?_ | refine blockQ_eq ?_ | refine loopQ_ret ?_ | refine loopQ_exit ?_)
    all_goals try simp only [e, cmp3_ge] at hb
    all_goals first
      | exact loopQ_nextD (k + 1) ⟨by omega, ⟨by rw [sumF_succ Group.count (by omega)]; (try simp only); omega, all_step kq (fun _ => ⟨⟨by assumption, by assumption, by omega⟩, fun _ => by first | exact Classical.byContradiction hb | omega⟩)⟩⟩ (by omega) (by first | exact List.Sublist.refl _ | exact sub1 | exact sub2 | exact sub3) ⟨rfl, rfl, (by first | rfl | (rw [sumF_succ Group.count (by omega)]; exact si (by (try simp only); omega)) | exact si (by omega)), rfl, rfl, nx _, trivial⟩
      | exact end1 rfl (by first | exact List.Sublist.refl _ | exact sub1 | exact sub2 | exact sub3) (rbF (fun q => by first
          | exact hb (q.2.2.1 k (by omega)).1.1
          | exact hb (q.2.2.1 k (by omega)).1.2.1
          | exact hb ((q.2.2.1 k (by omega)).2 (by omega))
          | (have hk : k < c.groups.length := by omega
             have := q.upto hk; omega))) (.inl rfl)
      | exact end1 rfl (by first | exact List.Sublist.refl _ | exact sub1 | exact sub2 | exact sub3) (rbT (⟨h0, by omega, fun i h => kq i h (by omega), by have := ks.2; rw [List.take_of_length_le (by omega)] at this; exact this⟩)) (.inl rfl)
      | trace_state


end Go.Proofs.YtbhiaccbpbnbmaaGreat

/-
  Colonies: what CountCells and CountObject of the reference and of the program compute. No condition.
-/
namespace Go.Proofs.YtbhiaccbpbnbmaaGreat
open Go.AI
set_option maxRecDepth 8000
set_option maxHeartbeats 1600000

theorem c_l07Asked (d : Division) (c : Colony) : Gives Tryz.prog 24 [.ip (encDivision d), .ip (encColony c)] (.int (cd2 d.Valid (c.Ok d.objects))) := by
  refine fn_of_run tyOk ztOk mix Tryz.func24 rfl (by decide) Tryz.ntmps24 (fun w0 h => ?_)
  repeat' (first
      | (refine j_go ?_; first
        | refine j_op0 rfl rfl rfl rfl ?_ | (refine j_kCall rfl rfl rfl rfl ?_; first | refine jc (c_l07Ok _) (LeL.refl _) rfl rfl ?_))
      | refine j_nil ?_
      | (refine r_go ?_; first | refine run_seq ?_ | refine run_region ?_ | (refine (run_ifn rfl (fun hb => ?_) (fun hb => ?_)) <;> first | (exfalso; omega) | skip) | refine run_ret ?_ | refine run_skip ?_)
      | refine seqQ_normal ?_ | refine seqQ_ret ?_)
  · exact end1 rfl (List.Sublist.refl _) (ai (cd2_f hb).symm) (.inl rfl)
  · have hv := hb
    repeat' (first
      | (refine j_go ?_; first
        | refine j_op0 rfl rfl rfl rfl ?_ | (refine j_kCall rfl rfl rfl rfl ?_; first | refine jc (c_l07Colony _ _ hv.1) (LeL.refl _) rfl rfl ?_))
      | refine j_nil ?_
      | (refine r_go ?_; first | refine run_seq ?_ | refine run_region ?_ | (refine (run_ifn rfl (fun hb => ?_) (fun hb => ?_)) <;> first | (exfalso; omega) | skip) | refine run_ret ?_ | refine run_skip ?_)
      | refine seqQ_normal ?_ | refine seqQ_ret ?_)
    · exact end1 rfl (List.Sublist.refl _) (ai (cd2_t hv hb).symm) (.inl rfl)
    · exact end1 rfl (List.Sublist.refl _) (ai (cd2_o hv hb).symm) (.inl rfl)

theorem c_colonyCode (d : Division) (c : Colony) : Gives Tryz.prog 22 [.agg (encDivision d), .agg (encColony c)] (.int (cd2 d.Valid (c.Ok d.objects))) := by
  refine fn_of_run tyOk ztOk mix Tryz.func22 rfl (by decide) Tryz.ntmps22 (fun w0 h => ?_)
  repeat' (first
      | (refine j_go ?_; first
        | refine j_op0 rfl rfl rfl rfl ?_ | (refine j_kCall rfl rfl rfl rfl ?_; first | refine jc (c_iValidDivision _) (LeL.refl _) rfl rfl ?_) | refine j_box rfl rfl rfl rfl rfl rfl ?_)
      | refine j_nil ?_
      | (refine r_go ?_; first | refine run_seq ?_ | refine run_region ?_ | (refine (run_ifn rfl (fun hb => ?_) (fun hb => ?_)) <;> first | (exfalso; omega) | skip) | refine run_block ?_ | refine run_ret ?_)
      | refine seqQ_normal ?_ | refine seqQ_ret ?_ | refine blockQ_ret ?_)
  · exact end1 rfl (List.Sublist.refl _) (ai (cd2_f hb).symm) (.inl rfl)
  · have hv := hb
    repeat' (first
      | (refine j_go ?_; first
        | refine j_op0 rfl rfl rfl rfl ?_ | (refine j_kCall rfl rfl rfl rfl ?_; first | refine jc (c_isColony _ _ hv.1) (LeL.refl _) rfl rfl ?_))
      | refine j_nil ?_
      | (refine r_go ?_; first | refine run_seq ?_ | refine run_region ?_ | (refine (run_ifn rfl (fun hb => ?_) (fun hb => ?_)) <;> first | (exfalso; omega) | skip) | refine run_ret ?_ | refine run_skip ?_)
      | refine seqQ_normal ?_ | refine seqQ_ret ?_ | refine blockQ_normal ?_ | refine blockQ_ret ?_)
    · exact end1 rfl (List.Sublist.refl _) (ai (cd2_t hv hb).symm) (.inl rfl)
    · exact end1 rfl (List.Sublist.refl _) (ai (cd2_o hv hb).symm) (.inl rfl)

theorem Colony.Ok.cnt {o : Int} {c : Colony} (h : c.Ok o) : ∀ k, 0 ≤ sumF Group.count (c.groups.take k) ∧ sumF Group.count (c.groups.take k) ≤ 5000 := fun k =>
  ⟨sumF_nn _ _ (fun x hx => h.nn x (List.mem_of_mem_take hx)), Int.le_trans (sumF_pre _ _ _ h.nn) h.2.2.2⟩


theorem occ_bnd (x : Int) (l : List Int) : 0 ≤ occ x l ∧ occ x l ≤ l.length := by
  have := occ_take x l l.length (Nat.le_refl _)
  rw [List.take_length] at this; exact this
theorem Colony.Ok.oc {o : Int} {c : Colony} (h : c.Ok o) (x : Int) : (∀ g ∈ c.groups, 0 ≤ g.count * occ x g.contents ∧ g.count * occ x g.contents ≤ 300000) := fun g hg => by
  obtain ⟨i, hi, rfl⟩ := List.getElem_of_mem hg
  have h1 := h.upto hi
  have h2 := (h.2.2.1 i hi).1.2.1.2
  have h3 := occ_bnd x c.groups[i].contents
  have h4 : 0 ≤ c.groups[i].count * occ x c.groups[i].contents := Int.mul_nonneg (by omega) h3.1
  have h5 : c.groups[i].count * occ x c.groups[i].contents ≤ 5000 * 60 := Int.mul_le_mul (by omega) (by omega) h3.1 (by omega)
  omega
def Division.has (d : Division) (x : Int) : Prop := 0 ≤ x ∧ x ≤ d.objects - 1

open Classical in
noncomputable def cdO (p q r : Prop) : Int := if p then (if q then (if r then 0 else 2) else 2) else 1
end Go.Proofs.YtbhiaccbpbnbmaaGreat

/-
  The data of the laws' theme 2, as structures, and the helpers of the laws over them: sizes, copies, comparisons. No condition but that the sizes are at most 1048576.
-/
namespace Go.Proofs.YtbhiaccbpbnbmaaGreat
open Go.AI
set_option maxRecDepth 8000

structure Into where
  cell : Int
  bag : List Int
  deriving DecidableEq, Inhabited
/-- What its size tells of it. -/
structure OkInto (x : Into) : Prop where
  bag : x.bag.length ≤ 1048576
structure Rule where
  cell : Int
  rank : Int
  need : List Int
  have_ : List Int
  lack : List Int
  here : List Int
  out : List Int
  into : List Into
  melts : Bool
  deriving DecidableEq, Inhabited
/-- What its size tells of it. -/
structure OkRule (x : Rule) : Prop where
  need : x.need.length ≤ 1048576
  have_ : x.have_.length ≤ 1048576
  lack : x.lack.length ≤ 1048576
  here : x.here.length ≤ 1048576
  out : x.out.length ≤ 1048576
  into : x.into.length ≤ 1048576 ∧ ∀ r ∈ x.into, OkInto r
structure System where
  kinds : Int
  parents : List Int
  rules : List Rule
  deriving DecidableEq, Inhabited
/-- What its size tells of it. -/
structure OkSystem (x : System) : Prop where
  parents : x.parents.length ≤ 1048576
  rules : x.rules.length ≤ 1048576 ∧ ∀ r ∈ x.rules, OkRule r
structure State where
  alive : List Bool
  bags : List (List Int)
  around : List Int
  deriving DecidableEq, Inhabited
/-- What its size tells of it. -/
structure OkState (x : State) : Prop where
  alive : x.alive.length ≤ 1048576
  bags : x.bags.length ≤ 1048576 ∧ ∀ r ∈ x.bags, r.length ≤ 1048576
  around : x.around.length ≤ 1048576
end Go.Proofs.YtbhiaccbpbnbmaaGreat

/-
  Library functions over lists of rules and of what is put into cells: the first element of a kind. No condition.
-/
namespace Go.Proofs.YtbhiaccbpbnbmaaGreat
open Go.AI
set_option maxRecDepth 8000
set_option maxHeartbeats 1600000




end Go.Proofs.YtbhiaccbpbnbmaaGreat

/-
  Bags: what the small functions on bags of the reference and of the program compute. No condition.
-/
namespace Go.Proofs.YtbhiaccbpbnbmaaGreat
open Go.AI
set_option maxRecDepth 8000
set_option maxHeartbeats 1600000

/-- A bag for so many kinds. -/
def BagK (k : Int) (b : List Int) : Prop := Bag b ∧ (b.length : Int) = k
theorem BagK.bnd {k : Int} {b : List Int} (h : BagK k b) : 0 ≤ tot b ∧ tot b ≤ 8000 := by
  have := h.1.take b.length (Nat.le_refl _)
  have := h.1.2.2
  rw [List.take_length] at *
  unfold tot; omega







/-! #### The frame of a system -/
def System.Frame (s : System) : Prop := (1 ≤ s.kinds ∧ s.kinds ≤ 8) ∧ (1 ≤ s.parents.length ∧ s.parents.length ≤ 6) ∧ s.parents[0]? = some (-1) ∧ ∀ c (h : c < s.parents.length), 1 ≤ c → 0 ≤ s.parents[c] ∧ s.parents[c] ≤ (c : Int) - 1
theorem System.Frame.zero {s : System} (h : s.Frame) : s.parents[0]'(by have := h.2.1; omega) = -1 := by
  have h1 := h.2.2.1
  rw [List.getElem?_eq_getElem (by have := h.2.1; omega)] at h1
  exact Option.some.inj h1



/-- Cell c lies within cell o. -/
inductive Lies (ps : List Int) (o : Int) : Int → Prop
  | here {c p : Int} (h : ps[c.toNat]? = some p) (hp : 0 ≤ p) (e : p = o) : Lies ps o c
  | up {c p : Int} (h : ps[c.toNat]? = some p) (hp : 0 ≤ p) (t : Lies ps o p) : Lies ps o c
end Go.Proofs.YtbhiaccbpbnbmaaGreat

/-
  Rules and systems: what ValidRule and ValidSystem of the reference and of the program compute. No condition.
-/
namespace Go.Proofs.YtbhiaccbpbnbmaaGreat
open Go.AI
set_option maxRecDepth 8000
set_option maxHeartbeats 1600000

def System.IntoOk (s : System) (r : Rule) (x : Into) : Prop := (0 ≤ x.cell ∧ x.cell ≤ (s.parents.length : Int) - 1) ∧ Lies s.parents r.cell x.cell ∧ BagK s.kinds x.bag ∧ ¬ tot x.bag = 0
/-- A rule is right for a system. -/
def System.RuleOk (s : System) (r : Rule) : Prop := (0 ≤ r.cell ∧ r.cell ≤ (s.parents.length : Int) - 1) ∧ (0 ≤ r.rank ∧ r.rank ≤ 9) ∧ ¬ (r.melts = true ∧ r.cell = 0) ∧ (r.into.length : Int) ≤ 3 ∧
  BagK s.kinds r.need ∧ BagK s.kinds r.have_ ∧ BagK s.kinds r.lack ∧ BagK s.kinds r.here ∧ BagK s.kinds r.out ∧ ¬ tot r.need = 0 ∧
  ∀ i (h : i < r.into.length), s.IntoOk r r.into[i] ∧ (0 < i → r.into[i-1].cell < r.into[i].cell)
theorem BagK.bag {k : Int} {b : List Int} (h : BagK k b) : Small b := h.1.small



def Rule.bags (r : Rule) : List (List Int) := [r.need, r.have_, r.lack, r.here, r.out]



end Go.Proofs.YtbhiaccbpbnbmaaGreat

/-
  Systems: what ValidSystem of the reference and of the program compute. No condition.
-/
namespace Go.Proofs.YtbhiaccbpbnbmaaGreat
open Go.AI
set_option maxRecDepth 8000
set_option maxHeartbeats 1600000

/-- How many of some rules each cell has. -/
def cntR (c : Int) (rs : List Rule) : Int := sumF (fun r => one c r.cell) rs
/-- A system is right. -/
def System.Ok (s : System) : Prop := s.Frame ∧ s.rules.length ≤ 16 ∧ ∀ i (h : i < s.rules.length), s.RuleOk s.rules[i] ∧ cntR s.rules[i].cell (s.rules.take (i + 1)) ≤ 8




end Go.Proofs.YtbhiaccbpbnbmaaGreat

/-
  States: what ValidState and ParentNow of the reference and of the program compute. No condition.
-/
namespace Go.Proofs.YtbhiaccbpbnbmaaGreat
open Go.AI
set_option maxRecDepth 8000
set_option maxHeartbeats 1600000

def System.CellOk (s : System) (al : Option Bool) (b : List Int) : Prop := BagK s.kinds b ∧ (al = some true ∨ tot b ≤ 0)
/-- A state is right for a system. -/
def System.StateOk (s : System) (t : State) : Prop := t.alive.length = s.parents.length ∧ t.bags.length = s.parents.length ∧ t.alive[0]? = some true ∧ BagK s.kinds t.around ∧ ∀ i (h : i < t.bags.length), s.CellOk t.alive[i]? t.bags[i]
/-- The parent now of a cell, from p on. -/
def pnowF (ps : List Int) (al : List Bool) : Nat → Int → Int
  | 0, p => p
  | n + 1, p => if 0 ≤ p ∧ al[p.toNat]? = some false then pnowF ps al n (ps.getD p.toNat (-1)) else p
def pnow (s : System) (t : State) (c : Int) : Int := pnowF s.parents t.alive 6 (s.parents.getD c.toNat (-1))
theorem getD_get {α : Type} {l : List α} {i : Nat} {d : α} (h : i < l.length) : l.getD i d = l[i] := by simp [h]
theorem at_ {l : List Bool} {i : Nat} {h : i < l.length} (e : l[i] = true) : ¬ l[i]? = some false := by rw [List.getElem?_eq_getElem h, e]; simp


def State.Lives (t : State) (c : Int) : Prop := t.alive[c.toNat]? = some true



end Go.Proofs.YtbhiaccbpbnbmaaGreat

/-
  Steps: which rules are enabled, what the reference and the program compute. No condition.
-/
namespace Go.Proofs.YtbhiaccbpbnbmaaGreat
open Go.AI
set_option maxRecDepth 8000
set_option maxHeartbeats 1600000

def Within (a b : List Int) : Prop := ∀ i (ha : i < a.length) (hb : i < b.length), a[i] ≤ b[i]


def bagOf (t : State) (c : Int) : List Int := t.bags.getD c.toNat []
def IntoNow (s : System) (t : State) (r : Rule) (x : Into) : Prop := t.Lives x.cell ∧ pnow s t x.cell = r.cell
/-- A rule is enabled. -/
def EnP (s : System) (t : State) (r : Rule) : Prop := t.Lives r.cell ∧ Within r.need (bagOf t r.cell) ∧ Within r.have_ (bagOf t r.cell) ∧ ¬ (0 < tot r.lack ∧ Within r.lack (bagOf t r.cell)) ∧ ∀ i (h : i < r.into.length), IntoNow s t r r.into[i]
end Go.Proofs.YtbhiaccbpbnbmaaGreat

/-
  Steps: which rules are applicable, what the reference and the program compute; IsHalted. No condition.
-/
namespace Go.Proofs.YtbhiaccbpbnbmaaGreat
open Go.AI
set_option maxRecDepth 8000
set_option maxHeartbeats 1600000

open Classical in
/-- The greatest rank among those of some rules that are so and that have a cell. -/
noncomputable def bst (init : Int) (en : Rule → Prop) (c : Int) : List Rule → Int
  | [] => init
  | r :: rs => bst (if en r ∧ r.cell = c then max init r.rank else init) en c rs
/-- A rule is applicable. -/
def App (s : System) (t : State) (r : Rule) : Prop := EnP s t r ∧ ∀ x ∈ s.rules, EnP s t x → x.cell = r.cell → x.rank ≤ r.rank
end Go.Proofs.YtbhiaccbpbnbmaaGreat

/-
  Steps: the program's list of applicable rules; IsHalted. No condition.
-/
namespace Go.Proofs.YtbhiaccbpbnbmaaGreat
open Go.AI
set_option maxRecDepth 8000
set_option maxHeartbeats 1600000

end Go.Proofs.YtbhiaccbpbnbmaaGreat

/-
  States: what WeighState of the reference and of the program compute. No condition.
-/
namespace Go.Proofs.YtbhiaccbpbnbmaaGreat
open Go.AI
set_option maxRecDepth 8000
set_option maxHeartbeats 1600000

end Go.Proofs.YtbhiaccbpbnbmaaGreat

/-
  Choices: what is left of the bags; IsChoice. No condition.
-/
namespace Go.Proofs.YtbhiaccbpbnbmaaGreat
open Go.AI
set_option maxRecDepth 8000
set_option maxHeartbeats 1600000

/-- The sum of a list and another one m times. -/
def plusL (a b : List Int) (m : Int) : List Int := List.zipWith (fun x y => x + y * m) a b
theorem c_l00Own (l : List Int) (hn : l.length ≤ 1000000) : Gives Tryz.prog 52 [.sl (l.map Go.AI.encI)] (.sl (l.map Go.AI.encI)) := by
  refine fn_of_run tyOk ztOk mix Tryz.func52 rfl (by decide) Tryz.ntmps52 (fun w0 h => ?_)
  repeat' (first
      | (refine j_go ?_; first
        | refine j_op0 rfl rfl rfl rfl ?_ | (refine j_kBsl rfl ?_; first | refine j_bs0 rfl rfl rfl rfl rfl rfl ?_))
      | refine j_nil ?_
      | (refine r_go ?_; first | refine run_seq ?_ | refine run_region ?_)
      | refine seqQ_normal ?_)
  refine j_append0 (g := Go.AI.encI) l rfl rfl rfl rfl rfl rfl rfl rfl (fun _ => rfl) (fun _ _ => rfl) ⟨by omega, by omega⟩ rfl rfl (fun b' cap' => ?_)
  repeat' (first
      | (refine j_go ?_; first
        | refine j_op0 rfl rfl rfl rfl ?_)
      | refine j_nil ?_
      | (refine r_go ?_; first | refine run_ret ?_)
      | refine seqQ_normal ?_)
  refine end_view (view_freeze (g := Go.AI.encI) (z := 1) (ys := l) 0 2 rfl rfl rfl (fun _ => rfl) rfl rfl) ?_
  exact end1 rfl (List.Sublist.refl _) rfl (.inl rfl)

/-- What is left of all bags behind the first k counts. -/
def restK (s : System) (t : State) (cs : List Int) : Nat → List (List Int)
  | 0 => t.bags
  | k + 1 => (restK s t cs k).set (s.rules.getD k default).cell.toNat (plusL ((restK s t cs k).getD (s.rules.getD k default).cell.toNat []) (s.rules.getD k default).need (0 - cs.getD k 0))
/-- Counts are a choice. -/
def Ch (s : System) (t : State) (cs : List Int) : Prop := (∀ i (h : i < s.rules.length) (h2 : i < cs.length), 0 < cs[i] → App s t s.rules[i]) ∧ ∀ b ∈ restK s t cs s.rules.length, ∀ x ∈ b, 0 ≤ x
open Classical in
noncomputable def restA (s : System) (t : State) (cs : List Int) : A := if Ch s t cs then .sl ((restK s t cs s.rules.length).map (encS Go.AI.encI)) else .any (fun _ => True)
theorem Le.tup2 {a b c : A} (h : Le a c) : Le (.tup [a, b]) (.tup [c, b]) := fun S w x r => by
  cases r with
  | tup cs vs hl hr =>
    refine .tup _ vs hl (fun j hj hj' => ?_)
    cases j with
    | zero => exact h _ _ _ (hr 0 (by simp) hj')
    | succ j => exact hr (j + 1) (by simpa using hj) hj'
end Go.Proofs.YtbhiaccbpbnbmaaGreat
