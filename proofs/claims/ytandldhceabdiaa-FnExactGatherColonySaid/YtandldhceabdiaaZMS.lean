/-
  Colonies: what ValidColony of the reference and of the program compute. No condition.
-/
import Derived.Test.YtandldhceabdiaaZS7e
import Derived.Test.YtandldhceabdiaaZE2
import Derived.Test.YtandldhceabdiaaZGr
namespace Go.Proofs.Ytandldhceabdiaa
open Go.AI
set_option maxRecDepth 8000
set_option maxHeartbeats 1600000

/-- One list is ahead of another one. -/
def less : List Int → List Int → Prop
  | [], [] => False
  | [], _ :: _ => True
  | _ :: _, [] => False
  | x :: a, y :: b => x < y ∨ (x = y ∧ less a b)
theorem less_step {a b : List Int} {k : Nat} (ha : k < a.length) (hb : k < b.length) : less (a.drop k) (b.drop k) ↔ a[k] < b[k] ∨ (a[k] = b[k] ∧ less (a.drop (k + 1)) (b.drop (k + 1))) := by
  rw [List.drop_eq_getElem_cons ha, List.drop_eq_getElem_cons hb]; exact Iff.rfl
theorem less_end {a b : List Int} {k : Nat} (h : ¬ (k < a.length ∧ k < b.length)) (h1 : k ≤ a.length) (h2 : k ≤ b.length) : less (a.drop k) (b.drop k) ↔ a.length < b.length := by
  by_cases ha : k < a.length
  · have e : b.drop k = [] := List.drop_of_length_le (by omega)
    rw [List.drop_eq_getElem_cons ha, e]
    exact ⟨fun q => by simp [less] at q, fun q => by omega⟩
  · have e : a.drop k = [] := List.drop_of_length_le (by omega)
    rw [e]
    by_cases hb : k < b.length
    · rw [List.drop_eq_getElem_cons hb]
      exact ⟨fun _ => by omega, fun _ => trivial⟩
    · rw [List.drop_of_length_le (by omega)]
      exact ⟨fun q => by simp [less] at q, fun q => by omega⟩

theorem c_l07Less (a b : List Int) : Gives Try.prog 188 [.sl (a.map Go.AI.encI), .sl (b.map Go.AI.encI)] (.raw (.bool (dec (less a b)))) := by
  refine fn_of_run tyOk ztOk mix Try.func188 rfl (by decide) Try.ntmps188 (fun w0 h => ?_)
  refine run_len (t := 0) rfl (fun hl => ?_)
  refine run_len (t := 1) rfl (fun hl2 => ?_)
  rw [List.length_map] at hl hl2
  repeat' (first
      | (refine j_go ?_; first
        | refine j_op0 rfl rfl rfl rfl ?_)
      | refine j_nil ?_
      | (refine r_go ?_; first | refine run_seq ?_ | refine run_region ?_ | refine run_block ?_)
      | refine seqQ_normal ?_)
  refine run_loop (fun k : Nat => [(0, .sl (a.map Go.AI.encI)), (1, .sl (b.map Go.AI.encI)), (5, .int (k : Int))]) (fun _ => _) (fun k => k ≤ a.length ∧ (k ≤ b.length ∧ (less a b ↔ less (a.drop k) (b.drop k)))) (fun k => a.length - k) 0 ⟨rfl, rfl, rfl, trivial⟩ rfl ⟨Nat.zero_le _, by first | (intros; omega) | (simp; done) | rfl | trivial | exact ⟨by simp [sumF], by intros; omega⟩ | exact ⟨by omega, by simp⟩⟩ (fun k ⟨kl, kp⟩ => ?_)
  obtain ⟨kb, ke⟩ := kp
  repeat' (first
      | (refine j_go ?_; first
        | refine j_op0 rfl rfl rfl rfl ?_ | refine j_off rfl rfl rfl ?_ | (refine j_kIdx rfl ?_; first | refine j_idx rfl rfl rfl rfl rfl (by omega) rfl rfl rfl ?_) | (refine j_kBin rfl ?_; first | refine j_in rfl rfl ⟨by omega, by omega⟩ rfl rfl ?_) | (refine j_kLen rfl ?_; first | refine j_len rfl rfl rfl rfl rfl rfl ?_) | (refine j_kGuard rfl ?_; first | (refine (j_if rfl rfl rfl (fun hb => ?_) (fun hb => ?_)) <;> first | (exfalso; omega) | skip)))
      | refine j_nil ?_
      | (refine r_go ?_; first | refine run_seq ?_ | refine run_region ?_ | refine run_cond_f rfl ?_ | (refine (run_if rfl (fun hb => ?_) (fun hb => ?_)) <;> first | (exfalso; omega) | skip) | (refine (run_ifn rfl (fun hb => ?_) (fun hb => ?_)) <;> first | (exfalso; omega) | skip) | refine run_block ?_ | refine run_ret ?_ | refine run_exit ?_ | refine run_skip ?_ | refine run_regionD (by kernel_rfl) ?_)
      | refine seqQ_normal ?_ | refine seqQ_ret ?_ | refine seqQ_exit ?_ | refine blockQ_normal ?_ | refine blockQ_ret ?_ | refine blockQ_eq ?_ | refine loopQ_ret ?_ | refine loopQ_exit ?_)
  all_goals first
    | exact loopQ_nextD (k + 1) ⟨by omega, ⟨by omega, by rw [ke, less_step (by omega) (by omega)]; exact ⟨fun q => (q.resolve_left (by omega)).2, fun q => .inr ⟨by assumption, q⟩⟩⟩⟩ (by omega) (by first | exact List.Sublist.refl _ | exact sub1 | exact sub2 | exact sub3) ⟨rfl, rfl, nx _, trivial⟩
    | exact end1 rfl (List.Sublist.refl _) (rbD (by rw [ke, less_step (by omega) (by omega)]; exact ⟨.inl, fun q => q.elim id (fun q => absurd q.1 (by assumption))⟩)) (.inl rfl)
    | exact end1 rfl (List.Sublist.refl _) (rbD (by rw [ke, less_end (by omega) (by omega) (by omega)]; omega)) (.inl rfl)
    | trace_state

open Classical in
noncomputable def cmp3 (p q : Prop) : Int := if p then -1 else if q then 1 else 0
theorem cmp3_l {p q : Prop} (h : p) : cmp3 p q = -1 := by unfold cmp3; rw [if_pos h]
theorem cmp3_g {p q : Prop} (h : ¬p) (h2 : q) : cmp3 p q = 1 := by unfold cmp3; rw [if_neg h, if_pos h2]
theorem cmp3_e {p q : Prop} (h : ¬p) (h2 : ¬q) : cmp3 p q = 0 := by unfold cmp3; rw [if_neg h, if_neg h2]
theorem cmp3_ge {p q : Prop} : 0 ≤ cmp3 p q ↔ ¬p := by
  by_cases h : p
  · rw [cmp3_l h]; exact ⟨fun q => by omega, fun q => absurd h q⟩
  · by_cases h2 : q
    · rw [cmp3_g h h2]; exact ⟨fun _ => h, fun _ => by omega⟩
    · rw [cmp3_e h h2]; exact ⟨fun _ => h, fun _ => by omega⟩

theorem c_cmpCompare (x y : Int) : Gives Try.prog 197 [.int x, .int y] (.int (cmp3 (x < y) (y < x))) := by
  refine fn_of_run tyOk ztOk mix Try.func197 rfl (by decide) Try.ntmps197 (fun w0 h => ?_)
  repeat' (first
      | (refine j_go ?_; first
        | refine j_op0 rfl rfl rfl rfl ?_ | (refine j_kCall rfl rfl rfl rfl ?_; first | refine jc (c_isNaN _) (LeL.refl _) rfl rfl ?_))
      | refine j_nil ?_
      | (refine r_go ?_; first | refine run_seq ?_ | refine run_region ?_ | refine run_cond_f rfl ?_ | (refine (run_if rfl (fun hb => ?_) (fun hb => ?_)) <;> first | (exfalso; omega) | skip) | refine run_ret ?_ | refine run_skip ?_)
      | refine seqQ_normal ?_ | refine seqQ_ret ?_)
  all_goals first | exact end1 rfl (List.Sublist.refl _) (ai (cmp3_l (by omega)).symm) (.inl rfl) | exact end1 rfl (List.Sublist.refl _) (ai (cmp3_g (by omega) (by omega)).symm) (.inl rfl) | exact end1 rfl (List.Sublist.refl _) (ai (cmp3_e (by omega) (by omega)).symm) (.inl rfl) | trace_state

theorem c_slCompare (a b : List Int) : Gives Try.prog 198 [.sl (a.map Go.AI.encI), .sl (b.map Go.AI.encI)] (.int (cmp3 (less a b) (less b a))) := by
  refine fn_of_run tyOk ztOk mix Try.func198 rfl (by decide) Try.ntmps198 (fun w0 h => ?_)
  refine run_len (t := 0) rfl (fun hl => ?_)
  refine run_len (t := 1) rfl (fun hl2 => ?_)
  rw [List.length_map] at hl hl2
  repeat' (first
      | (refine j_go ?_; first
        | refine j_op0 rfl rfl rfl rfl ?_ | (refine j_kLen rfl ?_; first | refine j_len rfl rfl rfl rfl rfl rfl ?_))
      | refine j_nil ?_
      | (refine r_go ?_; first | refine run_seq ?_ | refine run_region ?_ | refine run_block ?_)
      | refine seqQ_normal ?_)
  refine run_loop (fun k : Nat => [(0, .sl (a.map Go.AI.encI)), (1, .sl (b.map Go.AI.encI)), (9, .sl (a.map Go.AI.encI)), (10, .int a.length), (11, .int (k : Int))]) (fun _ => _) (fun k => k ≤ a.length ∧ (k ≤ b.length ∧ (less a b ↔ less (a.drop k) (b.drop k)) ∧ (less b a ↔ less (b.drop k) (a.drop k)))) (fun k => a.length - k) 0 ⟨rfl, rfl, rfl, rfl, rfl, trivial⟩ rfl ⟨Nat.zero_le _, by first | (intros; omega) | (simp; done) | rfl | trivial | exact ⟨by simp [sumF], by intros; omega⟩ | exact ⟨by omega, by simp⟩⟩ (fun k ⟨kl, kp⟩ => ?_)
  obtain ⟨kb, ke, ke2⟩ := kp
  repeat' (first
      | (refine j_go ?_; first
        | refine j_op0 rfl rfl rfl rfl ?_ | (refine j_kIdx rfl ?_; first | refine j_idx rfl rfl rfl rfl rfl (by omega) rfl rfl rfl ?_) | (refine j_kBin rfl ?_; first | refine j_in rfl rfl ⟨by omega, by omega⟩ rfl rfl ?_) | (refine j_kLen rfl ?_; first | refine j_len rfl rfl rfl rfl rfl rfl ?_) | (refine j_kCall rfl rfl rfl rfl ?_; first | refine jc (c_cmpCompare _ _) (LeL.refl _) rfl rfl ?_))
      | refine j_nil ?_
      | (refine r_go ?_; first | refine run_seq ?_ | refine run_region ?_ | (refine (run_if rfl (fun hb => ?_) (fun hb => ?_)) <;> first | (exfalso; omega) | skip) | (refine (run_ifn rfl (fun hb => ?_) (fun hb => ?_)) <;> first | (exfalso; omega) | skip) | refine run_block ?_ | refine run_ret ?_ | refine run_exit ?_ | refine run_skip ?_)
      | refine seqQ_normal ?_ | refine seqQ_ret ?_ | refine seqQ_exit ?_ | refine blockQ_normal ?_ | refine blockQ_ret ?_ | refine blockQ_eq ?_ | refine loopQ_ret ?_ | refine loopQ_exit ?_)
  · exact end1 rfl (List.Sublist.refl _) (ai (cmp3_g (by rw [ke, less_end (by omega) (by omega) (by omega)]; omega) (by rw [ke2, less_end (by omega) (by omega) (by omega)]; omega)).symm) (.inl rfl)
  · rename_i h1 h2
    have h1' : k < a.length := by omega
    have h2' : k < b.length := by omega
    have s1 := less_step h1' h2'
    have s2 := less_step h2' h1'
    by_cases hx : a[k] < b[k]
    · exact end1 rfl (List.Sublist.refl _) (ai (by rw [cmp3_l hx, cmp3_l (by rw [ke, s1]; exact .inl hx)])) (.inl rfl)
    · by_cases hy : b[k] < a[k]
      · exact end1 rfl (List.Sublist.refl _) (ai (by rw [cmp3_g hx hy, cmp3_g (by rw [ke, s1]; omega) (by rw [ke2, s2]; exact .inl hy)])) (.inl rfl)
      · exact absurd (cmp3_e hx hy) hb
  · rename_i h1 h2
    have h1' : k < a.length := by omega
    have h2' : k < b.length := by omega
    have s1 := less_step h1' h2'
    have s2 := less_step h2' h1'
    have he : a[k] = b[k] := by
      by_cases hx : a[k] < b[k]
      · rw [cmp3_l hx] at hb; cases hb
      · by_cases hy : b[k] < a[k]
        · rw [cmp3_g hx hy] at hb; cases hb
        · omega
    exact loopQ_nextD (k + 1) ⟨by omega, ⟨by omega, by rw [ke, s1]; exact ⟨fun q => (q.resolve_left (by omega)).2, fun q => .inr ⟨he, q⟩⟩, by rw [ke2, s2]; exact ⟨fun q => (q.resolve_left (by omega)).2, fun q => .inr ⟨he.symm, q⟩⟩⟩⟩ (by omega) (by first | exact List.Sublist.refl _ | exact sub1 | exact sub2 | exact sub3) ⟨rfl, rfl, rfl, rfl, nx _, trivial⟩
  · exact end1 rfl (List.Sublist.refl _) (ai (cmp3_l (by rw [ke, less_end (by omega) (by omega) (by omega)]; omega)).symm) (.inl rfl)
  · exact end1 rfl (List.Sublist.refl _) (ai (cmp3_e (by rw [ke, less_end (by omega) (by omega) (by omega)]; omega) (by rw [ke2, less_end (by omega) (by omega) (by omega)]; omega)).symm) (.inl rfl)

/-- The first number that is not 0. -/
def orF : List Int → Int
  | [] => 0
  | x :: l => if x = 0 then orF l else x
theorem c_cmpOr (l : List Int) : Gives Try.prog 196 [.sl (l.map Go.AI.encI)] (.int (orF l)) := by
  refine fn_of_run tyOk ztOk mix Try.func196 rfl (by decide) Try.ntmps196 (fun w0 h => ?_)
  refine run_len (t := 0) rfl (fun hl => ?_)
  rw [List.length_map] at hl
  repeat' (first
      | (refine j_go ?_; first
        | refine j_op0 rfl rfl rfl rfl ?_ | (refine j_kLen rfl ?_; first | refine j_len rfl rfl rfl rfl rfl rfl ?_))
      | refine j_nil ?_
      | (refine r_go ?_; first | refine run_seq ?_ | refine run_region ?_ | refine run_block ?_)
      | refine seqQ_normal ?_)
  refine run_loop (fun k : Nat => [(3, .int 0), (6, .sl (l.map Go.AI.encI)), (7, .int l.length), (8, .int (k : Int))]) (fun _ => _) (fun k => k ≤ l.length ∧ (orF l = orF (l.drop k))) (fun k => l.length - k) 0 ⟨rfl, rfl, rfl, rfl, trivial⟩ rfl ⟨Nat.zero_le _, by first | (intros; omega) | (simp; done) | rfl | trivial | exact ⟨by simp [sumF], by intros; omega⟩ | exact ⟨by omega, by simp⟩⟩ (fun k ⟨kl, kp⟩ => ?_)
  have gn : ∀ (hk : k < l.length), orF (l.drop k) = if l[k] = 0 then orF (l.drop (k + 1)) else l[k] := fun hk => by rw [List.drop_eq_getElem_cons hk, orF]
  repeat' (first
      | (refine j_go ?_; first
        | refine j_op0 rfl rfl rfl rfl ?_ | (refine j_kIdx rfl ?_; first | refine j_idx rfl rfl rfl rfl rfl (by omega) rfl rfl rfl ?_) | (refine j_kBin rfl ?_; first | refine j_in rfl rfl ⟨by omega, by omega⟩ rfl rfl ?_))
      | refine j_nil ?_
      | (refine r_go ?_; first | refine run_seq ?_ | refine run_region ?_ | (refine (run_if rfl (fun hb => ?_) (fun hb => ?_)) <;> first | (exfalso; omega) | skip) | (refine (run_ifn rfl (fun hb => ?_) (fun hb => ?_)) <;> first | (exfalso; omega) | skip) | refine run_block ?_ | refine run_ret ?_ | refine run_exit ?_ | refine run_skip ?_)
      | refine seqQ_normal ?_ | refine seqQ_ret ?_ | refine seqQ_exit ?_ | refine blockQ_normal ?_ | refine blockQ_ret ?_ | refine blockQ_eq ?_ | refine loopQ_ret ?_ | refine loopQ_exit ?_)
  · exact end1 rfl (List.Sublist.refl _) (ai (by rw [kp, gn (by omega), if_neg hb])) (.inl rfl)
  · exact loopQ_nextD (k + 1) ⟨by omega, by rw [kp, gn (by omega), if_pos hb]⟩ (by omega) (by first | exact List.Sublist.refl _ | exact sub1 | exact sub2 | exact sub3) ⟨rfl, rfl, rfl, nx _, trivial⟩
  · exact end1 rfl (List.Sublist.refl _) (ai (by rw [kp, List.drop_of_length_le (by omega), orF])) (.inl rfl)

def Before (a b : Group) : Prop := a.charge < b.charge ∨ (a.charge = b.charge ∧ less a.contents b.contents)

theorem c_l07Before (a b : Group) : Gives Try.prog 141 [.ip (encGroup a), .ip (encGroup b)] (.raw (.bool (dec (Before a b)))) := by
  refine fn_of_run tyOk ztOk mix Try.func141 rfl (by decide) Try.ntmps141 (fun w0 h => ?_)
  repeat' (first
      | (refine j_go ?_; first
        | refine j_op0 rfl rfl rfl rfl ?_ | (refine j_kCall rfl rfl rfl rfl ?_; first | refine jc (c_l07Less _ _) (LeL.refl _) rfl rfl ?_))
      | refine j_nil ?_
      | (refine r_go ?_; first | refine run_seq ?_ | refine run_region ?_ | (refine (run_ifn rfl (fun hb => ?_) (fun hb => ?_)) <;> first | (exfalso; omega) | skip) | refine run_ret ?_ | refine run_skip ?_ | refine run_regionD (by kernel_rfl) ?_)
      | refine seqQ_normal ?_ | refine seqQ_ret ?_)
  · exact end1 rfl (List.Sublist.refl _) (rbD ⟨.inl, fun q => q.elim id (fun q => absurd q.1 hb)⟩) (.inl rfl)
  · exact end1 rfl (List.Sublist.refl _) (rbD ⟨fun q => .inr ⟨hb, q⟩, fun q => (q.resolve_left (by omega)).2⟩) (.inl rfl)

theorem c_compareGroups (a b : Group) : Gives Try.prog 155 [.agg (encGroup a), .agg (encGroup b)] (.int (cmp3 (Before a b) (Before b a))) := by
  refine fn_of_run tyOk ztOk mix Try.func155 rfl (by decide) Try.ntmps155 (fun w0 h => ?_)
  repeat' (first
      | (refine j_go ?_; first
        | refine j_op0 rfl rfl rfl rfl ?_ | (refine j_kCall rfl rfl rfl rfl ?_; first | refine jc (c_cmpCompare _ _) (LeL.refl _) rfl rfl ?_ | refine jc (c_slCompare _ _) (LeL.refl _) rfl rfl ?_ | refine jc (c_cmpOr [_, _]) (LeL.refl _) rfl rfl ?_) | (refine j_kBsl rfl ?_; first | refine j_bsl rfl rfl rfl rfl rfl rfl rfl rfl rfl rfl rfl ?_) | refine j_box rfl rfl rfl rfl rfl rfl ?_)
      | refine j_nil ?_
      | (refine r_go ?_; first | refine run_seq ?_ | refine run_region ?_ | refine run_ret ?_ | refine run_regionD (by kernel_rfl) ?_)
      | refine seqQ_normal ?_)
  refine end1 rfl (List.Sublist.refl _) (ai ?_) (.inl rfl)
  show orF [cmp3 (a.charge < b.charge) (b.charge < a.charge), cmp3 (less a.contents b.contents) (less b.contents a.contents)] = _
  rw [orF, orF, orF]
  by_cases hx : a.charge < b.charge
  · rw [cmp3_l hx, cmp3_l (show Before a b from .inl hx)]; rfl
  · by_cases hy : b.charge < a.charge
    · rw [cmp3_g hx hy, cmp3_g (show ¬ Before a b from fun q => q.elim hx (fun q => by omega)) (show Before b a from .inl hy)]; rfl
    · rw [cmp3_e hx hy, if_pos rfl]
      have he : a.charge = b.charge := by omega
      have e1 : Before a b ↔ less a.contents b.contents := ⟨fun q => (q.resolve_left hx).2, fun q => .inr ⟨he, q⟩⟩
      have e2 : Before b a ↔ less b.contents a.contents := ⟨fun q => (q.resolve_left hy).2, fun q => .inr ⟨he.symm, q⟩⟩
      rw [show Before a b = less a.contents b.contents from propext e1, show Before b a = less b.contents a.contents from propext e2]
      by_cases hz : cmp3 (less a.contents b.contents) (less b.contents a.contents) = 0
      · rw [if_pos hz, hz]
      · rw [if_neg hz]

theorem sumF_nn {α : Type} (f : α → Int) : ∀ (l : List α), (∀ x ∈ l, 0 ≤ f x) → 0 ≤ sumF f l
  | [], _ => by simp [sumF]
  | x :: l, h => by
    have h1 := h x (by simp)
    have h2 := sumF_nn f l (fun y hy => h y (by simp [hy]))
    simp only [sumF]; omega
theorem sumF_split {α : Type} (f : α → Int) : ∀ (l : List α) (k : Nat), sumF f l = sumF f (l.take k) + sumF f (l.drop k)
  | [], k => by simp [sumF]
  | x :: l, 0 => by simp [sumF]
  | x :: l, k + 1 => by simp only [List.take_succ_cons, List.drop_succ_cons, sumF]; rw [sumF_split f l k]; omega
theorem sumF_pre {α : Type} (f : α → Int) (l : List α) (k : Nat) (h : ∀ x ∈ l, 0 ≤ f x) : sumF f (l.take k) ≤ sumF f l := by
  have := sumF_nn f (l.drop k) (fun x hx => h x (List.mem_of_mem_drop hx))
  have := sumF_split f l k
  omega

/-- A colony is right for a system of so many objects. -/
def Colony.Ok (o : Int) (c : Colony) : Prop := HeapOf o c.skin 300 ∧ c.groups.length ≤ 200 ∧
  (∀ i (h : i < c.groups.length), ((-1 ≤ c.groups[i].charge ∧ c.groups[i].charge ≤ 1) ∧ HeapOf o c.groups[i].contents 60 ∧ 1 ≤ c.groups[i].count) ∧ (0 < i → Before c.groups[i-1] c.groups[i])) ∧ sumF Group.count c.groups ≤ 5000
theorem Colony.Ok.nn {o : Int} {c : Colony} (h : c.Ok o) : ∀ g ∈ c.groups, 0 ≤ g.count := fun g hg => by
  obtain ⟨i, hi, rfl⟩ := List.getElem_of_mem hg
  have := (h.2.2.1 i hi).1.2.2
  omega
theorem Colony.Ok.upto {o : Int} {c : Colony} (h : c.Ok o) {k : Nat} (hk : k < c.groups.length) : 1 ≤ c.groups[k].count ∧ 0 ≤ sumF Group.count (c.groups.take k) ∧ sumF Group.count (c.groups.take k) + c.groups[k].count ≤ 5000 := by
  have h1 := sumF_pre Group.count c.groups (k + 1) h.nn
  have h2 := sumF_succ Group.count hk
  have h3 := sumF_nn Group.count (c.groups.take k) (fun x hx => h.nn x (List.mem_of_mem_take hx))
  have h4 := h.2.2.2
  have h5 := (h.2.2.1 k hk).1.2.2
  try simp only at h1 h2 h3 h4 h5
  omega

theorem c_l07Colony (d : Division) (c : Colony) (hd : 1 ≤ d.objects ∧ d.objects ≤ 64) : Gives Try.prog 100 [.ip (encDivision d), .ip (encColony c)] (.raw (.bool (dec (c.Ok d.objects)))) := by
  refine fn_of_run tyOk ztOk mix Try.func100 rfl (by decide) Try.ntmps100 (fun w0 h => ?_)
  repeat' (first
      | (refine j_go ?_; first
        | refine j_op0 rfl rfl rfl rfl ?_ | refine j_off rfl rfl rfl ?_ | (refine j_kLen rfl ?_; first | refine j_len rfl rfl rfl rfl rfl rfl ?_) | (refine j_kCall rfl rfl rfl rfl ?_; first | refine jc (c_l07Heap _ _ _ hd) (LeL.refl _) rfl rfl ?_) | (refine j_kGuard rfl ?_; first | (refine (j_ifn rfl rfl rfl (fun hb => ?_) (fun hb => ?_)) <;> first | (exfalso; omega) | skip)))
      | refine j_nil ?_
      | (refine r_go ?_; first | refine run_seq ?_ | refine run_region ?_ | refine run_cond_t rfl ?_ | (refine (run_if rfl (fun hb => ?_) (fun hb => ?_)) <;> first | (exfalso; omega) | skip) | refine run_block ?_ | refine run_ret ?_ | refine run_skip ?_ | refine run_regionD (by kernel_rfl) ?_)
      | refine seqQ_normal ?_ | refine seqQ_ret ?_)
  · exact end1 rfl (by first | exact List.Sublist.refl _ | exact sub1 | exact sub2 | exact sub3) (rbF (fun q => hb q.1)) (.inl rfl)
  · exact end1 rfl (by first | exact List.Sublist.refl _ | exact sub1 | exact sub2 | exact sub3) (rbF (fun q => by have := q.2.1; omega)) (.inl rfl)
  · have h0 : HeapOf d.objects c.skin 300 := by assumption
    refine run_loop (fun k : Nat => [(0, .ip (encDivision d)), (1, .ip (encColony c)), (5, .int (sumF Group.count (c.groups.take k))), (6, .int (k : Int))]) (fun _ => _) (fun k => k ≤ c.groups.length ∧ ((0 ≤ sumF Group.count (c.groups.take k) ∧ sumF Group.count (c.groups.take k) ≤ 5000 * (k : Int)) ∧ ∀ i (h : i < c.groups.length), i < k → ((-1 ≤ c.groups[i].charge ∧ c.groups[i].charge ≤ 1) ∧ HeapOf d.objects c.groups[i].contents 60 ∧ 1 ≤ c.groups[i].count) ∧ (0 < i → Before c.groups[i-1] c.groups[i]))) (fun k => c.groups.length - k) 0 ⟨rfl, rfl, (by first | rfl | exact si (by first | omega | (simp; done) | (simp [sumF]; done) | (simp; omega)) | exact raw_f (by simp) | exact raw_t (by simp) | exact sa (by first | (rw [catK_zero]; rfl) | (rw [catK_zero, List.append_nil]; rfl) | (rw [catK_zero, List.append_nil]) | (rw [joinK_zero, List.append_nil]; rfl) | (rw [joinK_zero, List.append_nil]) | (simp [catK]; done))), rfl, trivial⟩ rfl ⟨Nat.zero_le _, by first | (intros; omega) | (simp; done) | rfl | trivial | exact ⟨by simp [sumF], by intros; omega⟩ | exact ⟨by omega, by simp⟩⟩ (fun k ⟨kl, kp⟩ => ?_)
    have e : ((k : Int) - 1).toNat = k - 1 := by omega
    obtain ⟨ks, kq⟩ := kp
    repeat' (first
      | (refine j_go ?_; first
        | refine j_op0 rfl rfl rfl rfl ?_ | refine j_off rfl rfl rfl ?_ | (refine j_kIdx rfl ?_; first | refine j_idx rfl rfl rfl rfl rfl (by omega) rfl rfl rfl ?_ | refine j_idxz rfl rfl rfl rfl rfl ⟨by omega, by omega⟩ rfl rfl rfl ?_) | (refine j_kBin rfl ?_; first | refine j_in rfl rfl ⟨by omega, by omega⟩ rfl rfl ?_) | (refine j_kLen rfl ?_; first | refine j_len rfl rfl rfl rfl rfl rfl ?_) | (refine j_kCall rfl rfl rfl rfl ?_; first | refine jc (c_l00In _ _ _) (LeL.refl _) rfl rfl ?_ | refine jc (c_l07Charge _) (LeL.refl _) rfl rfl ?_ | refine jc (c_l07Heap _ _ _ hd) (LeL.refl _) rfl rfl ?_ | refine jc (c_l07Before _ _) (LeL.refl _) rfl rfl ?_) | (refine j_kGuard rfl ?_; first | (refine (j_if rfl rfl rfl (fun hb => ?_) (fun hb => ?_)) <;> first | (exfalso; omega) | skip) | (refine (j_ifn rfl rfl rfl (fun hb => ?_) (fun hb => ?_)) <;> first | (exfalso; omega) | skip)))
      | refine j_nil ?_
      | (refine r_go ?_; first | refine run_seq ?_ | refine run_region ?_ | refine run_cond_t rfl ?_ | refine run_cond_f rfl ?_ | (refine (run_if rfl (fun hb => ?_) (fun hb => ?_)) <;> first | (exfalso; omega) | skip) | (refine (run_ifn rfl (fun hb => ?_) (fun hb => ?_)) <;> first | (exfalso; omega) | skip) | refine run_block ?_ | refine run_ret ?_ | refine run_exit ?_ | refine run_skip ?_ | refine run_regionD (by kernel_rfl) ?_)
      | refine seqQ_normal ?_ | refine seqQ_ret ?_ | refine seqQ_exit ?_ | refine blockQ_normal ?_ | refine blockQ_ret ?_ | refine blockQ_eq ?_ | refine loopQ_ret ?_ | refine loopQ_exit ?_)
    all_goals try simp only [e] at hb
    all_goals first
      | exact loopQ_nextD (k + 1) ⟨by omega, ⟨by rw [sumF_succ Group.count (by omega)]; (try simp only); omega, all_step kq (fun _ => ⟨⟨by assumption, by assumption, by omega⟩, fun _ => by first | assumption | omega⟩)⟩⟩ (by omega) (by first | exact List.Sublist.refl _ | exact sub1 | exact sub2 | exact sub3) ⟨rfl, rfl, (by first | rfl | (rw [sumF_succ Group.count (by omega)]; try rfl) | exact si (by omega)), nx _, trivial⟩
      | exact end1 rfl (by first | exact List.Sublist.refl _ | exact sub1 | exact sub2 | exact sub3) (rbF (fun q => by first
          | exact hb (q.2.2.1 k (by omega)).1.1
          | exact hb (q.2.2.1 k (by omega)).1.2.1
          | exact hb ((q.2.2.1 k (by omega)).2 (by omega))
          | (have hk : k < c.groups.length := by omega
             have := q.upto hk; omega))) (.inl rfl)
      | exact end1 rfl (List.Sublist.refl _) (rbD ⟨fun q => ⟨h0, by omega, fun i h => kq i h (by omega), by rw [List.take_of_length_le (by omega)] at q; exact q⟩, fun q => by rw [List.take_of_length_le (by omega)]; exact q.2.2.2⟩) (.inl rfl)
      | trace_state


theorem c_isColony (d : Division) (c : Colony) (hd : 1 ≤ d.objects ∧ d.objects ≤ 64) : Gives Try.prog 153 [.agg (encDivision d), .agg (encColony c)] (.raw (.bool (dec (c.Ok d.objects)))) := by
  refine fn_of_run tyOk ztOk mix Try.func153 rfl (by decide) Try.ntmps153 (fun w0 h => ?_)
  repeat' (first
      | (refine j_go ?_; first
        | refine j_op0 rfl rfl rfl rfl ?_ | refine j_off rfl rfl rfl ?_ | (refine j_kLen rfl ?_; first | refine j_len rfl rfl rfl rfl rfl rfl ?_) | (refine j_kCall rfl rfl rfl rfl ?_; first | refine jc (c_isHeap _ _ _ hd) (LeL.refl _) rfl rfl ?_) | (refine j_kGuard rfl ?_; first | (refine (j_ifn rfl rfl rfl (fun hb => ?_) (fun hb => ?_)) <;> first | (exfalso; omega) | skip)) | refine j_box rfl rfl rfl rfl rfl rfl ?_)
      | refine j_nil ?_
      | (refine r_go ?_; first | refine run_seq ?_ | refine run_region ?_ | refine run_cond_t rfl ?_ | (refine (run_if rfl (fun hb => ?_) (fun hb => ?_)) <;> first | (exfalso; omega) | skip) | refine run_block ?_ | refine run_ret ?_ | refine run_skip ?_)
      | refine seqQ_normal ?_ | refine seqQ_ret ?_)
  · exact end1 rfl (by first | exact List.Sublist.refl _ | exact sub1 | exact sub2 | exact sub3) (rbF (fun q => hb q.1)) (.inl rfl)
  · exact end1 rfl (by first | exact List.Sublist.refl _ | exact sub1 | exact sub2 | exact sub3) (rbF (fun q => by have := q.2.1; omega)) (.inl rfl)
  · have h0 : HeapOf d.objects c.skin 300 := by assumption
    refine run_loop (fun k : Nat => [(2, .ip (encDivision d)), (3, .ip (encColony c)), (5, .int (5000 - sumF Group.count (c.groups.take k))), (20, .sl (c.groups.map encGroup)), (21, .int c.groups.length), (22, .int (k : Int))]) (fun _ => _) (fun k => k ≤ c.groups.length ∧ ((0 ≤ sumF Group.count (c.groups.take k) ∧ sumF Group.count (c.groups.take k) ≤ 5000) ∧ ∀ i (h : i < c.groups.length), i < k → ((-1 ≤ c.groups[i].charge ∧ c.groups[i].charge ≤ 1) ∧ HeapOf d.objects c.groups[i].contents 60 ∧ 1 ≤ c.groups[i].count) ∧ (0 < i → Before c.groups[i-1] c.groups[i]))) (fun k => c.groups.length - k) 0 ⟨rfl, rfl, (by first | rfl | exact si (by first | omega | (simp; done) | (simp [sumF]; done) | (simp; omega)) | exact raw_f (by simp) | exact raw_t (by simp) | exact sa (by first | (rw [catK_zero]; rfl) | (rw [catK_zero, List.append_nil]; rfl) | (rw [catK_zero, List.append_nil]) | (rw [joinK_zero, List.append_nil]; rfl) | (rw [joinK_zero, List.append_nil]) | (simp [catK]; done))), rfl, rfl, rfl, trivial⟩ rfl ⟨Nat.zero_le _, by first | (intros; omega) | (simp; done) | rfl | trivial | exact ⟨by simp [sumF], by intros; omega⟩ | exact ⟨by omega, by simp⟩⟩ (fun k ⟨kl, kp⟩ => ?_)
    have e : ((k : Int) - 1).toNat = k - 1 := by omega
    obtain ⟨ks, kq⟩ := kp
    repeat' (first
      | (refine j_go ?_; first
        | refine j_op0 rfl rfl rfl rfl ?_ | refine j_off rfl rfl rfl ?_ | (refine j_kIdx rfl ?_; first | refine j_idx rfl rfl rfl rfl rfl (by omega) rfl rfl rfl ?_ | refine j_idxz rfl rfl rfl rfl rfl ⟨by omega, by omega⟩ rfl rfl rfl ?_) | (refine j_kBin rfl ?_; first | refine j_in rfl rfl ⟨by omega, by omega⟩ rfl rfl ?_) | (refine j_kCall rfl rfl rfl rfl ?_; first | refine jc (c_inRange _ _ _) (LeL.refl _) rfl rfl ?_ | refine jc (c_isCharge _) (LeL.refl _) rfl rfl ?_ | refine jc (c_isHeap _ _ _ hd) (LeL.refl _) rfl rfl ?_ | refine jc (c_compareGroups _ _) (LeL.refl _) rfl rfl ?_) | (refine j_kLoad rfl ?_; first | refine j_mload 0 rfl rfl rfl rfl rfl rfl rfl ?_) | (refine j_kStore rfl ?_; first | refine j_storeN 0 rfl rfl rfl rfl rfl rfl rfl rfl rfl rfl rfl ?_) | (refine j_kGuard rfl ?_; first | (refine (j_if rfl rfl rfl (fun hb => ?_) (fun hb => ?_)) <;> first | (exfalso; omega) | skip) | (refine (j_ifn rfl rfl rfl (fun hb => ?_) (fun hb => ?_)) <;> first | (exfalso; omega) | skip)) | refine j_alloc rfl rfl rfl rfl rfl (fun _ => ?_))
      | refine j_nil ?_
      | (refine r_go ?_; first | refine run_seq ?_ | refine run_region ?_ | refine run_cond_t rfl ?_ | refine run_cond_f rfl ?_ | (refine (run_if rfl (fun hb => ?_) (fun hb => ?_)) <;> first | (exfalso; omega) | skip) | refine run_block ?_ | refine run_ret ?_ | refine run_exit ?_ | refine run_skip ?_ | refine run_regionD (by kernel_rfl) ?_)
      | refine seqQ_normal ?_ | refine seqQ_ret ?_ | refine seqQ_exit ?_ | refine blockQ_normal ?_ | refine blockQ_ret ?_ | refine blockQ_eq ?_ | refine loopQ_ret ?_ | refine loopQ_exit ?_)
    all_goals try simp only [e, cmp3_ge] at hb
    all_goals first
      | exact loopQ_nextD (k + 1) ⟨by omega, ⟨by rw [sumF_succ Group.count (by omega)]; (try simp only); omega, all_step kq (fun _ => ⟨⟨by assumption, by assumption, by omega⟩, fun _ => by first | exact Classical.byContradiction hb | omega⟩)⟩⟩ (by omega) (by first | exact List.Sublist.refl _ | exact sub1 | exact sub2 | exact sub3) ⟨rfl, rfl, (by first | rfl | (rw [sumF_succ Group.count (by omega)]; exact si (by (try simp only); omega)) | exact si (by omega)), rfl, rfl, nx _, trivial⟩
      | exact end1 rfl (by first | exact List.Sublist.refl _ | exact sub1 | exact sub2 | exact sub3) (rbF (fun q => by first
          | exact hb (q.2.2.1 k (by omega)).1.1
          | exact hb (q.2.2.1 k (by omega)).1.2.1
          | exact hb ((q.2.2.1 k (by omega)).2 (by omega))
          | (have hk : k < c.groups.length := by omega
             have := q.upto hk; omega))) (.inl rfl)
      | exact end1 rfl (by first | exact List.Sublist.refl _ | exact sub1 | exact sub2 | exact sub3) (rbT (⟨h0, by omega, fun i h => kq i h (by omega), by have := ks.2; rw [List.take_of_length_le (by omega)] at this; exact this⟩)) (.inl rfl)
      | trace_state


end Go.Proofs.Ytandldhceabdiaa

/-
  Groups in memory of the call's own: stretches of them change places. No condition.
-/
namespace Go.Proofs.Ytandldhceabdiaa
open Go.AI
set_option maxRecDepth 8000
set_option maxHeartbeats 1600000

/-- A group whose contents lie in memory of the call's own. -/
structure Tri where
  g : Group
  b : Option Nat
  cap : Nat
def Tri.cs (t : Tri) : List A := [.int t.g.charge, .os t.b t.g.contents.length t.cap, .int t.g.count]
def Tri.blk (t : Tri) : Blk := ⟨t.b, 2, t.cap * 1, (t.g.contents.map Go.AI.encI).flatten⟩
abbrev grB (b : Nat) (cap : Nat) (L : List Tri) : Blk := ⟨some b, 130, cap * 3, (L.map Tri.cs).flatten⟩
section
variable {C : Cx} {n : Nat} {Q : Exit → Env → Heap → Prop} {e : Env} {h : Heap} {d : Bool} {l os : List Oper} {o : Oper} {f : Fl} {fs : List Fl} {B : List (Nat × Blk)}
/-- A group out of a list of the call's own. -/
theorem j_ldT (i m : Nat) {t : Tri} {L : List Tri} {T b p T' room dd : Nat} {x : Operand} (hw : wantE l e o = some true) (ho : o.op = .load T x) (hx : evO e x = some (.op (some b) p)) (hi : h[i]? = some ⟨some b, T', room, (L.map Tri.cs).flatten⟩)
    (hp : p = m * 3) (hm : m < L.length) (ht : L[m] = t) (hv : ∀ (t : Tri) rest, loadA C.ty T (t.cs ++ rest) = some (.agg t.cs)) (hd : o.dst = some dd) (hn : Nat.blt dd n = true) (hj : J d C n l os Q ((dd, .agg t.cs) :: e) h) : J d C n l (o :: os) Q e h :=
  j_mloadE i m (g := Tri.cs) (L := L) (z := 3) hw ho hx hi (fun _ => rfl) hp hm (fun rest => by rw [ht]; exact hv t rest) hd hn hj
theorem j_ldTO (i m : Nat) {t : Tri} {L : List Tri} {T b p T' room dd : Nat} {x : Operand} (hti : f.tight = true) (hw : wantE l e o = some true) (ho : o.op = .load T x) (hx : evO e x = some (.op (some b) p)) (hi : h[i]? = some ⟨some b, T', room, (L.map Tri.cs).flatten⟩)
    (hp : p = m * 3) (hm : m < L.length) (ht : L[m] = t) (hv : ∀ (t : Tri) rest, loadA C.ty T (t.cs ++ rest) = some (.agg t.cs)) (hd : o.dst = some dd) (hn : Nat.blt dd n = true) (hj : JO fs B C n l os Q ((dd, .agg t.cs) :: e) h) : JO (f :: fs) B C n l (o :: os) Q e h :=
  j_mloadEO i m (g := Tri.cs) (L := L) (z := 3) hti hw ho hx hi (fun _ => rfl) hp hm (fun rest => by rw [ht]; exact hv t rest) hd hn hj
end
theorem o_swapRange (b cap : Nat) (c : A) (U X M Y V : List Tri) (n N a1 a2 : Nat) (hx : X.length = n) (hy : Y.length = n) (hN : N = U.length + n + M.length + n + V.length) (h1 : a1 = U.length) (h2 : a2 = U.length + n + M.length) (hL : N ≤ 100000000) :
    Does Try.prog 261 [.os (some b) N cap, .int (a1 : Int), .int (a2 : Int), .int (n : Int), c] [grB b cap (U ++ X ++ M ++ Y ++ V)] (fun _ h' => h' = [grB b cap (U ++ Y ++ M ++ X ++ V)]) := by
  refine fn_of_runD tyOk ztOk mix Try.func261 rfl (by decide) Try.ntmps261 (fun w0 F => ?_)
  change Run _ _ _ _ _ (_ :: F)
  repeat' (first
      | (refine j_go ?_; first
        | refine j_op0 rfl rfl rfl rfl ?_)
      | refine j_nil ?_
      | (refine r_go ?_; first | refine run_seq ?_ | refine run_region ?_ | refine run_block ?_)
      | refine seqQ_normal ?_)
  refine run_loop (fun k : Nat => [(0, .os (some b) N cap), (1, .int (a1 : Int)), (2, .int (a2 : Int)), (3, .int (n : Int)), (10, .int (k : Int))]) (fun k => grB b cap (swK U X M Y V k) :: F) (fun k => k ≤ n) (fun k => n - k) 0 ⟨rfl, rfl, rfl, rfl, rfl, trivial⟩ (by rw [swK_zero]) (Nat.zero_le _) (fun k kl => ?_)
  by_cases hk : k < n
  · have sl := swK_len (U := U) (M := M) (V := V) hx hy kl
    have ex := swK_x (U := U) (M := M) (V := V) hx hy hk (by omega)
    have ey := swK_y (U := U) (M := M) (V := V) hx hy hk (by omega)
    have nx' := swK_next (U := U) (M := M) (V := V) hx hy hk
    repeat' (first
      | (refine j_go ?_; first
        | refine j_op0 rfl rfl rfl rfl ?_)
      | refine j_nil ?_
      | (refine j_goO ?_; first
        | refine j_op0O rfl rfl rfl rfl ?_ | (refine j_kIdxO rfl ?_; first | refine j_midxO rfl rfl rfl rfl rfl (by first | omega | (simp only [List.length_append, List.length_cons, List.length_nil]; omega)) rfl rfl ?_) | (refine j_kBinO rfl ?_; first | refine j_inO rfl rfl ⟨by omega, by omega⟩ rfl rfl ?_))
      | (refine r_go ?_; first | refine run_seq ?_ | refine run_region ?_ | (refine (run_if rfl (fun hb => ?_) (fun hb => ?_)) <;> first | (exfalso; omega) | skip) | refine run_block ?_ | refine run_skip ?_ | refine run_opn 3 [⟨0, true, false, 0⟩, ⟨1, true, false, 0⟩, ⟨2, true, false, 0⟩, ⟨3, true, false, 0⟩, ⟨4, false, false, 0⟩, ⟨5, false, false, 0⟩, ⟨6, false, false, 0⟩, ⟨7, false, false, 0⟩, ⟨8, true, false, 0⟩, ⟨9, true, false, 0⟩, ⟨10, true, false, 0⟩, ⟨11, true, false, 0⟩, ⟨12, true, false, 0⟩, ⟨13, true, false, 0⟩, ⟨14, true, false, 0⟩, ⟨15, true, false, 0⟩, ⟨16, true, false, 0⟩, ⟨17, true, false, 0⟩, ⟨18, true, false, 0⟩, ⟨19, true, false, 0⟩, ⟨20, true, false, 0⟩, ⟨21, false, true, 0⟩, ⟨22, true, false, 0⟩, ⟨23, false, true, 0⟩] rfl rfl (by kernel_rfl) ?_)
      | refine seqQ_normal ?_)
    refine j_ldTO 0 (U.length + n + M.length + k) (L := swK U X M Y V k) rfl rfl rfl rfl rfl (by omega) (by omega) ey (fun _ _ => loadSt rfl rfl) rfl rfl ?_
    repeat' (first
      | (refine j_goO ?_; first
        | refine j_op0O rfl rfl rfl rfl ?_ | (refine j_kIdxO rfl ?_; first | refine j_midxO rfl rfl rfl rfl rfl (by first | omega | (simp only [List.length_append, List.length_cons, List.length_nil]; omega)) rfl rfl ?_) | (refine j_kBinO rfl ?_; first | refine j_inO rfl rfl ⟨by omega, by omega⟩ rfl rfl ?_)))
    refine j_ldTO 0 (U.length + k) (L := swK U X M Y V k) rfl rfl rfl rfl rfl (by omega) (by omega) ex (fun _ _ => loadSt rfl rfl) rfl rfl ?_
    repeat' (first
      | (refine j_goO ?_; first
        | (refine j_kIdxO rfl ?_; first | refine j_midxO rfl rfl rfl rfl rfl (by first | omega | (simp only [List.length_append, List.length_cons, List.length_nil]; omega)) rfl rfl ?_)))
    refine j_storeEO 0 (U.length + k) (g := Tri.cs) (Y[k]'(by omega)) rfl rfl rfl rfl rfl rfl rfl rfl rfl rfl (fun _ => rfl) (by omega) (by omega) (fun _ hk => nomatch hk) ?_
    repeat' (first
      | (refine j_goO ?_; first
        | (refine j_kIdxO rfl ?_; first | refine j_midxO rfl rfl rfl rfl rfl (by first | omega | (simp only [List.length_append, List.length_cons, List.length_nil]; omega)) rfl rfl ?_)))
    refine j_storeEO 0 (U.length + n + M.length + k) (g := Tri.cs) (X[k]'(by omega)) rfl rfl rfl rfl rfl rfl rfl rfl rfl rfl (fun _ => rfl) (by omega) (by rw [List.length_set]; omega) (fun _ hk => nomatch hk) ?_
    rw [nx']
    repeat' (first
      | (refine j_go ?_; first
        | refine j_op0 rfl rfl rfl rfl ?_ | (refine j_kBin rfl ?_; first | refine j_in rfl rfl ⟨by omega, by omega⟩ rfl rfl ?_))
      | refine j_nil ?_
      | refine j_nilO ?_
      | (refine r_go ?_; first | refine run_region ?_)
      | refine seqQ_normal ?_ | refine blockQ_normal ?_)
    exact loopQ_next (k + 1) (by omega) (by omega) rfl ⟨rfl, rfl, rfl, rfl, nx _, trivial⟩
  · obtain rfl : k = n := by omega
    repeat' (first
      | (refine j_go ?_; first
        | refine j_op0 rfl rfl rfl rfl ?_)
      | refine j_nil ?_
      | (refine r_go ?_; first | refine run_seq ?_ | refine run_region ?_ | (refine (run_if rfl (fun hb => ?_) (fun hb => ?_)) <;> first | (exfalso; omega) | skip) | refine run_exit ?_)
      | refine seqQ_normal ?_ | refine seqQ_exit ?_ | refine blockQ_eq ?_ | refine loopQ_exit ?_)
    rw [swK_all hx hy]
    exact endD_ret (h1 := [_]) rfl .nil (Le.refl _) rfl (.inr rfl)
theorem o_rotate (b cap N m : Nat) (c : A) (hL : N ≤ 100000000) (P X Y S : List Tri) (hX : 0 < X.length) (hY : 0 < Y.length) (hm : P.length + X.length = m) (hN : P.length + X.length + Y.length + S.length = N) (a e : Nat) (ha : a = P.length) (he : e = m + Y.length) :
    Does Try.prog 253 [.os (some b) N cap, .int (a : Int), .int (m : Int), .int (e : Int), c] [grB b cap (P ++ X ++ Y ++ S)] (fun _ h' => h' = [grB b cap (P ++ Y ++ X ++ S)]) := by
  refine fn_of_runD tyOk ztOk mix Try.func253 rfl (by decide) Try.ntmps253 (fun w0 F => ?_)
  change Run _ _ _ _ _ (_ :: F)
  repeat' (first
      | (refine j_go ?_; first
        | refine j_op0 rfl rfl rfl rfl ?_ | (refine j_kBin rfl ?_; first | refine j_in rfl rfl ⟨by omega, by omega⟩ rfl rfl ?_))
      | refine j_nil ?_
      | (refine r_go ?_; first | refine run_seq ?_ | refine run_region ?_ | refine run_block ?_)
      | refine seqQ_normal ?_)
  refine run_loop (fun x : List Tri × List Tri × List Tri × List Tri => [(0, .os (some b) N cap), (2, .int (m : Int)), (4, c), (10, .int (x.2.1.length : Int)), (11, .int (x.2.2.1.length : Int))])
    (fun x => grB b cap (x.1 ++ x.2.1 ++ x.2.2.1 ++ x.2.2.2) :: F)
    (fun x => x.1 ++ x.2.2.1 ++ x.2.1 ++ x.2.2.2 = P ++ Y ++ X ++ S ∧ x.1.length + x.2.1.length = m ∧ 0 < x.2.1.length ∧ 0 < x.2.2.1.length ∧ x.1.length + x.2.1.length + x.2.2.1.length + x.2.2.2.length = N) (fun x => x.2.1.length + x.2.2.1.length) (P, X, Y, S)
    ⟨rfl, rfl, rfl, si (by dsimp only; omega), si (by dsimp only; omega), trivial⟩ rfl ⟨rfl, hm, hX, hY, hN⟩ (fun ⟨P', X', Y', S'⟩ ⟨q1, q2, q3, q4, q5⟩ => ?_)
  dsimp only at q1 q2 q3 q4 q5 ⊢
  repeat' (first
      | (refine j_go ?_; first
        | refine j_op0 rfl rfl rfl rfl ?_ | (refine j_kBin rfl ?_; first | refine j_in rfl rfl ⟨by omega, by omega⟩ rfl rfl ?_))
      | refine j_nil ?_
      | (refine r_go ?_; first | refine run_seq ?_ | refine run_region ?_ | (refine (run_if rfl (fun hb => ?_) (fun hb => ?_)) <;> first | (exfalso; omega) | skip) | (refine (run_ifn rfl (fun hb => ?_) (fun hb => ?_)) <;> first | (exfalso; omega) | skip) | refine run_block ?_ | refine run_exit ?_ | refine run_skip ?_)
      | refine seqQ_normal ?_ | refine seqQ_exit ?_ | refine blockQ_eq ?_ | refine loopQ_exit ?_)
  · have hgt : Y'.length < X'.length := by omega
    have lt1 : (X'.take Y'.length).length = Y'.length := by rw [List.length_take]; omega
    have ld1 : (X'.drop Y'.length).length = X'.length - Y'.length := List.length_drop
    have cS := o_swapRange b cap c P' (X'.take Y'.length) (X'.drop Y'.length) Y' S' Y'.length N (m - X'.length) m lt1 rfl (by omega) (by omega) (by omega) hL
    rw [List.append_assoc P', List.take_append_drop] at cS
    refine j_kCall rfl rfl rfl rfl ?_
    refine jcp F cS (List.Perm.refl _) (LeL.cons (Le.refl _) (LeL.cons (le_eqi (by omega)) (LeL.refl _))) rfl rfl (fun v h1 hR => ?_)
    subst hR
    repeat' (first
      | (refine j_go ?_; first
        | refine j_op0 rfl rfl rfl rfl ?_ | (refine j_kBin rfl ?_; first | refine j_in rfl rfl ⟨by omega, by omega⟩ rfl rfl ?_))
      | refine j_nil ?_
      | (refine r_go ?_; first | refine run_region ?_)
      | refine seqQ_normal ?_ | refine blockQ_normal ?_)
    exact loopQ_next (P' ++ Y', X'.drop Y'.length, X'.take Y'.length, S') ⟨by dsimp only; rw [← q1, List.append_assoc (P' ++ Y'), List.take_append_drop], by dsimp only; rw [List.length_append]; omega, by dsimp only; omega, by dsimp only; omega, by dsimp only; rw [List.length_append]; omega⟩ (by dsimp only; omega) rfl ⟨rfl, rfl, rfl, si (by dsimp only; omega), si (by dsimp only; omega), trivial⟩
  · have hlt : X'.length < Y'.length := by omega
    have lt1 : (Y'.take (Y'.length - X'.length)).length = Y'.length - X'.length := by rw [List.length_take]; omega
    have ld1 : (Y'.drop (Y'.length - X'.length)).length = X'.length := by rw [List.length_drop]; omega
    have cS := o_swapRange b cap c P' X' (Y'.take (Y'.length - X'.length)) (Y'.drop (Y'.length - X'.length)) S' X'.length N (m - X'.length) (m + Y'.length - X'.length) rfl ld1 (by omega) (by omega) (by omega) hL
    rw [List.append_assoc (P' ++ X'), List.take_append_drop] at cS
    refine j_kCall rfl rfl rfl rfl ?_
    refine jcp F cS (List.Perm.refl _) (LeL.cons (Le.refl _) (LeL.cons (le_eqi (by omega)) (LeL.cons (le_eqi (by omega)) (LeL.refl _)))) rfl rfl (fun v h1 hR => ?_)
    subst hR
    repeat' (first
      | (refine j_go ?_; first
        | refine j_op0 rfl rfl rfl rfl ?_ | (refine j_kBin rfl ?_; first | refine j_in rfl rfl ⟨by omega, by omega⟩ rfl rfl ?_))
      | refine j_nil ?_
      | (refine r_go ?_; first | refine run_region ?_)
      | refine seqQ_normal ?_ | refine blockQ_normal ?_)
    exact loopQ_next (P', Y'.drop (Y'.length - X'.length), Y'.take (Y'.length - X'.length), X' ++ S') ⟨by dsimp only; rw [← q1, List.append_assoc P' (Y'.take _), List.take_append_drop, List.append_assoc (P' ++ Y')], by dsimp only; omega, by dsimp only; omega, by dsimp only; omega, by dsimp only; rw [List.length_append]; omega⟩ (by dsimp only; omega) (by dsimp only; rw [← List.append_assoc]; rfl) ⟨rfl, rfl, rfl, si (by dsimp only; omega), si (by dsimp only; omega), trivial⟩
  · have heq : X'.length = Y'.length := by omega
    have cS := o_swapRange b cap c P' X' [] Y' S' X'.length N (m - X'.length) m rfl heq.symm (by simp only [List.length_nil]; omega) (by omega) (by simp only [List.length_nil]; omega) hL
    rw [List.append_nil, List.append_nil, q1] at cS
    refine j_kCall rfl rfl rfl rfl ?_
    refine jcp F cS (List.Perm.refl _) (LeL.cons (Le.refl _) (LeL.cons (le_eqi (by omega)) (LeL.refl _))) rfl rfl (fun v h1 hR => ?_)
    subst hR
    repeat' (first
      | refine j_nil ?_)
    exact endD_ret (h1 := [_]) rfl .nil (Le.refl _) rfl (.inr rfl)
end Go.Proofs.Ytandldhceabdiaa
