/-
  Steps: which rules are applicable, what the reference and the program compute; IsHalted. No condition.
-/
import Derived.Test.YtkfmjjoalkoncaaGreatZS3a
import Derived.Test.YtkfmjjoalkoncaaGreatZS2d
namespace Go.Proofs.YtkfmjjoalkoncaaGreat
open Go.AI
set_option maxRecDepth 8000
set_option maxHeartbeats 1600000

open Classical in
/-- The greatest rank among those of some rules that are so and that have a cell. -/
noncomputable def bst (init : Int) (en : Rule → Prop) (c : Int) : List Rule → Int
  | [] => init
  | r :: rs => bst (if en r ∧ r.cell = c then max init r.rank else init) en c rs
theorem bst_app {init : Int} {en : Rule → Prop} {c : Int} : ∀ (rs : List Rule) (init : Int) (r : Rule), bst init en c (rs ++ [r]) = (open Classical in if en r ∧ r.cell = c then max (bst init en c rs) r.rank else bst init en c rs)
  | [], _, _ => rfl
  | x :: rs, _, r => by simp only [List.cons_append, bst]; rw [bst_app (init := init) rs]
theorem bst_yes {init : Int} {en : Rule → Prop} {c : Int} {rs : List Rule} {k : Nat} (hk : k < rs.length) (he : en rs[k]) (hc : rs[k].cell = c) : bst init en c (rs.take (k + 1)) = max (bst init en c (rs.take k)) rs[k].rank := by
  rw [List.take_succ_eq_append_getElem hk, bst_app (init := init), if_pos ⟨he, hc⟩]
theorem bst_no {init : Int} {en : Rule → Prop} {c : Int} {rs : List Rule} {k : Nat} (hk : k < rs.length) (he : ¬ (en rs[k] ∧ rs[k].cell = c)) : bst init en c (rs.take (k + 1)) = bst init en c (rs.take k) := by
  rw [List.take_succ_eq_append_getElem hk, bst_app (init := init), if_neg he]
theorem bst_init {en : Rule → Prop} {c : Int} : ∀ (rs : List Rule) (init : Int), init ≤ bst init en c rs
  | [], _ => Int.le_refl _
  | x :: rs, init => by
    have := bst_init (en := en) (c := c) rs
    simp only [bst]
    split
    · have := this (max init x.rank); omega
    · exact this _
theorem bst_mem {en : Rule → Prop} {c : Int} : ∀ (rs : List Rule) (init : Int) (r : Rule), r ∈ rs → en r → r.cell = c → r.rank ≤ bst init en c rs
  | x :: rs, init, r, hr, he, hc => by
    simp only [bst]
    rcases List.mem_cons.1 hr with rfl | hr
    · rw [if_pos ⟨he, hc⟩]
      have := bst_init (en := en) (c := c) rs (max init r.rank); omega
    · exact bst_mem rs _ r hr he hc
theorem bst_or {en : Rule → Prop} {c : Int} : ∀ (rs : List Rule) (init : Int), bst init en c rs = init ∨ ∃ r ∈ rs, en r ∧ r.cell = c ∧ bst init en c rs = r.rank
  | [], _ => .inl rfl
  | x :: rs, init => by
    simp only [bst]
    split
    · rename_i h
      rcases bst_or (en := en) (c := c) rs (max init x.rank) with q | ⟨r, hr, h1, h2, h3⟩
      · by_cases hm : init ≤ x.rank
        · exact .inr ⟨x, by simp, h.1, h.2, by rw [q]; omega⟩
        · exact .inl (by rw [q]; omega)
      · exact .inr ⟨r, by simp [hr], h1, h2, h3⟩
    · rcases bst_or (en := en) (c := c) rs init with q | ⟨r, hr, h1, h2, h3⟩
      · exact .inl q
      · exact .inr ⟨r, by simp [hr], h1, h2, h3⟩
theorem bst_bnd {en : Rule → Prop} {c : Int} (rs : List Rule) (init : Int) (h : ∀ r ∈ rs, 0 ≤ r.rank ∧ r.rank ≤ 9) (hi : -1 ≤ init ∧ init ≤ 0) : -1 ≤ bst init en c rs ∧ bst init en c rs ≤ 9 := by
  refine ⟨by have := bst_init (en := en) (c := c) rs init; omega, ?_⟩
  rcases bst_or (en := en) (c := c) rs init with q | ⟨r, hr, _, _, q⟩
  · omega
  · have := h r hr; omega

/-- A rule is applicable. -/
def App (s : System) (t : State) (r : Rule) : Prop := EnP s t r ∧ ∀ x ∈ s.rules, EnP s t x → x.cell = r.cell → x.rank ≤ r.rank
theorem app_iff {s : System} {t : State} {init : Int} (hi : init ≤ 0) (hr : ∀ r ∈ s.rules, 0 ≤ r.rank ∧ r.rank ≤ 9) {r : Rule} (hm : r ∈ s.rules) (he : EnP s t r) : r.rank = bst init (EnP s t) r.cell s.rules ↔ App s t r := by
  constructor
  · intro e
    exact ⟨he, fun x hx h1 h2 => by rw [e]; exact bst_mem _ _ x hx h1 h2⟩
  · rintro ⟨_, h⟩
    have h1 := bst_mem s.rules init r hm he rfl
    rcases bst_or (en := EnP s t) (c := r.cell) s.rules init with q | ⟨x, hx, e1, e2, e3⟩
    · have := hr r hm; omega
    · have := h x hx e1 e2; omega

noncomputable def bstL (n : Nat) (init : Int) (en : Rule → Prop) (rs : List Rule) : List Int := (List.range n).map (fun c : Nat => bst init en (c : Int) rs)
theorem bstL_len (n : Nat) (init : Int) (en : Rule → Prop) (rs : List Rule) : (bstL n init en rs).length = n := by simp [bstL]
theorem bstL_get {n : Nat} {init : Int} {en : Rule → Prop} {rs : List Rule} {c : Nat} (h : c < (bstL n init en rs).length) : (bstL n init en rs)[c] = bst init en (c : Int) rs := by simp [bstL]
theorem bstL_nil (n : Nat) (init : Int) (en : Rule → Prop) : bstL n init en [] = List.replicate n init := by
  apply List.ext_getElem
  · simp [bstL]
  · intro i h1 h2; simp [bstL, bst]
theorem bstL_set {n : Nat} {init : Int} {en : Rule → Prop} {rs : List Rule} {k m : Nat} (hk : k < rs.length) (hm : rs[k].cell = (m : Int)) (hn : m < n) (he : en rs[k]) {v : Int} (hv : v = max (bst init en (m : Int) (rs.take k)) rs[k].rank) : (bstL n init en (rs.take k)).set m v = bstL n init en (rs.take (k + 1)) := by
  apply List.ext_getElem
  · simp [bstL]
  · intro i h1 h2
    rw [List.getElem_set, bstL_get, bstL_get]
    split
    · rename_i e; subst e; rw [hv, bst_yes hk he hm]
    · rename_i e; rw [bst_no hk (fun q => e (by have := q.2; omega))]
theorem bstL_skip {n : Nat} {init : Int} {en : Rule → Prop} {rs : List Rule} {k : Nat} (hk : k < rs.length) (he : ¬ en rs[k]) : bstL n init en (rs.take (k + 1)) = bstL n init en (rs.take k) := by
  apply List.ext_getElem
  · simp [bstL]
  · intro i h1 h2
    rw [bstL_get, bstL_get, bst_no hk (fun q => he q.1)]

theorem c_l00Max (x y : Int) : Gives Tryz.prog 90 [.int x, .int y] (.int (max x y)) := by
  refine fn_of_run tyOk ztOk mix Tryz.func90 rfl (by decide) Tryz.ntmps90 (fun w0 h => ?_)
  repeat' (first
      | (refine j_go ?_; first
        | refine j_op0 rfl rfl rfl rfl ?_)
      | refine j_nil ?_
      | (refine r_go ?_; first | refine run_seq ?_ | refine run_region ?_ | (refine (run_if rfl (fun hb => ?_) (fun hb => ?_)) <;> first | (exfalso; omega) | skip) | refine run_ret ?_ | refine run_skip ?_)
      | refine seqQ_normal ?_ | refine seqQ_ret ?_)
  all_goals exact end1 rfl (List.Sublist.refl _) (ai (by omega)) (.inl rfl)

theorem System.Ok.ranks {s : System} (h : s.Ok) : ∀ r ∈ s.rules, 0 ≤ r.rank ∧ r.rank ≤ 9 := fun r hr => by
  obtain ⟨i, hi, rfl⟩ := List.getElem_of_mem hr
  exact (h.2.2 i hi).1.2.1

noncomputable def enL (s : System) (t : State) (k : Nat) : List Bool := (s.rules.take k).map (fun r => dec (EnP s t r))
noncomputable def mixL (s : System) (t : State) (k : Nat) : List Bool := (s.rules.take k).map (fun r => dec (App s t r)) ++ (s.rules.drop k).map (fun r => dec (EnP s t r))
noncomputable def appL (s : System) (t : State) : List Bool := s.rules.map (fun r => dec (App s t r))
theorem enL_succ {s : System} {t : State} {k : Nat} (hk : k < s.rules.length) : enL s t k ++ [dec (EnP s t s.rules[k])] = enL s t (k + 1) := by
  unfold enL; rw [List.take_succ_eq_append_getElem hk, List.map_append]; rfl
theorem enL_len {s : System} {t : State} {k : Nat} (hk : k ≤ s.rules.length) : (enL s t k).length = k := by simp [enL]; omega
theorem mixL_len {s : System} {t : State} {k : Nat} (hk : k ≤ s.rules.length) : (mixL s t k).length = s.rules.length := by simp [mixL]; omega
theorem mixL_zero (s : System) (t : State) : mixL s t 0 = enL s t s.rules.length := by simp [mixL, enL]
theorem mixL_end (s : System) (t : State) : mixL s t s.rules.length = appL s t := by simp [mixL, appL]
theorem mixL_get {s : System} {t : State} {k : Nat} (hk : k < s.rules.length) : (mixL s t k)[k]'(by rw [mixL_len (by omega)]; exact hk) = dec (EnP s t s.rules[k]) := by
  unfold mixL
  rw [List.getElem_append_right (by simp; omega)]
  simp [Nat.min_eq_left (Nat.le_of_lt hk)]
theorem mixL_set {s : System} {t : State} {k : Nat} (hk : k < s.rules.length) {b : Bool} (hb : b = dec (App s t s.rules[k])) : (mixL s t k).set k b = mixL s t (k + 1) := by
  unfold mixL
  have e : ((s.rules.take k).map (fun r => dec (App s t r))).length = k := by simp; omega
  rw [List.set_append_right _ _ (by omega), e, Nat.sub_self, List.drop_eq_getElem_cons hk, List.map_cons, List.set_cons_zero, List.take_succ_eq_append_getElem hk, List.map_append, List.append_assoc, hb]
  rfl

theorem c_l03Applicable (s : System) (t : State) (hv : s.Ok) (ht : s.StateOk t) : Gives Tryz.prog 69 [.ip (encSystem s), .ip (encState t)] (.sl ((appL s t).map encB)) := by
  refine fn_of_run tyOk ztOk mix Tryz.func69 rfl (by decide) Tryz.ntmps69 (fun w0 h => ?_)
  have hl := hv.1.2.1
  have h16 := hv.2.1
  repeat' (first
      | (refine j_go ?_; first
        | refine j_op0 rfl rfl rfl rfl ?_ | (refine j_kLen rfl ?_; first | refine j_len rfl rfl rfl rfl rfl rfl ?_))
      | refine j_nil ?_
      | (refine r_go ?_; first | refine run_seq ?_ | refine run_region ?_)
      | refine seqQ_normal ?_)
  refine j_makeI (g := Go.AI.encI) 0 rfl rfl rfl rfl rfl rfl rfl rfl rfl (by omega) rfl rfl (fun b => ?_)
  repeat' (first
      | (refine j_go ?_; first
        | refine j_op0 rfl rfl rfl rfl ?_ | (refine j_kBsl rfl ?_; first | refine j_bs0 rfl rfl rfl rfl rfl rfl ?_))
      | refine j_nil ?_
      | (refine r_go ?_; first | refine run_seq ?_ | refine run_region ?_ | refine run_block ?_)
      | refine seqQ_normal ?_)
  refine run_view (view_none 4 0 rfl) ?_
  refine run_loop (fun x : Nat × Option Nat × Nat => [(0, .ip (encSystem s)), (1, .ip (encState t)), (5, .os (some b) s.parents.length s.parents.length), (6, .os x.2.1 (enL s t x.1).length x.2.2), (7, .int (x.1 : Int))]) (fun x => ⟨x.2.1, 4, x.2.2 * 1, ((enL s t x.1).map encB).flatten⟩ :: ⟨some b, 2, s.parents.length * 1, ((bstL s.parents.length 0 (EnP s t) (s.rules.take x.1)).map Go.AI.encI).flatten⟩ :: h)
      (fun x => x.1 ≤ s.rules.length) (fun x => s.rules.length - x.1) (0, none, 0) ⟨rfl, rfl, rfl, rfl, rfl, trivial⟩ (by rw [List.take_zero, bstL_nil]; rfl) (Nat.zero_le _) (fun ⟨k, ob, cp⟩ kl => ?_)
  dsimp only at kl ⊢
  have el := enL_len (t := t) kl
  by_cases hk : k < s.rules.length
  · have hr := (hv.2.2 k hk).1
    have hc := hr.1
    have hcm : s.rules[k].cell = ((s.rules[k].cell.toNat : Nat) : Int) := by omega
    have hg : (bstL s.parents.length 0 (EnP s t) (s.rules.take k))[s.rules[k].cell.toNat]'(by rw [bstL_len]; omega) = bst 0 (EnP s t) ((s.rules[k].cell.toNat : Nat) : Int) (s.rules.take k) := bstL_get _
    repeat' (first
      | (refine j_go ?_; first
        | refine j_op0 rfl rfl rfl rfl ?_ | (refine j_kIdx rfl ?_; first | refine j_idx rfl rfl rfl rfl rfl (by omega) rfl rfl rfl ?_) | (refine j_kLen rfl ?_; first | refine j_len rfl rfl rfl rfl rfl rfl ?_) | (refine j_kCall rfl rfl rfl rfl ?_; first | refine jc (c_l03Enabled _ _ _ hv ht hr) (LeL.refl _) rfl rfl ?_) | (refine j_kBsl rfl ?_; first | refine j_bsl rfl rfl rfl rfl rfl rfl rfl rfl rfl rfl rfl ?_))
      | refine j_nil ?_
      | (refine r_go ?_; first | refine run_seq ?_ | refine run_region ?_ | (refine (run_if rfl (fun hb => ?_) (fun hb => ?_)) <;> first | (exfalso; omega) | skip) | refine run_block ?_ | refine run_skip ?_)
      | refine seqQ_normal ?_)
    refine j_append 0 (g := encB) [dec (EnP s t s.rules[k])] rfl rfl rfl rfl rfl rfl rfl rfl rfl rfl rfl rfl (fun _ => rfl) (fun _ _ => rfl) ⟨by rw [el]; simp only [List.length_cons, List.length_nil]; omega, by rw [el]; simp only [List.length_cons, List.length_nil]; omega⟩ rfl rfl (fun b' cap' => ?_)
    rw [enL_succ hk]
    repeat' (first
      | (refine j_go ?_; first
        | refine j_op0 rfl rfl rfl rfl ?_ | (refine j_kBin rfl ?_; first | refine j_in rfl rfl ⟨by omega, by omega⟩ rfl rfl ?_))
      | refine j_nil ?_
      | (refine j_goO ?_; first
        | refine j_op0O rfl rfl rfl rfl ?_ | (refine j_kIdxO rfl ?_; first | refine j_midxzO rfl rfl rfl rfl rfl (by first | omega | (simp only [List.length_append, List.length_cons, List.length_nil]; omega)) rfl rfl ?_))
      | (refine r_go ?_; first | refine run_seq ?_ | refine run_region ?_ | (refine (run_if rfl (fun hb => ?_) (fun hb => ?_)) <;> first | (exfalso; omega) | skip) | refine run_skip ?_ | refine run_opn 10 [⟨0, true, false, 0⟩, ⟨1, true, false, 0⟩, ⟨2, true, false, 0⟩, ⟨3, true, false, 0⟩, ⟨4, true, false, 0⟩, ⟨5, true, false, 0⟩, ⟨6, true, false, 0⟩, ⟨7, true, false, 0⟩, ⟨8, true, false, 0⟩, ⟨9, true, false, 0⟩, ⟨10, true, false, 0⟩, ⟨11, true, false, 0⟩, ⟨12, true, false, 0⟩, ⟨13, true, false, 0⟩, ⟨14, true, false, 0⟩, ⟨15, true, false, 0⟩, ⟨16, true, false, 0⟩, ⟨17, true, false, 0⟩, ⟨18, false, true, 0⟩] rfl rfl (by kernel_rfl) ?_)
      | refine seqQ_normal ?_ | refine blockQ_normal ?_)
    · refine j_mloadEO 1 s.rules[k].cell.toNat (g := Go.AI.encI) (L := bstL s.parents.length 0 (EnP s t) (s.rules.take k)) (z := 1) rfl rfl rfl rfl rfl (fun _ => rfl) rfl (by rw [bstL_len]; omega) (fun _ => rfl) rfl rfl ?_
      rw [hg]
      repeat' (first
      | (refine j_goO ?_; first
        | refine j_op0O rfl rfl rfl rfl ?_ | (refine j_kIdxO rfl ?_; first | refine j_midxzO rfl rfl rfl rfl rfl (by first | omega | (simp only [List.length_append, List.length_cons, List.length_nil]; omega)) rfl rfl ?_) | (refine j_kCallO rfl rfl rfl rfl ?_; first | refine jcO (c_l00Max _ _) (LeL.refl _) rfl rfl ?_)))
      refine j_storeEO 1 s.rules[k].cell.toNat (g := Go.AI.encI) (max (bst 0 (EnP s t) ((s.rules[k].cell.toNat : Nat) : Int) (s.rules.take k)) s.rules[k].rank) rfl rfl rfl rfl rfl rfl rfl rfl rfl rfl (fun _ => rfl) rfl (by rw [bstL_len]; omega) (fun _ hk => nomatch hk) ?_
      rw [bstL_set hk hcm (by omega) (by assumption) rfl]
      repeat' (first
      | (refine j_go ?_; first
        | refine j_op0 rfl rfl rfl rfl ?_ | (refine j_kBin rfl ?_; first | refine j_in rfl rfl ⟨by omega, by omega⟩ rfl rfl ?_))
      | refine j_nil ?_
      | refine j_nilO ?_
      | (refine r_go ?_; first | refine run_region ?_)
      | refine seqQ_normal ?_ | refine blockQ_normal ?_)
      exact loopQ_next (k + 1, b', cap') (by dsimp only; omega) (by dsimp only; omega) rfl ⟨rfl, rfl, rfl, rfl, nx _, trivial⟩
    · exact loopQ_next (k + 1, b', cap') (by dsimp only; omega) (by dsimp only; omega) (by dsimp only; rw [bstL_skip hk (by assumption)]; rfl) ⟨rfl, rfl, rfl, rfl, nx _, trivial⟩
  · have hke : k = s.rules.length := by omega
    subst hke
    repeat' (first
      | (refine j_go ?_; first
        | refine j_op0 rfl rfl rfl rfl ?_ | (refine j_kLen rfl ?_; first | refine j_len rfl rfl rfl rfl rfl rfl ?_))
      | refine j_nil ?_
      | (refine r_go ?_; first | refine run_seq ?_ | refine run_region ?_ | (refine (run_if rfl (fun hb => ?_) (fun hb => ?_)) <;> first | (exfalso; omega) | skip) | refine run_block ?_ | refine run_exit ?_)
      | refine seqQ_normal ?_ | refine seqQ_exit ?_ | refine blockQ_eq ?_ | refine loopQ_exit ?_)
    refine run_loop (fun j : Nat => [(0, .ip (encSystem s)), (5, .os (some b) s.parents.length s.parents.length), (6, .os ob (mixL s t j).length cp), (10, .int (j : Int))]) (fun j => ⟨ob, 4, cp * 1, ((mixL s t j).map encB).flatten⟩ :: ⟨some b, 2, s.parents.length * 1, ((bstL s.parents.length 0 (EnP s t) (s.rules.take s.rules.length)).map Go.AI.encI).flatten⟩ :: h)
      (fun j => j ≤ s.rules.length) (fun j => s.rules.length - j) 0 ⟨rfl, rfl, (by rw [mixL_zero]; rfl), rfl, trivial⟩ (by rw [mixL_zero]) (Nat.zero_le _) (fun j jl => ?_)
    have ml := mixL_len (t := t) jl
    by_cases hj : j < s.rules.length
    · have hr := (hv.2.2 j hj).1
      have hc := hr.1
      have hcm : s.rules[j].cell = ((s.rules[j].cell.toNat : Nat) : Int) := by omega
      have hg : (bstL s.parents.length 0 (EnP s t) (s.rules.take s.rules.length))[s.rules[j].cell.toNat]'(by rw [bstL_len]; omega) = bst 0 (EnP s t) s.rules[j].cell s.rules := by rw [bstL_get, ← hcm, List.take_length]
      have bb := bst_bnd (en := EnP s t) (c := s.rules[j].cell) s.rules 0 hv.ranks ⟨by omega, by omega⟩
      have hne : ((mixL s t j).map encB).flatten ≠ [] := fun q => by
        have h3 : (((mixL s t j).map encB).flatten).length = 0 := by rw [q]; rfl
        rw [flat_len (f := encB) (z := 1) (fun _ => rfl), ml] at h3
        omega
      refine run_some 0 rfl hne (fun b2 hb2 => ?_)
      subst hb2
      repeat' (first
      | (refine j_go ?_; first
        | refine j_op0 rfl rfl rfl rfl ?_ | (refine j_kLen rfl ?_; first | refine j_len rfl rfl rfl rfl rfl rfl ?_))
      | refine j_nil ?_
      | (refine j_goO ?_; first
        | refine j_op0O rfl rfl rfl rfl ?_ | (refine j_kIdxO rfl ?_; first | refine j_midxO rfl rfl rfl rfl rfl (by first | omega | (simp only [List.length_append, List.length_cons, List.length_nil]; omega)) rfl rfl ?_))
      | (refine r_go ?_; first | refine run_seq ?_ | refine run_region ?_ | (refine (run_if rfl (fun hb => ?_) (fun hb => ?_)) <;> first | (exfalso; omega) | skip) | refine run_block ?_ | refine run_skip ?_ | refine run_opn 14 [⟨0, true, false, 0⟩, ⟨1, true, false, 0⟩, ⟨2, true, false, 0⟩, ⟨3, true, false, 0⟩, ⟨4, true, false, 0⟩, ⟨5, true, false, 0⟩, ⟨6, true, false, 0⟩, ⟨7, true, false, 0⟩, ⟨8, true, false, 0⟩, ⟨9, true, false, 0⟩, ⟨10, true, false, 0⟩, ⟨11, true, false, 0⟩, ⟨12, true, false, 0⟩, ⟨13, true, false, 0⟩, ⟨14, true, false, 0⟩, ⟨15, true, false, 0⟩, ⟨16, true, false, 0⟩, ⟨17, true, false, 0⟩, ⟨18, true, false, 0⟩, ⟨19, true, false, 0⟩, ⟨20, true, false, 0⟩, ⟨21, true, false, 0⟩, ⟨22, true, false, 0⟩, ⟨23, true, false, 0⟩, ⟨24, true, false, 0⟩, ⟨25, true, false, 0⟩, ⟨26, true, false, 0⟩, ⟨27, true, false, 0⟩, ⟨28, true, false, 0⟩, ⟨29, false, true, 0⟩] rfl rfl (by kernel_rfl) ?_)
      | refine seqQ_normal ?_)
      refine j_mloadEO 0 j (g := encB) (L := mixL s t j) (z := 1) rfl rfl rfl rfl rfl (fun _ => rfl) rfl (by omega) (fun _ => rfl) rfl rfl ?_
      rw [mixL_get hj]
      repeat' (first
      | (refine j_goO ?_; first
        | refine j_op0O rfl rfl rfl rfl ?_ | refine j_offO rfl rfl rfl ?_ | (refine j_kIdxO rfl ?_; first | refine j_idxO rfl rfl rfl rfl rfl (by omega) rfl rfl rfl ?_ | refine j_midxO rfl rfl rfl rfl rfl (by first | omega | (simp only [List.length_append, List.length_cons, List.length_nil]; omega)) rfl rfl ?_ | refine j_midxzO rfl rfl rfl rfl rfl (by first | omega | (simp only [List.length_append, List.length_cons, List.length_nil]; omega)) rfl rfl ?_) | (refine j_kGuardO rfl ?_; first | (refine (j_ifO rfl rfl rfl (fun hb => ?_) (fun hb => ?_)) <;> first | (exfalso; omega) | skip))))
      · have he : EnP s t s.rules[j] := by assumption
        refine j_mloadEO 1 s.rules[j].cell.toNat (g := Go.AI.encI) (L := bstL s.parents.length 0 (EnP s t) (s.rules.take s.rules.length)) (z := 1) rfl rfl rfl rfl rfl (fun _ => rfl) rfl (by rw [bstL_len]; omega) (fun _ => rfl) rfl rfl ?_
        rw [hg]
        repeat' (first
      | (refine j_goO ?_; first
        | refine j_op0O rfl rfl rfl rfl ?_ | (refine j_kIdxO rfl ?_; first | refine j_midxO rfl rfl rfl rfl rfl (by first | omega | (simp only [List.length_append, List.length_cons, List.length_nil]; omega)) rfl rfl ?_)))
        refine j_storeEO 0 j (g := encB) (dec (s.rules[j].rank = bst 0 (EnP s t) s.rules[j].cell s.rules)) rfl rfl rfl rfl rfl rfl rfl rfl rfl rfl (fun _ => rfl) rfl (by omega) (fun _ hk => nomatch hk) ?_
        rw [mixL_set hj (dec_congr (app_iff (by omega) hv.ranks (List.getElem_mem hj) he))]
        repeat' (first
      | (refine j_go ?_; first
        | refine j_op0 rfl rfl rfl rfl ?_ | (refine j_kBin rfl ?_; first | refine j_in rfl rfl ⟨by omega, by omega⟩ rfl rfl ?_))
      | refine j_nil ?_
      | refine j_nilO ?_
      | (refine r_go ?_; first | refine run_region ?_)
      | refine seqQ_normal ?_ | refine blockQ_normal ?_)
        exact loopQ_next (j + 1) (by omega) (by omega) rfl ⟨rfl, rfl, (by rw [ml, ← mixL_len (t := t) (show j + 1 ≤ s.rules.length by omega)]; rfl), nx _, trivial⟩
      · refine j_storeEO 0 j (g := encB) false rfl rfl rfl rfl rfl rfl rfl rfl rfl rfl (fun _ => rfl) rfl (by omega) (fun _ hk => nomatch hk) ?_
        rw [mixL_set hj (dec_f (fun q => absurd q.1 (by assumption))).symm]
        repeat' (first
      | (refine j_go ?_; first
        | refine j_op0 rfl rfl rfl rfl ?_ | (refine j_kBin rfl ?_; first | refine j_in rfl rfl ⟨by omega, by omega⟩ rfl rfl ?_))
      | refine j_nil ?_
      | refine j_nilO ?_
      | (refine r_go ?_; first | refine run_region ?_)
      | refine seqQ_normal ?_ | refine blockQ_normal ?_)
        exact loopQ_next (j + 1) (by omega) (by omega) rfl ⟨rfl, rfl, (by rw [ml, ← mixL_len (t := t) (show j + 1 ≤ s.rules.length by omega)]; rfl), nx _, trivial⟩
    · have hje : j = s.rules.length := by omega
      subst hje
      repeat' (first
      | (refine j_go ?_; first
        | refine j_op0 rfl rfl rfl rfl ?_ | (refine j_kLen rfl ?_; first | refine j_len rfl rfl rfl rfl rfl rfl ?_))
      | refine j_nil ?_
      | (refine r_go ?_; first | refine run_seq ?_ | refine run_region ?_ | (refine (run_if rfl (fun hb => ?_) (fun hb => ?_)) <;> first | (exfalso; omega) | skip) | refine run_ret ?_ | refine run_exit ?_)
      | refine seqQ_normal ?_ | refine seqQ_exit ?_ | refine blockQ_eq ?_ | refine loopQ_exit ?_)
      refine end_view (view_freeze (g := encB) (z := 1) (ys := mixL s t s.rules.length) 0 4 rfl rfl rfl (fun _ => rfl) rfl rfl) ?_
      exact end1 rfl sub1 (by rw [mixL_end]) (.inl rfl)

end Go.Proofs.YtkfmjjoalkoncaaGreat

/-
  Steps: the program's list of applicable rules; IsHalted. No condition.
-/
namespace Go.Proofs.YtkfmjjoalkoncaaGreat
open Go.AI
set_option maxRecDepth 8000
set_option maxHeartbeats 1600000

theorem rep_set {α : Type} {a z : α} {m k : Nat} (hk : k < m) : (List.replicate k a ++ List.replicate (m - k) z).set k a = List.replicate (k + 1) a ++ List.replicate (m - (k + 1)) z := by
  have e : m - k = (m - (k + 1)) + 1 := by omega
  rw [e, List.replicate_succ, List.set_append_right _ _ (by simp), List.length_replicate, Nat.sub_self, List.set_cons_zero, List.replicate_succ' (n := k), List.append_assoc]
  rfl

noncomputable def idxL (s : System) (t : State) (k : Nat) : List Int := ((List.range k).filter (fun i => dec (∃ h : i < s.rules.length, App s t s.rules[i]))).map (fun i : Nat => (i : Int))
theorem idxL_yes {s : System} {t : State} {k : Nat} (hk : k < s.rules.length) (ha : App s t s.rules[k]) : idxL s t k ++ [(k : Int)] = idxL s t (k + 1) := by
  unfold idxL
  rw [List.range_succ, List.filter_append, List.map_append, List.filter_cons_of_pos (by exact dec_t ⟨hk, ha⟩)]
  rfl
theorem idxL_no {s : System} {t : State} {k : Nat} (hk : k < s.rules.length) (ha : ¬ App s t s.rules[k]) : idxL s t k = idxL s t (k + 1) := by
  unfold idxL
  rw [List.range_succ, List.filter_append, List.map_append, List.filter_cons_of_neg (by rw [dec_f (fun ⟨_, q⟩ => ha q)]; simp)]
  simp
theorem idxL_len (s : System) (t : State) (k : Nat) : (idxL s t k).length ≤ k := by
  unfold idxL
  rw [List.length_map]
  exact Nat.le_trans (List.length_filter_le _ _) (by simp)
theorem idxL_mem {s : System} {t : State} {k : Nat} {x : Int} : x ∈ idxL s t k ↔ ∃ i : Nat, x = (i : Int) ∧ i < k ∧ ∃ h : i < s.rules.length, App s t s.rules[i] := by
  unfold idxL
  simp only [List.mem_map, List.mem_filter, List.mem_range]
  constructor
  · rintro ⟨i, ⟨h1, h2⟩, rfl⟩
    exact ⟨i, rfl, h1, dec_iff.1 h2⟩
  · rintro ⟨i, rfl, h1, h2⟩
    exact ⟨i, ⟨h1, dec_iff.2 h2⟩, rfl⟩

theorem c_applicable (s : System) (t : State) (hv : s.Ok) (ht : s.StateOk t) : Gives Tryz.prog 27 [.agg (encSystem s), .agg (encState t)] (.sl ((idxL s t s.rules.length).map Go.AI.encI)) := by
  refine fn_of_run tyOk ztOk mix Tryz.func27 rfl (by decide) Tryz.ntmps27 (fun w0 h => ?_)
  have hl := hv.1.2.1
  have h16 := hv.2.1
  repeat' (first
      | (refine j_go ?_; first
        | refine j_op0 rfl rfl rfl rfl ?_ | (refine j_kStore rfl ?_; first | refine j_storeN 0 rfl rfl rfl rfl rfl rfl rfl rfl rfl rfl rfl ?_) | refine j_box rfl rfl rfl rfl rfl rfl ?_ | refine j_buildA rfl rfl rfl rfl rfl rfl rfl ?_ | refine j_alloc rfl rfl rfl rfl rfl (fun _ => ?_))
      | refine j_nil ?_
      | (refine r_go ?_; first | refine run_seq ?_ | refine run_region ?_ | refine run_block ?_)
      | refine seqQ_normal ?_)
  rename_i b
  refine run_loop (fun k : Nat => [(2, .ip (encSystem s)), (3, .ip (encState t)), (5, .op (some b) 0), (13, .int (k : Int))]) (fun k => ⟨some b, 98, 6, ((List.replicate k (-1) ++ List.replicate (6 - k) 0).map Go.AI.encI).flatten⟩ :: h)
    (fun k => k ≤ 6) (fun k => 6 - k) 0 ⟨rfl, rfl, rfl, rfl, trivial⟩ rfl (by omega) (fun k kl => ?_)
  by_cases hk : k < 6
  · repeat' (first
      | (refine j_go ?_; first
        | refine j_op0 rfl rfl rfl rfl ?_ | (refine j_kIdx rfl ?_; first | refine j_aidx rfl rfl rfl rfl rfl (by omega) rfl rfl ?_))
      | refine j_nil ?_
      | (refine r_go ?_; first | refine run_seq ?_ | refine run_region ?_ | (refine (run_if rfl (fun hb => ?_) (fun hb => ?_)) <;> first | (exfalso; omega) | skip) | refine run_block ?_ | refine run_skip ?_)
      | refine seqQ_normal ?_)
    refine j_storeE 0 k (g := Go.AI.encI) (-1) rfl rfl rfl rfl rfl rfl rfl rfl rfl (fun _ => rfl) (by omega) (by simp; omega) ?_
    rw [rep_set hk]
    repeat' (first
      | (refine j_go ?_; first
        | refine j_op0 rfl rfl rfl rfl ?_ | (refine j_kBin rfl ?_; first | refine j_in rfl rfl ⟨by omega, by omega⟩ rfl rfl ?_))
      | refine j_nil ?_
      | (refine r_go ?_; first | refine run_region ?_)
      | refine seqQ_normal ?_ | refine blockQ_normal ?_)
    exact loopQ_next (k + 1) (by omega) (by omega) rfl ⟨rfl, rfl, rfl, nx _, trivial⟩
  have hk6 : k = 6 := by omega
  subst hk6
  repeat' (first
      | (refine j_go ?_; first
        | refine j_op0 rfl rfl rfl rfl ?_ | (refine j_kLen rfl ?_; first | refine j_len rfl rfl rfl rfl rfl rfl ?_))
      | refine j_nil ?_
      | (refine r_go ?_; first | refine run_seq ?_ | refine run_region ?_ | (refine (run_if rfl (fun hb => ?_) (fun hb => ?_)) <;> first | (exfalso; omega) | skip) | refine run_block ?_ | refine run_exit ?_)
      | refine seqQ_normal ?_ | refine seqQ_exit ?_ | refine blockQ_eq ?_ | refine loopQ_exit ?_)
  refine run_loop (fun k : Nat => [(2, .ip (encSystem s)), (3, .ip (encState t)), (5, .op (some b) 0), (20, .sl (s.rules.map encRule)), (21, .int s.rules.length), (22, .int (k : Int))]) (fun k => ⟨some b, 98, 6, ((bstL 6 (-1) (EnP s t) (s.rules.take k)).map Go.AI.encI).flatten⟩ :: h)
    (fun k => k ≤ s.rules.length) (fun k => s.rules.length - k) 0 ⟨rfl, rfl, rfl, rfl, rfl, rfl, trivial⟩ (by rw [List.take_zero, bstL_nil]; rfl) (by omega) (fun k kl => ?_)
  by_cases hk : k < s.rules.length
  · have hr := (hv.2.2 k hk).1
    have hc := hr.1
    have hcm : s.rules[k].cell = ((s.rules[k].cell.toNat : Nat) : Int) := by omega
    have hg : (bstL 6 (-1) (EnP s t) (s.rules.take k))[s.rules[k].cell.toNat]'(by rw [bstL_len]; omega) = bst (-1) (EnP s t) ((s.rules[k].cell.toNat : Nat) : Int) (s.rules.take k) := bstL_get _
    repeat' (first
      | (refine j_go ?_; first
        | refine j_op0 rfl rfl rfl rfl ?_ | (refine j_kIdx rfl ?_; first | refine j_idx rfl rfl rfl rfl rfl (by omega) rfl rfl rfl ?_) | (refine j_kBin rfl ?_; first | refine j_in rfl rfl ⟨by omega, by omega⟩ rfl rfl ?_) | (refine j_kCall rfl rfl rfl rfl ?_; first | refine jc (c_isEnabled _ _ _ hv ht hr) (LeL.refl _) rfl rfl ?_) | (refine j_kLoad rfl ?_; first | refine j_mload 0 rfl rfl rfl rfl rfl rfl rfl ?_) | (refine j_kStore rfl ?_; first | refine j_storeN 0 rfl rfl rfl rfl rfl rfl rfl rfl rfl rfl rfl ?_) | refine j_alloc rfl rfl rfl rfl rfl (fun _ => ?_))
      | refine j_nil ?_
      | (refine j_goO ?_; first
        | refine j_op0O rfl rfl rfl rfl ?_ | (refine j_kIdxO rfl ?_; first | refine j_aidxzO rfl rfl rfl rfl rfl (by omega) rfl rfl ?_) | (refine j_kLoadO rfl ?_; first | refine j_mloadO 0 rfl rfl rfl rfl rfl rfl rfl rfl ?_))
      | (refine r_go ?_; first | refine run_seq ?_ | refine run_region ?_ | (refine (run_if rfl (fun hb => ?_) (fun hb => ?_)) <;> first | (exfalso; omega) | skip) | refine run_block ?_ | refine run_skip ?_ | refine run_opn 11 [⟨0, true, false, 0⟩, ⟨1, true, false, 0⟩, ⟨2, true, false, 0⟩, ⟨3, true, false, 0⟩, ⟨4, true, false, 0⟩, ⟨5, true, false, 0⟩, ⟨6, true, false, 0⟩, ⟨7, true, false, 0⟩, ⟨8, true, false, 0⟩, ⟨9, true, false, 0⟩, ⟨10, false, true, 0⟩] rfl rfl (by kernel_rfl) ?_)
      | refine seqQ_normal ?_ | refine blockQ_normal ?_)
    · refine j_mloadEO 1 s.rules[k].cell.toNat (g := Go.AI.encI) (L := bstL 6 (-1) (EnP s t) (s.rules.take k)) (z := 1) rfl rfl rfl rfl rfl (fun _ => rfl) (by omega) (by rw [bstL_len]; omega) (fun _ => rfl) rfl rfl ?_
      rw [hg]
      repeat' (first
      | (refine j_goO ?_; first
        | refine j_op0O rfl rfl rfl rfl ?_ | (refine j_kIdxO rfl ?_; first | refine j_aidxzO rfl rfl rfl rfl rfl (by omega) rfl rfl ?_) | (refine j_kLoadO rfl ?_; first | refine j_mloadO 0 rfl rfl rfl rfl rfl rfl rfl rfl ?_)))
      refine j_storeEO 1 s.rules[k].cell.toNat (g := Go.AI.encI) (max (bst (-1) (EnP s t) ((s.rules[k].cell.toNat : Nat) : Int) (s.rules.take k)) s.rules[k].rank) rfl rfl rfl rfl rfl rfl rfl rfl rfl rfl (fun _ => rfl) (by omega) (by rw [bstL_len]; omega) (fun _ hk => nomatch hk) ?_
      rw [bstL_set hk hcm (by omega) (by assumption) rfl]
      repeat' (first
      | (refine j_go ?_; first
        | refine j_op0 rfl rfl rfl rfl ?_ | (refine j_kBin rfl ?_; first | refine j_in rfl rfl ⟨by omega, by omega⟩ rfl rfl ?_))
      | refine j_nil ?_
      | refine j_nilO ?_
      | (refine r_go ?_; first | refine run_region ?_)
      | refine seqQ_normal ?_ | refine blockQ_normal ?_)
      exact loopQ_nextD (k + 1) (by omega) (by omega) (List.sublist_cons_self _ _) ⟨rfl, rfl, rfl, rfl, rfl, nx _, trivial⟩
    · exact loopQ_nextD (k + 1) (by omega) (by omega) (by rw [bstL_skip hk (by assumption)]; exact List.sublist_cons_self _ _) ⟨rfl, rfl, rfl, rfl, rfl, nx _, trivial⟩
  have hke : k = s.rules.length := by omega
  subst hke
  repeat' (first
      | (refine j_go ?_; first
        | refine j_op0 rfl rfl rfl rfl ?_ | (refine j_kLen rfl ?_; first | refine j_len rfl rfl rfl rfl rfl rfl ?_) | (refine j_kBsl rfl ?_; first | refine j_bs0 rfl rfl rfl rfl rfl rfl ?_))
      | refine j_nil ?_
      | (refine r_go ?_; first | refine run_seq ?_ | refine run_region ?_ | (refine (run_if rfl (fun hb => ?_) (fun hb => ?_)) <;> first | (exfalso; omega) | skip) | refine run_block ?_ | refine run_exit ?_)
      | refine seqQ_normal ?_ | refine seqQ_exit ?_ | refine blockQ_eq ?_ | refine loopQ_exit ?_)
  refine run_view (view_none 2 0 rfl) ?_
  refine run_loop (fun x : Nat × Option Nat × Nat => [(2, .ip (encSystem s)), (3, .ip (encState t)), (5, .op (some b) 0), (43, .sl (s.rules.map encRule)), (44, .int s.rules.length), (9, .os x.2.1 (idxL s t x.1).length x.2.2), (45, .int (x.1 : Int))]) (fun x => ⟨x.2.1, 2, x.2.2 * 1, ((idxL s t x.1).map Go.AI.encI).flatten⟩ :: ⟨some b, 98, 6, ((bstL 6 (-1) (EnP s t) (s.rules.take s.rules.length)).map Go.AI.encI).flatten⟩ :: h)
    (fun x => x.1 ≤ s.rules.length) (fun x => s.rules.length - x.1) (0, none, 0) ⟨rfl, rfl, rfl, rfl, rfl, rfl, rfl, trivial⟩ rfl (Nat.zero_le _) (fun ⟨k, ob, cp⟩ kl => ?_)
  dsimp only at kl ⊢
  have il := idxL_len s t k
  by_cases hk : k < s.rules.length
  · have hr := (hv.2.2 k hk).1
    have hc := hr.1
    have hcm : s.rules[k].cell = ((s.rules[k].cell.toNat : Nat) : Int) := by omega
    have hg : (bstL 6 (-1) (EnP s t) (s.rules.take s.rules.length))[s.rules[k].cell.toNat]'(by rw [bstL_len]; omega) = bst (-1) (EnP s t) s.rules[k].cell s.rules := by rw [bstL_get, ← hcm, List.take_length]
    have hm : s.rules[k] ∈ s.rules := List.getElem_mem hk
    repeat' (first
      | (refine j_go ?_; first
        | refine j_op0 rfl rfl rfl rfl ?_ | (refine j_kIdx rfl ?_; first | refine j_idx rfl rfl rfl rfl rfl (by omega) rfl rfl rfl ?_ | refine j_aidxz rfl rfl rfl rfl rfl (by omega) rfl rfl ?_) | (refine j_kLoad rfl ?_; first | refine j_mload 0 rfl rfl rfl rfl rfl rfl rfl ?_) | (refine j_kStore rfl ?_; first | refine j_storeN 0 rfl rfl rfl rfl rfl rfl rfl rfl rfl rfl rfl ?_) | refine j_alloc rfl rfl rfl rfl rfl (fun _ => ?_))
      | refine j_nil ?_
      | (refine r_go ?_; first | refine run_seq ?_ | refine run_region ?_ | (refine (run_if rfl (fun hb => ?_) (fun hb => ?_)) <;> first | (exfalso; omega) | skip) | refine run_block ?_ | refine run_skip ?_ | refine run_regionD (by kernel_rfl) ?_)
      | refine seqQ_normal ?_)
    refine j_mloadE 2 s.rules[k].cell.toNat (g := Go.AI.encI) (L := bstL 6 (-1) (EnP s t) (s.rules.take s.rules.length)) (z := 1) rfl rfl rfl rfl (fun _ => rfl) (by omega) (by rw [bstL_len]; omega) (fun _ => rfl) rfl rfl ?_
    rw [hg]
    repeat' (first
      | (refine j_go ?_; first
        | refine j_op0 rfl rfl rfl rfl ?_ | refine j_off rfl rfl rfl ?_ | (refine j_kBin rfl ?_; first | refine j_in rfl rfl ⟨by omega, by omega⟩ rfl rfl ?_) | (refine j_kCall rfl rfl rfl rfl ?_; first | refine jc (c_isEnabled _ _ _ hv ht hr) (LeL.refl _) rfl rfl ?_) | (refine j_kLoad rfl ?_; first | refine j_mload 0 rfl rfl rfl rfl rfl rfl rfl ?_) | (refine j_kBsl rfl ?_; first | refine j_bsl rfl rfl rfl rfl rfl rfl rfl rfl rfl rfl rfl ?_) | (refine j_kGuard rfl ?_; first | (refine (j_if rfl rfl rfl (fun hb => ?_) (fun hb => ?_)) <;> first | (exfalso; omega) | skip)))
      | refine j_nil ?_
      | (refine r_go ?_; first | refine run_region ?_ | refine run_cond_f rfl ?_ | (refine (run_if rfl (fun hb => ?_) (fun hb => ?_)) <;> first | (exfalso; omega) | skip) | refine run_skip ?_)
      | refine seqQ_normal ?_ | refine blockQ_normal ?_)
    · have ha : App s t s.rules[k] := (app_iff (init := -1) (by omega) hv.ranks hm (by assumption)).1 (by assumption)
      refine j_append 1 (g := Go.AI.encI) [(k : Int)] rfl rfl rfl rfl rfl rfl rfl rfl rfl rfl rfl rfl (fun _ => rfl) (fun _ _ => rfl) ⟨by simp only [List.length_cons, List.length_nil]; omega, by simp only [List.length_cons, List.length_nil]; omega⟩ rfl rfl (fun b' cap' => ?_)
      rw [idxL_yes hk ha]
      repeat' (first
      | (refine j_go ?_; first
        | refine j_op0 rfl rfl rfl rfl ?_ | (refine j_kBin rfl ?_; first | refine j_in rfl rfl ⟨by omega, by omega⟩ rfl rfl ?_))
      | refine j_nil ?_
      | (refine r_go ?_; first | refine run_region ?_)
      | refine seqQ_normal ?_ | refine blockQ_normal ?_)
      exact loopQ_nextD (k + 1, b', cap') (by dsimp only; omega) (by dsimp only; omega) (List.sublist_cons_self _ _) ⟨rfl, rfl, rfl, rfl, rfl, rfl, nx _, trivial⟩
    all_goals
      have ha : ¬ App s t s.rules[k] := by first | exact (fun q => absurd q.1 (by assumption)) | exact (fun q => absurd ((app_iff (init := -1) (by omega) hv.ranks hm q.1).2 q) (by assumption))
      exact loopQ_nextD (k + 1, ob, cp) (by dsimp only; omega) (by dsimp only; omega) (by dsimp only; rw [← idxL_no hk ha]; exact List.sublist_cons_self _ _) ⟨rfl, rfl, rfl, rfl, rfl, (by dsimp only; rw [← idxL_no hk ha]; rfl), nx _, trivial⟩
  · have hke : k = s.rules.length := by omega
    subst hke
    repeat' (first
      | (refine j_go ?_; first
        | refine j_op0 rfl rfl rfl rfl ?_)
      | refine j_nil ?_
      | (refine r_go ?_; first | refine run_seq ?_ | refine run_region ?_ | (refine (run_if rfl (fun hb => ?_) (fun hb => ?_)) <;> first | (exfalso; omega) | skip) | refine run_ret ?_ | refine run_exit ?_)
      | refine seqQ_normal ?_ | refine seqQ_exit ?_ | refine blockQ_eq ?_ | refine loopQ_exit ?_)
    refine end_view (view_freeze (g := Go.AI.encI) (z := 1) (ys := idxL s t s.rules.length) 0 4 rfl rfl rfl (fun _ => rfl) rfl rfl) ?_
    exact end1 rfl sub1 rfl (.inl rfl)

theorem appL_get {s : System} {t : State} {k : Nat} (hk : k < (appL s t).length) : (appL s t)[k] = dec (App s t (s.rules[k]'(by simpa [appL] using hk))) := by simp [appL]
theorem appL_len (s : System) (t : State) : (appL s t).length = s.rules.length := by simp [appL]

theorem c_l03Both (s : System) (t : State) : Gives Tryz.prog 19 [.ip (encSystem s), .ip (encState t)] (.raw (.bool (dec (s.Ok ∧ s.StateOk t)))) := by
  refine fn_of_run tyOk ztOk mix Tryz.func19 rfl (by decide) Tryz.ntmps19 (fun w0 h => ?_)
  repeat' (first
      | (refine j_go ?_; first
        | refine j_op0 rfl rfl rfl rfl ?_ | refine j_off rfl rfl rfl ?_ | (refine j_kCall rfl rfl rfl rfl ?_; first | refine jc (c_l02Ok _) (LeL.refl _) rfl rfl ?_) | (refine j_kGuard rfl ?_; first | (refine (j_if rfl rfl rfl (fun hb => ?_) (fun hb => ?_)) <;> first | (exfalso; omega) | skip)))
      | refine j_nil ?_
      | (refine r_go ?_; first | refine run_seq ?_ | refine run_region ?_ | refine run_ret ?_)
      | refine seqQ_normal ?_)
  · have hv : s.Ok := by assumption
    repeat' (first
      | (refine j_go ?_; first
        | refine j_op0 rfl rfl rfl rfl ?_ | (refine j_kCall rfl rfl rfl rfl ?_; first | refine jc (c_l02State _ _ hv.1.2.1) (LeL.refl _) rfl rfl ?_))
      | refine j_nil ?_
      | (refine r_go ?_; first | refine run_ret ?_)
      | refine seqQ_normal ?_)
    exact end1 rfl (List.Sublist.refl _) (rbD ⟨fun q => ⟨hv, q⟩, fun q => q.2⟩) (.inl rfl)
  · exact end1 rfl (by first | exact List.Sublist.refl _ | exact sub1 | exact sub2 | exact sub3) (rbF (fun q => hb q.1)) (.inl rfl)

end Go.Proofs.YtkfmjjoalkoncaaGreat

/-
  States: what WeighState of the reference and of the program compute. No condition.
-/
namespace Go.Proofs.YtkfmjjoalkoncaaGreat
open Go.AI
set_option maxRecDepth 8000
set_option maxHeartbeats 1600000

theorem zip_len {g : Int → Int → Int} {a b : List Int} (h : a.length ≤ b.length) : (List.zipWith g a b).length = a.length := by simp; omega
theorem zip_succ {g : Int → Int → Int} {a b : List Int} {k : Nat} (ha : k < a.length) (hb : k < b.length) : (List.zipWith g a b).take k ++ [g a[k] b[k]] = (List.zipWith g a b).take (k + 1) := by
  rw [List.take_succ_eq_append_getElem (by simp; omega)]; simp

theorem c_both (of : FuncId) (caps : List A) (g : Int → Int → Int) (a b : List Int) (hg : ∀ k (ha : k < a.length) (hb : k < b.length), Gives Tryz.prog of (.int a[k] :: .int b[k] :: caps) (.int (g a[k] b[k]))) (hl : a.length ≤ b.length) (hn : a.length ≤ 1000000) : Gives Tryz.prog 80 [.sl (a.map Go.AI.encI), .sl (b.map Go.AI.encI), .fn of caps] (.sl ((List.zipWith g a b).map Go.AI.encI)) := by
  refine fn_of_run tyOk ztOk mix Tryz.func80 rfl (by decide) Tryz.ntmps80 (fun w0 h => ?_)
  have hz := zip_len (g := g) hl
  repeat' (first
      | (refine j_go ?_; first
        | refine j_op0 rfl rfl rfl rfl ?_ | (refine j_kLen rfl ?_; first | refine j_len rfl rfl rfl rfl rfl rfl ?_) | (refine j_kBsl rfl ?_; first | refine j_bs0 rfl rfl rfl rfl rfl rfl ?_))
      | refine j_nil ?_
      | (refine r_go ?_; first | refine run_seq ?_ | refine run_region ?_ | refine run_block ?_)
      | refine seqQ_normal ?_)
  refine run_view (view_none 2 0 rfl) ?_
  refine run_loop (fun s : Nat × Option Nat × Nat => [(1, .sl (b.map Go.AI.encI)), (2, .fn of caps), (7, .os s.2.1 ((List.zipWith g a b).take s.1).length s.2.2), (11, .sl (a.map Go.AI.encI)), (12, .int a.length), (13, .int (s.1 : Int))]) (fun s => ⟨s.2.1, 2, s.2.2 * 1, (((List.zipWith g a b).take s.1).map Go.AI.encI).flatten⟩ :: h) (fun s => s.1 ≤ a.length) (fun s => a.length - s.1) (0, none, 0) ⟨rfl, rfl, rfl, rfl, rfl, rfl, trivial⟩ rfl (Nat.zero_le _) (fun ⟨k, ob, cp⟩ kl => ?_)
  dsimp only at kl ⊢
  by_cases hk : k < a.length
  · have hkb : k < b.length := by omega
    have hz2 : ((List.zipWith g a b).take k).length = k := by rw [List.length_take]; omega
    repeat' (first
      | (refine j_go ?_; first
        | refine j_op0 rfl rfl rfl rfl ?_ | (refine j_kIdx rfl ?_; first | refine j_idx rfl rfl rfl rfl rfl (by omega) rfl rfl rfl ?_) | (refine j_kCall rfl rfl rfl rfl ?_; first | refine jc (hg k hk hkb) (LeL.refl _) rfl rfl ?_) | (refine j_kBsl rfl ?_; first | refine j_bsl rfl rfl rfl rfl rfl rfl rfl rfl rfl rfl rfl ?_))
      | refine j_nil ?_
      | (refine r_go ?_; first | refine run_seq ?_ | refine run_region ?_ | (refine (run_if rfl (fun hb => ?_) (fun hb => ?_)) <;> first | (exfalso; omega) | skip) | refine run_block ?_ | refine run_skip ?_)
      | refine seqQ_normal ?_)
    refine j_append 0 (g := Go.AI.encI) [g a[k] b[k]] rfl rfl rfl rfl rfl rfl rfl rfl rfl rfl rfl rfl (fun _ => rfl) (fun _ _ => rfl) ⟨by rw [hz2]; simp only [List.length_cons, List.length_nil]; omega, by rw [hz2]; simp only [List.length_cons, List.length_nil]; omega⟩ rfl rfl (fun b' cap' => ?_)
    rw [zip_succ hk hkb]
    repeat' (first
      | (refine j_go ?_; first
        | refine j_op0 rfl rfl rfl rfl ?_ | (refine j_kBin rfl ?_; first | refine j_in rfl rfl ⟨by omega, by omega⟩ rfl rfl ?_))
      | refine j_nil ?_
      | (refine r_go ?_; first | refine run_region ?_)
      | refine seqQ_normal ?_ | refine blockQ_normal ?_)
    exact loopQ_next (k + 1, b', cap') (by dsimp only; omega) (by dsimp only; omega) rfl ⟨rfl, rfl, rfl, rfl, rfl, nx _, trivial⟩
  · repeat' (first
      | (refine j_go ?_; first
        | refine j_op0 rfl rfl rfl rfl ?_)
      | refine j_nil ?_
      | (refine r_go ?_; first | refine run_seq ?_ | refine run_region ?_ | (refine (run_if rfl (fun hb => ?_) (fun hb => ?_)) <;> first | (exfalso; omega) | skip) | refine run_ret ?_ | refine run_exit ?_)
      | refine seqQ_normal ?_ | refine seqQ_exit ?_ | refine blockQ_eq ?_ | refine loopQ_exit ?_)
    refine end_view (view_freeze (g := Go.AI.encI) (z := 1) (ys := (List.zipWith g a b).take k) 0 6 rfl rfl rfl (fun _ => rfl) rfl rfl) ?_
    exact end1 rfl (List.Sublist.refl _) (by rw [List.take_of_length_le (by omega)]) (.inl rfl)

def System.WP (s : System) (t : State) : Prop := s.Ok ∧ s.StateOk t

end Go.Proofs.YtkfmjjoalkoncaaGreat
