/-
  The data of the laws' theme 2, as structures, and the helpers of the laws over them: sizes, copies, comparisons. No condition but that the sizes are at most 1048576.
-/
import Derived.Test.YtlllmhjpcdcoiaaZG0
import Derived.Test.YtlllmhjpcdcoiaaZOP
namespace Go.Proofs.Ytlllmhjpcdcoiaa
open Go.AI
set_option maxRecDepth 8000

structure Into where
  cell : Int
  bag : List Int
  deriving DecidableEq, Inhabited
def encInto (x : Into) : List A := [.int x.cell, .sl (x.bag.map Go.AI.encI)]
def szInto (left : Int) (x : Into) : Int := if szR left x.bag < 0 then -1 else szR left x.bag
/-- What its size tells of it. -/
structure OkInto (x : Into) : Prop where
  bag : x.bag.length ≤ 1048576
theorem szInto_le {left : Int} {x : Into} (h1 : -1 ≤ left) (h2 : left ≤ 1048576) : -1 ≤ szInto left x ∧ szInto left x ≤ 1048576 := by
  have l0 : -1 ≤ szR left x.bag ∧ szR left x.bag ≤ 1048576 := szR_le h1 h2
  unfold szInto
  repeat' split
  all_goals first | omega | assumption
theorem szInto_ok {left : Int} {x : Into} (h1 : -1 ≤ left) (h2 : left ≤ 1048576) (h : ¬ szInto left x < 0) : OkInto x := by
  have l0 : -1 ≤ szR left x.bag ∧ szR left x.bag ≤ 1048576 := szR_le h1 h2
  unfold szInto at h
  split at h
  · exact absurd (by decide) h
  rename_i q0
  exact ⟨(szR_ok h2 q0)⟩
theorem c_szInto (x : Into) (left : Int) (h1 : -1 ≤ left) (h2 : left ≤ 1048576) : Gives Try.prog 66 [.agg (encInto x), .int left] (.int (szInto left x)) := by
  have l0 : -1 ≤ szR left x.bag ∧ szR left x.bag ≤ 1048576 := szR_le h1 h2
  refine fn_of_run tyOk ztOk mix Try.func66 rfl (by decide) Try.ntmps66 (fun w0 h => ?_)
  repeat' (first
      | (refine j_go ?_; first
        | refine j_op0 rfl rfl rfl rfl ?_ | (refine j_kCall rfl rfl rfl rfl ?_; first | refine jc (c_szInt64S _ _ (by omega) (by omega)) (LeL.refl _) rfl rfl ?_) | refine j_box rfl rfl rfl rfl rfl rfl ?_)
      | refine j_nil ?_
      | (refine r_go ?_; first | refine run_seq ?_ | refine run_region ?_ | (refine (run_if rfl (fun hb => ?_) (fun hb => ?_)) <;> first | (exfalso; omega) | skip) | refine run_ret ?_ | refine run_skip ?_)
      | refine seqQ_normal ?_ | refine seqQ_ret ?_)
  all_goals exact end1 rfl (List.Sublist.refl _) (ai (by unfold szInto; repeat' split; all_goals first | rfl | contradiction)) (.inl rfl)
theorem c_toInto (x : Into) (hx : OkInto x) : Gives Try.prog 70 [.agg (encInto x)] (.agg (encInto x)) := by
  obtain ⟨k0⟩ := hx
  refine fn_of_run tyOk ztOk mix Try.func70 rfl (by decide) Try.ntmps70 (fun w0 h => ?_)
  repeat' (first
      | (refine j_go ?_; first
        | refine j_op0 rfl rfl rfl rfl ?_ | (refine j_kCall rfl rfl rfl rfl ?_; first | refine jc (c_toInt64S _ (by assumption)) (LeL.refl _) rfl rfl ?_) | (refine j_kLoad rfl ?_; first | refine j_mload 0 rfl rfl rfl rfl rfl rfl rfl ?_) | (refine j_kStore rfl ?_; first | refine j_store 0 rfl rfl rfl rfl rfl rfl rfl rfl rfl rfl rfl ?_ | refine j_storeN 1 rfl rfl rfl rfl rfl rfl rfl rfl rfl rfl rfl ?_) | refine j_box rfl rfl rfl rfl rfl rfl ?_ | refine j_alloc rfl rfl rfl rfl rfl (fun _ => ?_))
      | refine j_nil ?_
      | (refine r_go ?_; first | refine run_seq ?_ | refine run_region ?_ | refine run_ret ?_)
      | refine seqQ_normal ?_)
  exact end_cellM rfl 1 rfl rfl sub2 (Le.refl _) (.inl rfl)
theorem c_eqInto (x y : Into) : Gives Try.prog 75 [.agg (encInto x), .agg (encInto y)] (.raw (.bool (dec (x = y)))) := by
  refine fn_of_run tyOk ztOk mix Try.func75 rfl (by decide) Try.ntmps75 (fun w0 h => ?_)
  repeat' (first
      | (refine j_go ?_; first
        | refine j_op0 rfl rfl rfl rfl ?_ | (refine j_kCall rfl rfl rfl rfl ?_; first | refine jc (c_eqInt64S _ _) (LeL.refl _) rfl rfl ?_) | refine j_box rfl rfl rfl rfl rfl rfl ?_)
      | refine j_nil ?_
      | (refine r_go ?_; first | refine run_seq ?_ | refine run_region ?_ | (refine (run_ifn rfl (fun hb => ?_) (fun hb => ?_)) <;> first | (exfalso; omega) | skip) | refine run_ret ?_ | refine run_skip ?_)
      | refine seqQ_normal ?_ | refine seqQ_ret ?_)
  all_goals first | exact end1 rfl (List.Sublist.refl _) (rb (dec_f (fun q => hb (by rw [q]))).symm) (.inl rfl) | exact end1 rfl (List.Sublist.refl _) (rb (dec_t (by cases x; cases y; simp_all)).symm) (.inl rfl)
theorem c_szIntoS (l : List (Into)) (left : Int) (h1 : -1 ≤ left) (h2 : left ≤ 1048576) : Gives Try.prog 47 [.sl (l.map encInto), .int left] (.int (szSl szInto left l)) := by
  refine fn_of_run tyOk ztOk mix Try.func47 rfl (by decide) Try.ntmps47 (fun w0 h => ?_)
  refine run_len (t := 0) rfl (fun hl => ?_)
  rw [List.length_map] at hl
  repeat' (first
      | (refine j_go ?_; first
        | refine j_op0 rfl rfl rfl rfl ?_ | (refine j_kBin rfl ?_; first | refine j_in rfl rfl ⟨by omega, by omega⟩ rfl rfl ?_) | (refine j_kLen rfl ?_; first | refine j_len rfl rfl rfl rfl rfl rfl ?_))
      | refine j_nil ?_
      | (refine r_go ?_; first | refine run_seq ?_ | refine run_region ?_ | (refine (run_if rfl (fun hb => ?_) (fun hb => ?_)) <;> first | (exfalso; omega) | skip) | refine run_block ?_ | refine run_ret ?_ | refine run_skip ?_)
      | refine seqQ_normal ?_ | refine seqQ_ret ?_)
  · exact end1 rfl (List.Sublist.refl _) (by unfold szSl; rw [if_pos hb]; rfl) (.inl rfl)
  · unfold szSl
    rw [if_neg hb]
    refine run_loop (fun s : Nat × Int => [(0, .sl (l.map encInto)), (1, .int s.2), (5, .int (s.1 : Int))]) (fun _ => h)
      (fun s => s.1 ≤ l.length ∧ (-1 ≤ s.2 ∧ s.2 ≤ 1048576) ∧ szL szInto (left - l.length) l = szL szInto s.2 (l.drop s.1)) (fun s => l.length - s.1) (0, left - l.length) ⟨rfl, rfl, rfl, trivial⟩ rfl ⟨by omega, by omega, rfl⟩ ?_
    intro ⟨k, s⟩ ⟨g1, g2, g3⟩
    dsimp only at g1 g2 g3 ⊢
    have gn : ∀ (hk : k < l.length), szL szInto s (l.drop k) = if szInto s l[k] < 0 then -1 else szL szInto (szInto s l[k]) (l.drop (k + 1)) := fun hk => by
      rw [List.drop_eq_getElem_cons hk, szL]
    repeat' (first
      | (refine j_go ?_; first
        | refine j_op0 rfl rfl rfl rfl ?_ | (refine j_kIdx rfl ?_; first | refine j_idx rfl rfl rfl rfl rfl (by omega) rfl rfl rfl ?_) | (refine j_kBin rfl ?_; first | refine j_in rfl rfl ⟨by omega, by omega⟩ rfl rfl ?_) | (refine j_kLen rfl ?_; first | refine j_len rfl rfl rfl rfl rfl rfl ?_) | (refine j_kCall rfl rfl rfl rfl ?_; first | refine jc (c_szInto _ _ (by omega) (by omega)) (LeL.refl _) rfl rfl ?_))
      | refine j_nil ?_
      | (refine r_go ?_; first | refine run_seq ?_ | refine run_region ?_ | (refine (run_if rfl (fun hb => ?_) (fun hb => ?_)) <;> first | (exfalso; omega) | skip) | refine run_block ?_ | refine run_ret ?_ | refine run_exit ?_ | refine run_skip ?_)
      | refine seqQ_normal ?_ | refine seqQ_ret ?_ | refine seqQ_exit ?_ | refine blockQ_normal ?_ | refine blockQ_ret ?_ | refine blockQ_eq ?_ | refine loopQ_ret ?_ | refine loopQ_exit ?_)
    · rename_i hk
      exact end1 rfl (List.Sublist.refl _) (by rw [g3, gn (by omega), if_pos hb]; rfl) (.inl rfl)
    · rename_i hk
      have hk' : k < l.length := by omega
      exact loopQ_next (k + 1, szInto s l[k]) ⟨by dsimp only; omega, szInto_le (by omega) (by omega), by rw [g3, gn hk', if_neg hb]⟩ (by dsimp only; omega) rfl ⟨rfl, rfl, nx _, trivial⟩
    · have : k = l.length := by omega
      subst this
      exact end1 rfl (List.Sublist.refl _) (by rw [g3, List.drop_length, szL]) (.inl rfl)
theorem c_toIntoS (l : List (Into)) (hl : l.length ≤ 1048576) (hl2 : ∀ x ∈ l, (OkInto) x) : Gives Try.prog 54 [.sl (l.map encInto)] (.sl (l.map encInto)) := by
  refine fn_of_run tyOk ztOk mix Try.func54 rfl (by decide) Try.ntmps54 (fun w0 h => ?_)
  repeat' (first
      | (refine j_go ?_; first
        | refine j_op0 rfl rfl rfl rfl ?_ | (refine j_kLen rfl ?_; first | refine j_len rfl rfl rfl rfl rfl rfl ?_))
      | refine j_nil ?_
      | (refine r_go ?_; first | refine run_seq ?_ | refine run_region ?_)
      | refine seqQ_normal ?_)
  refine j_makeI (g := encInto) (⟨0, []⟩ : Into) rfl rfl rfl rfl rfl rfl rfl rfl rfl (by omega) rfl rfl (fun b => ?_)
  repeat' (first
      | (refine j_go ?_; first
        | refine j_op0 rfl rfl rfl rfl ?_)
      | refine j_nil ?_
      | (refine r_go ?_; first | refine run_seq ?_ | refine run_region ?_ | refine run_block ?_)
      | refine seqQ_normal ?_)
  refine run_loop (fun k : Nat => [(0, .sl (l.map encInto)), (3, .os (some b) l.length l.length), (4, .int (k : Int))]) (fun k => ⟨some b, 87, l.length * 2, ((l.take k ++ List.replicate (l.length - k) (⟨0, []⟩ : Into)).map encInto).flatten⟩ :: h)
      (fun k => k ≤ l.length) (fun k => l.length - k) 0 ⟨rfl, rfl, rfl, trivial⟩ (by simp) (by omega) ?_
  intro k g1
  repeat' (first
      | (refine j_go ?_; first
        | refine j_op0 rfl rfl rfl rfl ?_ | (refine j_kIdx rfl ?_; first | refine j_idx rfl rfl rfl rfl rfl (by omega) rfl rfl rfl ?_ | refine j_midx rfl rfl rfl rfl rfl (by first | omega | (simp only [List.length_append, List.length_cons, List.length_nil]; omega)) rfl rfl ?_) | (refine j_kLen rfl ?_; first | refine j_len rfl rfl rfl rfl rfl rfl ?_) | (refine j_kCall rfl rfl rfl rfl ?_; first | refine jc (c_toInto _ (hl2 _ (List.getElem_mem _))) (LeL.refl _) rfl rfl ?_))
      | refine j_nil ?_
      | (refine r_go ?_; first | refine run_seq ?_ | refine run_region ?_ | (refine (run_if rfl (fun hb => ?_) (fun hb => ?_)) <;> first | (exfalso; omega) | skip) | refine run_block ?_ | refine run_ret ?_ | refine run_exit ?_ | refine run_skip ?_)
      | refine seqQ_normal ?_ | refine seqQ_exit ?_ | refine blockQ_eq ?_ | refine loopQ_exit ?_)
  · have hk : k < l.length := by omega
    refine j_storeE 0 k (g := encInto) l[k] rfl rfl rfl rfl rfl rfl rfl rfl rfl (fun _ => rfl : ∀ y, (encInto y).length = 2) rfl (by simp; omega) ?_
    repeat' (first
      | (refine j_go ?_; first
        | refine j_op0 rfl rfl rfl rfl ?_ | (refine j_kBin rfl ?_; first | refine j_in rfl rfl ⟨by omega, by omega⟩ rfl rfl ?_))
      | refine j_nil ?_
      | (refine r_go ?_; first | refine run_region ?_)
      | refine seqQ_normal ?_ | refine blockQ_normal ?_)
    exact loopQ_next (k + 1) (by omega) (by omega) (by rw [← take_rep_set hk]; rfl) ⟨rfl, rfl, nx _, trivial⟩
  · have : k = l.length := by omega
    subst this
    refine end_view (view_freeze (g := encInto) (z := 2) (ys := l) 0 2 rfl rfl (by simp) (fun _ => rfl : ∀ y, (encInto y).length = 2) rfl rfl) ?_
    exact end1 rfl (List.Sublist.refl _) rfl (.inl rfl)
theorem c_eqIntoS (a b : List (Into)) : Gives Try.prog 65 [.sl (a.map encInto), .sl (b.map encInto)] (.raw (.bool (dec (a = b)))) := by
  refine fn_of_run tyOk ztOk mix Try.func65 rfl (by decide) Try.ntmps65 (fun w0 h => ?_)
  refine run_len (t := 0) rfl (fun hla => ?_)
  refine run_len (t := 1) rfl (fun hlb => ?_)
  rw [List.length_map] at hla hlb
  repeat' (first
      | (refine j_go ?_; first
        | refine j_op0 rfl rfl rfl rfl ?_ | (refine j_kLen rfl ?_; first | refine j_len rfl rfl rfl rfl rfl rfl ?_))
      | refine j_nil ?_
      | (refine r_go ?_; first | refine run_seq ?_ | refine run_region ?_ | (refine (run_ifn rfl (fun hb => ?_) (fun hb => ?_)) <;> first | (exfalso; omega) | skip) | refine run_block ?_ | refine run_ret ?_ | refine run_skip ?_)
      | refine seqQ_normal ?_ | refine seqQ_ret ?_)
  · exact end1 rfl (List.Sublist.refl _) (rb (dec_f (fun q => hb (by rw [q]))).symm) (.inl rfl)
  · have hn : a.length = b.length := by omega
    refine run_loop (fun k : Nat => [(0, .sl (a.map encInto)), (1, .sl (b.map encInto)), (5, .int (k : Int))]) (fun _ => h) (fun k => k ≤ a.length ∧ a.take k = b.take k) (fun k => a.length - k) 0 ⟨rfl, rfl, rfl, trivial⟩ rfl ⟨by omega, rfl⟩ ?_
    intro k ⟨g1, g2⟩
    repeat' (first
      | (refine j_go ?_; first
        | refine j_op0 rfl rfl rfl rfl ?_ | (refine j_kIdx rfl ?_; first | refine j_idx rfl rfl rfl rfl rfl (by omega) rfl rfl rfl ?_) | (refine j_kBin rfl ?_; first | refine j_in rfl rfl ⟨by omega, by omega⟩ rfl rfl ?_) | (refine j_kLen rfl ?_; first | refine j_len rfl rfl rfl rfl rfl rfl ?_) | (refine j_kCall rfl rfl rfl rfl ?_; first | refine jc (c_eqInto _ _) (LeL.refl _) rfl rfl ?_))
      | refine j_nil ?_
      | (refine r_go ?_; first | refine run_seq ?_ | refine run_region ?_ | (refine (run_if rfl (fun hb => ?_) (fun hb => ?_)) <;> first | (exfalso; omega) | skip) | (refine (run_ifn rfl (fun hb => ?_) (fun hb => ?_)) <;> first | (exfalso; omega) | skip) | refine run_block ?_ | refine run_ret ?_ | refine run_exit ?_ | refine run_skip ?_ | refine run_regionD (by kernel_rfl) ?_)
      | refine seqQ_normal ?_ | refine seqQ_ret ?_ | refine seqQ_exit ?_ | refine blockQ_normal ?_ | refine blockQ_ret ?_ | refine blockQ_eq ?_ | refine loopQ_ret ?_ | refine loopQ_exit ?_)
    · exact end1 rfl (List.Sublist.refl _) (rb (dec_f (fun q => hb (by subst q; rfl))).symm) (.inl rfl)
    · exact loopQ_next (k + 1) ⟨by omega, take_eq_succ g2 (by omega) (by omega) hb⟩ (by omega) rfl ⟨rfl, rfl, nx _, trivial⟩
    · have hk : k = a.length := by omega
      subst hk
      exact end1 rfl (List.Sublist.refl _) (rb (dec_t (by rw [List.take_length, hn, List.take_length] at g2; exact g2)).symm) (.inl rfl)

structure Rule where
  cell : Int
  rank : Int
  need : List Int
  have_ : List Int
  lack : List Int
  here : List Int
  out : List Int
  into : List Into
  melts : Bool
  deriving DecidableEq, Inhabited
def encRule (x : Rule) : List A := [.int x.cell, .int x.rank, .sl (x.need.map Go.AI.encI), .sl (x.have_.map Go.AI.encI), .sl (x.lack.map Go.AI.encI), .sl (x.here.map Go.AI.encI), .sl (x.out.map Go.AI.encI), .sl (x.into.map encInto), .raw (.bool x.melts)]
def szRule (left : Int) (x : Rule) : Int := if szR left x.need < 0 then -1 else if szR (szR left x.need) x.have_ < 0 then -1 else if szR (szR (szR left x.need) x.have_) x.lack < 0 then -1 else if szR (szR (szR (szR left x.need) x.have_) x.lack) x.here < 0 then -1 else if szR (szR (szR (szR (szR left x.need) x.have_) x.lack) x.here) x.out < 0 then -1 else if szSl szInto (szR (szR (szR (szR (szR left x.need) x.have_) x.lack) x.here) x.out) x.into < 0 then -1 else szSl szInto (szR (szR (szR (szR (szR left x.need) x.have_) x.lack) x.here) x.out) x.into
/-- What its size tells of it. -/
structure OkRule (x : Rule) : Prop where
  need : x.need.length ≤ 1048576
  have_ : x.have_.length ≤ 1048576
  lack : x.lack.length ≤ 1048576
  here : x.here.length ≤ 1048576
  out : x.out.length ≤ 1048576
  into : x.into.length ≤ 1048576 ∧ ∀ r ∈ x.into, OkInto r
theorem szRule_le {left : Int} {x : Rule} (h1 : -1 ≤ left) (h2 : left ≤ 1048576) : -1 ≤ szRule left x ∧ szRule left x ≤ 1048576 := by
  have l0 : -1 ≤ szR left x.need ∧ szR left x.need ≤ 1048576 := szR_le h1 h2
  have l1 : -1 ≤ szR (szR left x.need) x.have_ ∧ szR (szR left x.need) x.have_ ≤ 1048576 := szR_le l0.1 l0.2
  have l2 : -1 ≤ szR (szR (szR left x.need) x.have_) x.lack ∧ szR (szR (szR left x.need) x.have_) x.lack ≤ 1048576 := szR_le l1.1 l1.2
  have l3 : -1 ≤ szR (szR (szR (szR left x.need) x.have_) x.lack) x.here ∧ szR (szR (szR (szR left x.need) x.have_) x.lack) x.here ≤ 1048576 := szR_le l2.1 l2.2
  have l4 : -1 ≤ szR (szR (szR (szR (szR left x.need) x.have_) x.lack) x.here) x.out ∧ szR (szR (szR (szR (szR left x.need) x.have_) x.lack) x.here) x.out ≤ 1048576 := szR_le l3.1 l3.2
  have l5 : -1 ≤ szSl szInto (szR (szR (szR (szR (szR left x.need) x.have_) x.lack) x.here) x.out) x.into ∧ szSl szInto (szR (szR (szR (szR (szR left x.need) x.have_) x.lack) x.here) x.out) x.into ≤ 1048576 := szSl_le (fun _ _ p q => szInto_le p q) l4.1 l4.2
  unfold szRule
  repeat' split
  all_goals first | omega | assumption
theorem szRule_ok {left : Int} {x : Rule} (h1 : -1 ≤ left) (h2 : left ≤ 1048576) (h : ¬ szRule left x < 0) : OkRule x := by
  have l0 : -1 ≤ szR left x.need ∧ szR left x.need ≤ 1048576 := szR_le h1 h2
  have l1 : -1 ≤ szR (szR left x.need) x.have_ ∧ szR (szR left x.need) x.have_ ≤ 1048576 := szR_le l0.1 l0.2
  have l2 : -1 ≤ szR (szR (szR left x.need) x.have_) x.lack ∧ szR (szR (szR left x.need) x.have_) x.lack ≤ 1048576 := szR_le l1.1 l1.2
  have l3 : -1 ≤ szR (szR (szR (szR left x.need) x.have_) x.lack) x.here ∧ szR (szR (szR (szR left x.need) x.have_) x.lack) x.here ≤ 1048576 := szR_le l2.1 l2.2
  have l4 : -1 ≤ szR (szR (szR (szR (szR left x.need) x.have_) x.lack) x.here) x.out ∧ szR (szR (szR (szR (szR left x.need) x.have_) x.lack) x.here) x.out ≤ 1048576 := szR_le l3.1 l3.2
  have l5 : -1 ≤ szSl szInto (szR (szR (szR (szR (szR left x.need) x.have_) x.lack) x.here) x.out) x.into ∧ szSl szInto (szR (szR (szR (szR (szR left x.need) x.have_) x.lack) x.here) x.out) x.into ≤ 1048576 := szSl_le (fun _ _ p q => szInto_le p q) l4.1 l4.2
  unfold szRule at h
  split at h
  · exact absurd (by decide) h
  rename_i q0
  split at h
  · exact absurd (by decide) h
  rename_i q1
  split at h
  · exact absurd (by decide) h
  rename_i q2
  split at h
  · exact absurd (by decide) h
  rename_i q3
  split at h
  · exact absurd (by decide) h
  rename_i q4
  split at h
  · exact absurd (by decide) h
  rename_i q5
  exact ⟨(szR_ok h2 q0), (szR_ok l0.2 q1), (szR_ok l1.2 q2), (szR_ok l2.2 q3), (szR_ok l3.2 q4), (szSl_ok (p := OkInto) (fun _ _ p q => szInto_le p q) (fun _ _ p q r => szInto_ok p q r) l4.1 l4.2 q5)⟩
theorem c_szRule (x : Rule) (left : Int) (h1 : -1 ≤ left) (h2 : left ≤ 1048576) : Gives Try.prog 35 [.agg (encRule x), .int left] (.int (szRule left x)) := by
  have l0 : -1 ≤ szR left x.need ∧ szR left x.need ≤ 1048576 := szR_le h1 h2
  have l1 : -1 ≤ szR (szR left x.need) x.have_ ∧ szR (szR left x.need) x.have_ ≤ 1048576 := szR_le l0.1 l0.2
  have l2 : -1 ≤ szR (szR (szR left x.need) x.have_) x.lack ∧ szR (szR (szR left x.need) x.have_) x.lack ≤ 1048576 := szR_le l1.1 l1.2
  have l3 : -1 ≤ szR (szR (szR (szR left x.need) x.have_) x.lack) x.here ∧ szR (szR (szR (szR left x.need) x.have_) x.lack) x.here ≤ 1048576 := szR_le l2.1 l2.2
  have l4 : -1 ≤ szR (szR (szR (szR (szR left x.need) x.have_) x.lack) x.here) x.out ∧ szR (szR (szR (szR (szR left x.need) x.have_) x.lack) x.here) x.out ≤ 1048576 := szR_le l3.1 l3.2
  have l5 : -1 ≤ szSl szInto (szR (szR (szR (szR (szR left x.need) x.have_) x.lack) x.here) x.out) x.into ∧ szSl szInto (szR (szR (szR (szR (szR left x.need) x.have_) x.lack) x.here) x.out) x.into ≤ 1048576 := szSl_le (fun _ _ p q => szInto_le p q) l4.1 l4.2
  refine fn_of_run tyOk ztOk mix Try.func35 rfl (by decide) Try.ntmps35 (fun w0 h => ?_)
  repeat' (first
      | (refine j_go ?_; first
        | refine j_op0 rfl rfl rfl rfl ?_ | (refine j_kCall rfl rfl rfl rfl ?_; first | refine jc (c_szInt64S _ _ (by omega) (by omega)) (LeL.refl _) rfl rfl ?_ | refine jc (c_szIntoS _ _ (by omega) (by omega)) (LeL.refl _) rfl rfl ?_) | refine j_box rfl rfl rfl rfl rfl rfl ?_)
      | refine j_nil ?_
      | (refine r_go ?_; first | refine run_seq ?_ | refine run_region ?_ | (refine (run_if rfl (fun hb => ?_) (fun hb => ?_)) <;> first | (exfalso; omega) | skip) | refine run_ret ?_ | refine run_skip ?_)
      | refine seqQ_normal ?_ | refine seqQ_ret ?_)
  all_goals exact end1 rfl (List.Sublist.refl _) (ai (by unfold szRule; repeat' split; all_goals first | rfl | contradiction)) (.inl rfl)
theorem c_toRule (x : Rule) (hx : OkRule x) : Gives Try.prog 40 [.agg (encRule x)] (.agg (encRule x)) := by
  obtain ⟨k0, k1, k2, k3, k4, ⟨k5, m5⟩⟩ := hx
  refine fn_of_run tyOk ztOk mix Try.func40 rfl (by decide) Try.ntmps40 (fun w0 h => ?_)
  repeat' (first
      | (refine j_go ?_; first
        | refine j_op0 rfl rfl rfl rfl ?_ | (refine j_kCall rfl rfl rfl rfl ?_; first | refine jc (c_toInt64S _ (by assumption)) (LeL.refl _) rfl rfl ?_ | refine jc (c_toIntoS _ (by assumption) (by assumption)) (LeL.refl _) rfl rfl ?_) | (refine j_kLoad rfl ?_; first | refine j_mload 0 rfl rfl rfl rfl rfl rfl rfl ?_) | (refine j_kStore rfl ?_; first | refine j_store 0 rfl rfl rfl rfl rfl rfl rfl rfl rfl rfl rfl ?_ | refine j_storeN 1 rfl rfl rfl rfl rfl rfl rfl rfl rfl rfl rfl ?_) | refine j_box rfl rfl rfl rfl rfl rfl ?_ | refine j_alloc rfl rfl rfl rfl rfl (fun _ => ?_))
      | refine j_nil ?_
      | (refine r_go ?_; first | refine run_seq ?_ | refine run_region ?_ | refine run_ret ?_)
      | refine seqQ_normal ?_)
  exact end_cellM rfl 1 rfl rfl sub2 (Le.refl _) (.inl rfl)
theorem c_eqRule (x y : Rule) : Gives Try.prog 45 [.agg (encRule x), .agg (encRule y)] (.raw (.bool (dec (x = y)))) := by
  refine fn_of_run tyOk ztOk mix Try.func45 rfl (by decide) Try.ntmps45 (fun w0 h => ?_)
  repeat' (first
      | (refine j_go ?_; first
        | refine j_op0 rfl rfl rfl rfl ?_ | (refine j_kCall rfl rfl rfl rfl ?_; first | refine jc (c_eqInt64S _ _) (LeL.refl _) rfl rfl ?_ | refine jc (c_eqIntoS _ _) (LeL.refl _) rfl rfl ?_) | refine j_box rfl rfl rfl rfl rfl rfl ?_)
      | refine j_nil ?_
      | (refine r_go ?_; first | refine run_seq ?_ | refine run_region ?_ | (refine (run_ifn rfl (fun hb => ?_) (fun hb => ?_)) <;> first | (exfalso; omega) | skip) | refine run_ret ?_ | refine run_skip ?_)
      | refine seqQ_normal ?_ | refine seqQ_ret ?_)
  all_goals first | exact end1 rfl (List.Sublist.refl _) (rb (dec_f (fun q => hb (by rw [q]))).symm) (.inl rfl) | exact end1 rfl (List.Sublist.refl _) (rb (dec_t (by cases x; cases y; simp_all)).symm) (.inl rfl)
theorem c_szRuleS (l : List (Rule)) (left : Int) (h1 : -1 ≤ left) (h2 : left ≤ 1048576) : Gives Try.prog 18 [.sl (l.map encRule), .int left] (.int (szSl szRule left l)) := by
  refine fn_of_run tyOk ztOk mix Try.func18 rfl (by decide) Try.ntmps18 (fun w0 h => ?_)
  refine run_len (t := 0) rfl (fun hl => ?_)
  rw [List.length_map] at hl
  repeat' (first
      | (refine j_go ?_; first
        | refine j_op0 rfl rfl rfl rfl ?_ | (refine j_kBin rfl ?_; first | refine j_in rfl rfl ⟨by omega, by omega⟩ rfl rfl ?_) | (refine j_kLen rfl ?_; first | refine j_len rfl rfl rfl rfl rfl rfl ?_))
      | refine j_nil ?_
      | (refine r_go ?_; first | refine run_seq ?_ | refine run_region ?_ | (refine (run_if rfl (fun hb => ?_) (fun hb => ?_)) <;> first | (exfalso; omega) | skip) | refine run_block ?_ | refine run_ret ?_ | refine run_skip ?_)
      | refine seqQ_normal ?_ | refine seqQ_ret ?_)
  · exact end1 rfl (List.Sublist.refl _) (by unfold szSl; rw [if_pos hb]; rfl) (.inl rfl)
  · unfold szSl
    rw [if_neg hb]
    refine run_loop (fun s : Nat × Int => [(0, .sl (l.map encRule)), (1, .int s.2), (5, .int (s.1 : Int))]) (fun _ => h)
      (fun s => s.1 ≤ l.length ∧ (-1 ≤ s.2 ∧ s.2 ≤ 1048576) ∧ szL szRule (left - l.length) l = szL szRule s.2 (l.drop s.1)) (fun s => l.length - s.1) (0, left - l.length) ⟨rfl, rfl, rfl, trivial⟩ rfl ⟨by omega, by omega, rfl⟩ ?_
    intro ⟨k, s⟩ ⟨g1, g2, g3⟩
    dsimp only at g1 g2 g3 ⊢
    have gn : ∀ (hk : k < l.length), szL szRule s (l.drop k) = if szRule s l[k] < 0 then -1 else szL szRule (szRule s l[k]) (l.drop (k + 1)) := fun hk => by
      rw [List.drop_eq_getElem_cons hk, szL]
    repeat' (first
      | (refine j_go ?_; first
        | refine j_op0 rfl rfl rfl rfl ?_ | (refine j_kIdx rfl ?_; first | refine j_idx rfl rfl rfl rfl rfl (by omega) rfl rfl rfl ?_) | (refine j_kBin rfl ?_; first | refine j_in rfl rfl ⟨by omega, by omega⟩ rfl rfl ?_) | (refine j_kLen rfl ?_; first | refine j_len rfl rfl rfl rfl rfl rfl ?_) | (refine j_kCall rfl rfl rfl rfl ?_; first | refine jc (c_szRule _ _ (by omega) (by omega)) (LeL.refl _) rfl rfl ?_))
      | refine j_nil ?_
      | (refine r_go ?_; first | refine run_seq ?_ | refine run_region ?_ | (refine (run_if rfl (fun hb => ?_) (fun hb => ?_)) <;> first | (exfalso; omega) | skip) | refine run_block ?_ | refine run_ret ?_ | refine run_exit ?_ | refine run_skip ?_)
      | refine seqQ_normal ?_ | refine seqQ_ret ?_ | refine seqQ_exit ?_ | refine blockQ_normal ?_ | refine blockQ_ret ?_ | refine blockQ_eq ?_ | refine loopQ_ret ?_ | refine loopQ_exit ?_)
    · rename_i hk
      exact end1 rfl (List.Sublist.refl _) (by rw [g3, gn (by omega), if_pos hb]; rfl) (.inl rfl)
    · rename_i hk
      have hk' : k < l.length := by omega
      exact loopQ_next (k + 1, szRule s l[k]) ⟨by dsimp only; omega, szRule_le (by omega) (by omega), by rw [g3, gn hk', if_neg hb]⟩ (by dsimp only; omega) rfl ⟨rfl, rfl, nx _, trivial⟩
    · have : k = l.length := by omega
      subst this
      exact end1 rfl (List.Sublist.refl _) (by rw [g3, List.drop_length, szL]) (.inl rfl)
theorem c_toRuleS (l : List (Rule)) (hl : l.length ≤ 1048576) (hl2 : ∀ x ∈ l, (OkRule) x) : Gives Try.prog 24 [.sl (l.map encRule)] (.sl (l.map encRule)) := by
  refine fn_of_run tyOk ztOk mix Try.func24 rfl (by decide) Try.ntmps24 (fun w0 h => ?_)
  repeat' (first
      | (refine j_go ?_; first
        | refine j_op0 rfl rfl rfl rfl ?_ | (refine j_kLen rfl ?_; first | refine j_len rfl rfl rfl rfl rfl rfl ?_))
      | refine j_nil ?_
      | (refine r_go ?_; first | refine run_seq ?_ | refine run_region ?_)
      | refine seqQ_normal ?_)
  refine j_makeI (g := encRule) (⟨0, 0, [], [], [], [], [], [], false⟩ : Rule) rfl rfl rfl rfl rfl rfl rfl rfl rfl (by omega) rfl rfl (fun b => ?_)
  repeat' (first
      | (refine j_go ?_; first
        | refine j_op0 rfl rfl rfl rfl ?_)
      | refine j_nil ?_
      | (refine r_go ?_; first | refine run_seq ?_ | refine run_region ?_ | refine run_block ?_)
      | refine seqQ_normal ?_)
  refine run_loop (fun k : Nat => [(0, .sl (l.map encRule)), (3, .os (some b) l.length l.length), (4, .int (k : Int))]) (fun k => ⟨some b, 72, l.length * 9, ((l.take k ++ List.replicate (l.length - k) (⟨0, 0, [], [], [], [], [], [], false⟩ : Rule)).map encRule).flatten⟩ :: h)
      (fun k => k ≤ l.length) (fun k => l.length - k) 0 ⟨rfl, rfl, rfl, trivial⟩ (by simp) (by omega) ?_
  intro k g1
  repeat' (first
      | (refine j_go ?_; first
        | refine j_op0 rfl rfl rfl rfl ?_ | (refine j_kIdx rfl ?_; first | refine j_idx rfl rfl rfl rfl rfl (by omega) rfl rfl rfl ?_ | refine j_midx rfl rfl rfl rfl rfl (by first | omega | (simp only [List.length_append, List.length_cons, List.length_nil]; omega)) rfl rfl ?_) | (refine j_kLen rfl ?_; first | refine j_len rfl rfl rfl rfl rfl rfl ?_) | (refine j_kCall rfl rfl rfl rfl ?_; first | refine jc (c_toRule _ (hl2 _ (List.getElem_mem _))) (LeL.refl _) rfl rfl ?_))
      | refine j_nil ?_
      | (refine r_go ?_; first | refine run_seq ?_ | refine run_region ?_ | (refine (run_if rfl (fun hb => ?_) (fun hb => ?_)) <;> first | (exfalso; omega) | skip) | refine run_block ?_ | refine run_ret ?_ | refine run_exit ?_ | refine run_skip ?_)
      | refine seqQ_normal ?_ | refine seqQ_exit ?_ | refine blockQ_eq ?_ | refine loopQ_exit ?_)
  · have hk : k < l.length := by omega
    refine j_storeE 0 k (g := encRule) l[k] rfl rfl rfl rfl rfl rfl rfl rfl rfl (fun _ => rfl : ∀ y, (encRule y).length = 9) rfl (by simp; omega) ?_
    repeat' (first
      | (refine j_go ?_; first
        | refine j_op0 rfl rfl rfl rfl ?_ | (refine j_kBin rfl ?_; first | refine j_in rfl rfl ⟨by omega, by omega⟩ rfl rfl ?_))
      | refine j_nil ?_
      | (refine r_go ?_; first | refine run_region ?_)
      | refine seqQ_normal ?_ | refine blockQ_normal ?_)
    exact loopQ_next (k + 1) (by omega) (by omega) (by rw [← take_rep_set hk]; rfl) ⟨rfl, rfl, nx _, trivial⟩
  · have : k = l.length := by omega
    subst this
    refine end_view (view_freeze (g := encRule) (z := 9) (ys := l) 0 2 rfl rfl (by simp) (fun _ => rfl : ∀ y, (encRule y).length = 9) rfl rfl) ?_
    exact end1 rfl (List.Sublist.refl _) rfl (.inl rfl)
theorem c_eqRuleS (a b : List (Rule)) : Gives Try.prog 29 [.sl (a.map encRule), .sl (b.map encRule)] (.raw (.bool (dec (a = b)))) := by
  refine fn_of_run tyOk ztOk mix Try.func29 rfl (by decide) Try.ntmps29 (fun w0 h => ?_)
  refine run_len (t := 0) rfl (fun hla => ?_)
  refine run_len (t := 1) rfl (fun hlb => ?_)
  rw [List.length_map] at hla hlb
  repeat' (first
      | (refine j_go ?_; first
        | refine j_op0 rfl rfl rfl rfl ?_ | (refine j_kLen rfl ?_; first | refine j_len rfl rfl rfl rfl rfl rfl ?_))
      | refine j_nil ?_
      | (refine r_go ?_; first | refine run_seq ?_ | refine run_region ?_ | (refine (run_ifn rfl (fun hb => ?_) (fun hb => ?_)) <;> first | (exfalso; omega) | skip) | refine run_block ?_ | refine run_ret ?_ | refine run_skip ?_)
      | refine seqQ_normal ?_ | refine seqQ_ret ?_)
  · exact end1 rfl (List.Sublist.refl _) (rb (dec_f (fun q => hb (by rw [q]))).symm) (.inl rfl)
  · have hn : a.length = b.length := by omega
    refine run_loop (fun k : Nat => [(0, .sl (a.map encRule)), (1, .sl (b.map encRule)), (5, .int (k : Int))]) (fun _ => h) (fun k => k ≤ a.length ∧ a.take k = b.take k) (fun k => a.length - k) 0 ⟨rfl, rfl, rfl, trivial⟩ rfl ⟨by omega, rfl⟩ ?_
    intro k ⟨g1, g2⟩
    repeat' (first
      | (refine j_go ?_; first
        | refine j_op0 rfl rfl rfl rfl ?_ | (refine j_kIdx rfl ?_; first | refine j_idx rfl rfl rfl rfl rfl (by omega) rfl rfl rfl ?_) | (refine j_kBin rfl ?_; first | refine j_in rfl rfl ⟨by omega, by omega⟩ rfl rfl ?_) | (refine j_kLen rfl ?_; first | refine j_len rfl rfl rfl rfl rfl rfl ?_) | (refine j_kCall rfl rfl rfl rfl ?_; first | refine jc (c_eqRule _ _) (LeL.refl _) rfl rfl ?_))
      | refine j_nil ?_
      | (refine r_go ?_; first | refine run_seq ?_ | refine run_region ?_ | (refine (run_if rfl (fun hb => ?_) (fun hb => ?_)) <;> first | (exfalso; omega) | skip) | (refine (run_ifn rfl (fun hb => ?_) (fun hb => ?_)) <;> first | (exfalso; omega) | skip) | refine run_block ?_ | refine run_ret ?_ | refine run_exit ?_ | refine run_skip ?_ | refine run_regionD (by kernel_rfl) ?_)
      | refine seqQ_normal ?_ | refine seqQ_ret ?_ | refine seqQ_exit ?_ | refine blockQ_normal ?_ | refine blockQ_ret ?_ | refine blockQ_eq ?_ | refine loopQ_ret ?_ | refine loopQ_exit ?_)
    · exact end1 rfl (List.Sublist.refl _) (rb (dec_f (fun q => hb (by subst q; rfl))).symm) (.inl rfl)
    · exact loopQ_next (k + 1) ⟨by omega, take_eq_succ g2 (by omega) (by omega) hb⟩ (by omega) rfl ⟨rfl, rfl, nx _, trivial⟩
    · have hk : k = a.length := by omega
      subst hk
      exact end1 rfl (List.Sublist.refl _) (rb (dec_t (by rw [List.take_length, hn, List.take_length] at g2; exact g2)).symm) (.inl rfl)

structure System where
  kinds : Int
  parents : List Int
  rules : List Rule
  deriving DecidableEq, Inhabited
def encSystem (x : System) : List A := [.int x.kinds, .sl (x.parents.map Go.AI.encI), .sl (x.rules.map encRule)]
def szSystem (left : Int) (x : System) : Int := if szR left x.parents < 0 then -1 else if szSl szRule (szR left x.parents) x.rules < 0 then -1 else szSl szRule (szR left x.parents) x.rules
/-- What its size tells of it. -/
structure OkSystem (x : System) : Prop where
  parents : x.parents.length ≤ 1048576
  rules : x.rules.length ≤ 1048576 ∧ ∀ r ∈ x.rules, OkRule r
theorem szSystem_le {left : Int} {x : System} (h1 : -1 ≤ left) (h2 : left ≤ 1048576) : -1 ≤ szSystem left x ∧ szSystem left x ≤ 1048576 := by
  have l0 : -1 ≤ szR left x.parents ∧ szR left x.parents ≤ 1048576 := szR_le h1 h2
  have l1 : -1 ≤ szSl szRule (szR left x.parents) x.rules ∧ szSl szRule (szR left x.parents) x.rules ≤ 1048576 := szSl_le (fun _ _ p q => szRule_le p q) l0.1 l0.2
  unfold szSystem
  repeat' split
  all_goals first | omega | assumption
theorem szSystem_ok {left : Int} {x : System} (h1 : -1 ≤ left) (h2 : left ≤ 1048576) (h : ¬ szSystem left x < 0) : OkSystem x := by
  have l0 : -1 ≤ szR left x.parents ∧ szR left x.parents ≤ 1048576 := szR_le h1 h2
  have l1 : -1 ≤ szSl szRule (szR left x.parents) x.rules ∧ szSl szRule (szR left x.parents) x.rules ≤ 1048576 := szSl_le (fun _ _ p q => szRule_le p q) l0.1 l0.2
  unfold szSystem at h
  split at h
  · exact absurd (by decide) h
  rename_i q0
  split at h
  · exact absurd (by decide) h
  rename_i q1
  exact ⟨(szR_ok h2 q0), (szSl_ok (p := OkRule) (fun _ _ p q => szRule_le p q) (fun _ _ p q r => szRule_ok p q r) l0.1 l0.2 q1)⟩
theorem c_szSystem (x : System) (left : Int) (h1 : -1 ≤ left) (h2 : left ≤ 1048576) : Gives Try.prog 4 [.agg (encSystem x), .int left] (.int (szSystem left x)) := by
  have l0 : -1 ≤ szR left x.parents ∧ szR left x.parents ≤ 1048576 := szR_le h1 h2
  have l1 : -1 ≤ szSl szRule (szR left x.parents) x.rules ∧ szSl szRule (szR left x.parents) x.rules ≤ 1048576 := szSl_le (fun _ _ p q => szRule_le p q) l0.1 l0.2
  refine fn_of_run tyOk ztOk mix Try.func4 rfl (by decide) Try.ntmps4 (fun w0 h => ?_)
  repeat' (first
      | (refine j_go ?_; first
        | refine j_op0 rfl rfl rfl rfl ?_ | (refine j_kCall rfl rfl rfl rfl ?_; first | refine jc (c_szInt64S _ _ (by omega) (by omega)) (LeL.refl _) rfl rfl ?_ | refine jc (c_szRuleS _ _ (by omega) (by omega)) (LeL.refl _) rfl rfl ?_) | refine j_box rfl rfl rfl rfl rfl rfl ?_)
      | refine j_nil ?_
      | (refine r_go ?_; first | refine run_seq ?_ | refine run_region ?_ | (refine (run_if rfl (fun hb => ?_) (fun hb => ?_)) <;> first | (exfalso; omega) | skip) | refine run_ret ?_ | refine run_skip ?_)
      | refine seqQ_normal ?_ | refine seqQ_ret ?_)
  all_goals exact end1 rfl (List.Sublist.refl _) (ai (by unfold szSystem; repeat' split; all_goals first | rfl | contradiction)) (.inl rfl)
theorem c_toSystem (x : System) (hx : OkSystem x) : Gives Try.prog 7 [.agg (encSystem x)] (.agg (encSystem x)) := by
  obtain ⟨k0, ⟨k1, m1⟩⟩ := hx
  refine fn_of_run tyOk ztOk mix Try.func7 rfl (by decide) Try.ntmps7 (fun w0 h => ?_)
  repeat' (first
      | (refine j_go ?_; first
        | refine j_op0 rfl rfl rfl rfl ?_ | (refine j_kCall rfl rfl rfl rfl ?_; first | refine jc (c_toInt64S _ (by assumption)) (LeL.refl _) rfl rfl ?_ | refine jc (c_toRuleS _ (by assumption) (by assumption)) (LeL.refl _) rfl rfl ?_) | (refine j_kLoad rfl ?_; first | refine j_mload 0 rfl rfl rfl rfl rfl rfl rfl ?_) | (refine j_kStore rfl ?_; first | refine j_store 0 rfl rfl rfl rfl rfl rfl rfl rfl rfl rfl rfl ?_ | refine j_storeN 1 rfl rfl rfl rfl rfl rfl rfl rfl rfl rfl rfl ?_) | refine j_box rfl rfl rfl rfl rfl rfl ?_ | refine j_alloc rfl rfl rfl rfl rfl (fun _ => ?_))
      | refine j_nil ?_
      | (refine r_go ?_; first | refine run_seq ?_ | refine run_region ?_ | refine run_ret ?_)
      | refine seqQ_normal ?_)
  exact end_cellM rfl 1 rfl rfl sub2 (Le.refl _) (.inl rfl)
theorem c_eqSystem (x y : System) : Gives Try.prog 11 [.agg (encSystem x), .agg (encSystem y)] (.raw (.bool (dec (x = y)))) := by
  refine fn_of_run tyOk ztOk mix Try.func11 rfl (by decide) Try.ntmps11 (fun w0 h => ?_)
  repeat' (first
      | (refine j_go ?_; first
        | refine j_op0 rfl rfl rfl rfl ?_ | (refine j_kCall rfl rfl rfl rfl ?_; first | refine jc (c_eqInt64S _ _) (LeL.refl _) rfl rfl ?_ | refine jc (c_eqRuleS _ _) (LeL.refl _) rfl rfl ?_) | refine j_box rfl rfl rfl rfl rfl rfl ?_)
      | refine j_nil ?_
      | (refine r_go ?_; first | refine run_seq ?_ | refine run_region ?_ | (refine (run_ifn rfl (fun hb => ?_) (fun hb => ?_)) <;> first | (exfalso; omega) | skip) | refine run_ret ?_ | refine run_skip ?_)
      | refine seqQ_normal ?_ | refine seqQ_ret ?_)
  all_goals first | exact end1 rfl (List.Sublist.refl _) (rb (dec_f (fun q => hb (by rw [q]))).symm) (.inl rfl) | exact end1 rfl (List.Sublist.refl _) (rb (dec_t (by cases x; cases y; simp_all)).symm) (.inl rfl)

structure State where
  alive : List Bool
  bags : List (List Int)
  around : List Int
  deriving DecidableEq, Inhabited
def encState (x : State) : List A := [.sl (x.alive.map encB), .sl (x.bags.map (encS Go.AI.encI)), .sl (x.around.map Go.AI.encI)]
def szState (left : Int) (x : State) : Int := if szR left x.alive < 0 then -1 else if szSl szR (szR left x.alive) x.bags < 0 then -1 else if szR (szSl szR (szR left x.alive) x.bags) x.around < 0 then -1 else szR (szSl szR (szR left x.alive) x.bags) x.around
/-- What its size tells of it. -/
structure OkState (x : State) : Prop where
  alive : x.alive.length ≤ 1048576
  bags : x.bags.length ≤ 1048576 ∧ ∀ r ∈ x.bags, r.length ≤ 1048576
  around : x.around.length ≤ 1048576
theorem szState_le {left : Int} {x : State} (h1 : -1 ≤ left) (h2 : left ≤ 1048576) : -1 ≤ szState left x ∧ szState left x ≤ 1048576 := by
  have l0 : -1 ≤ szR left x.alive ∧ szR left x.alive ≤ 1048576 := szR_le h1 h2
  have l1 : -1 ≤ szSl szR (szR left x.alive) x.bags ∧ szSl szR (szR left x.alive) x.bags ≤ 1048576 := szSl_le (fun _ _ p q => szR_le p q) l0.1 l0.2
  have l2 : -1 ≤ szR (szSl szR (szR left x.alive) x.bags) x.around ∧ szR (szSl szR (szR left x.alive) x.bags) x.around ≤ 1048576 := szR_le l1.1 l1.2
  unfold szState
  repeat' split
  all_goals first | omega | assumption
theorem szState_ok {left : Int} {x : State} (h1 : -1 ≤ left) (h2 : left ≤ 1048576) (h : ¬ szState left x < 0) : OkState x := by
  have l0 : -1 ≤ szR left x.alive ∧ szR left x.alive ≤ 1048576 := szR_le h1 h2
  have l1 : -1 ≤ szSl szR (szR left x.alive) x.bags ∧ szSl szR (szR left x.alive) x.bags ≤ 1048576 := szSl_le (fun _ _ p q => szR_le p q) l0.1 l0.2
  have l2 : -1 ≤ szR (szSl szR (szR left x.alive) x.bags) x.around ∧ szR (szSl szR (szR left x.alive) x.bags) x.around ≤ 1048576 := szR_le l1.1 l1.2
  unfold szState at h
  split at h
  · exact absurd (by decide) h
  rename_i q0
  split at h
  · exact absurd (by decide) h
  rename_i q1
  split at h
  · exact absurd (by decide) h
  rename_i q2
  exact ⟨(szR_ok h2 q0), (szSl_ok (p := fun r => r.length ≤ 1048576) (fun _ _ p q => szR_le p q) (fun _ _ _ q r => szR_ok q r) l0.1 l0.2 q1), (szR_ok l1.2 q2)⟩
theorem c_szState (x : State) (left : Int) (h1 : -1 ≤ left) (h2 : left ≤ 1048576) : Gives Try.prog 5 [.agg (encState x), .int left] (.int (szState left x)) := by
  have l0 : -1 ≤ szR left x.alive ∧ szR left x.alive ≤ 1048576 := szR_le h1 h2
  have l1 : -1 ≤ szSl szR (szR left x.alive) x.bags ∧ szSl szR (szR left x.alive) x.bags ≤ 1048576 := szSl_le (fun _ _ p q => szR_le p q) l0.1 l0.2
  have l2 : -1 ≤ szR (szSl szR (szR left x.alive) x.bags) x.around ∧ szR (szSl szR (szR left x.alive) x.bags) x.around ≤ 1048576 := szR_le l1.1 l1.2
  refine fn_of_run tyOk ztOk mix Try.func5 rfl (by decide) Try.ntmps5 (fun w0 h => ?_)
  repeat' (first
      | (refine j_go ?_; first
        | refine j_op0 rfl rfl rfl rfl ?_ | (refine j_kCall rfl rfl rfl rfl ?_; first | refine jc (c_szBoolS _ _ (by omega) (by omega)) (LeL.refl _) rfl rfl ?_ | refine jc (c_szInt64SS _ _ (by omega) (by omega)) (LeL.refl _) rfl rfl ?_ | refine jc (c_szInt64S _ _ (by omega) (by omega)) (LeL.refl _) rfl rfl ?_) | refine j_box rfl rfl rfl rfl rfl rfl ?_)
      | refine j_nil ?_
      | (refine r_go ?_; first | refine run_seq ?_ | refine run_region ?_ | (refine (run_if rfl (fun hb => ?_) (fun hb => ?_)) <;> first | (exfalso; omega) | skip) | refine run_ret ?_ | refine run_skip ?_)
      | refine seqQ_normal ?_ | refine seqQ_ret ?_)
  all_goals exact end1 rfl (List.Sublist.refl _) (ai (by unfold szState; repeat' split; all_goals first | rfl | contradiction)) (.inl rfl)
theorem c_toState (x : State) (hx : OkState x) : Gives Try.prog 8 [.agg (encState x)] (.agg (encState x)) := by
  obtain ⟨k0, ⟨k1, m1⟩, k2⟩ := hx
  refine fn_of_run tyOk ztOk mix Try.func8 rfl (by decide) Try.ntmps8 (fun w0 h => ?_)
  repeat' (first
      | (refine j_go ?_; first
        | refine j_op0 rfl rfl rfl rfl ?_ | (refine j_kCall rfl rfl rfl rfl ?_; first | refine jc (c_toBoolS _ (by assumption)) (LeL.refl _) rfl rfl ?_ | refine jc (c_toInt64SS _ (by assumption) (by assumption)) (LeL.refl _) rfl rfl ?_ | refine jc (c_toInt64S _ (by assumption)) (LeL.refl _) rfl rfl ?_) | (refine j_kLoad rfl ?_; first | refine j_mload 0 rfl rfl rfl rfl rfl rfl rfl ?_) | (refine j_kStore rfl ?_; first | refine j_store 0 rfl rfl rfl rfl rfl rfl rfl rfl rfl rfl rfl ?_ | refine j_storeN 1 rfl rfl rfl rfl rfl rfl rfl rfl rfl rfl rfl ?_) | refine j_box rfl rfl rfl rfl rfl rfl ?_ | refine j_alloc rfl rfl rfl rfl rfl (fun _ => ?_))
      | refine j_nil ?_
      | (refine r_go ?_; first | refine run_seq ?_ | refine run_region ?_ | refine run_ret ?_)
      | refine seqQ_normal ?_)
  exact end_cellM rfl 1 rfl rfl sub2 (Le.refl _) (.inl rfl)
theorem c_eqState (x y : State) : Gives Try.prog 12 [.agg (encState x), .agg (encState y)] (.raw (.bool (dec (x = y)))) := by
  refine fn_of_run tyOk ztOk mix Try.func12 rfl (by decide) Try.ntmps12 (fun w0 h => ?_)
  repeat' (first
      | (refine j_go ?_; first
        | refine j_op0 rfl rfl rfl rfl ?_ | (refine j_kCall rfl rfl rfl rfl ?_; first | refine jc (c_eqBoolS _ _) (LeL.refl _) rfl rfl ?_ | refine jc (c_eqInt64SS _ _) (LeL.refl _) rfl rfl ?_ | refine jc (c_eqInt64S _ _) (LeL.refl _) rfl rfl ?_) | refine j_box rfl rfl rfl rfl rfl rfl ?_)
      | refine j_nil ?_
      | (refine r_go ?_; first | refine run_seq ?_ | refine run_region ?_ | (refine (run_ifn rfl (fun hb => ?_) (fun hb => ?_)) <;> first | (exfalso; omega) | skip) | refine run_ret ?_ | refine run_skip ?_)
      | refine seqQ_normal ?_ | refine seqQ_ret ?_)
  all_goals first | exact end1 rfl (List.Sublist.refl _) (rb (dec_f (fun q => hb (by rw [q]))).symm) (.inl rfl) | exact end1 rfl (List.Sublist.refl _) (rb (dec_t (by cases x; cases y; simp_all)).symm) (.inl rfl)
end Go.Proofs.Ytlllmhjpcdcoiaa

/-
  Library functions over lists of rules and of what is put into cells: the first element of a kind. No condition.
-/
namespace Go.Proofs.Ytlllmhjpcdcoiaa
open Go.AI
set_option maxRecDepth 8000
set_option maxHeartbeats 1600000


theorem c_ixfN (f : FuncId) (caps : List A) (r : Into → Prop) (l : List (Into)) (hf : ∀ x ∈ l, Gives Try.prog f (.agg (encInto x) :: caps) (.raw (.bool (dec (r x))))) : Gives Try.prog 74 [.sl (l.map encInto), .fn f caps] (.int (fIdx r l)) := by
  refine fn_of_run tyOk ztOk mix Try.func74 rfl (by decide) Try.ntmps74 (fun w0 h => ?_)
  refine run_len (t := 0) rfl (fun hl => ?_)
  rw [List.length_map] at hl
  repeat' (first
      | (refine j_go ?_; first
        | refine j_op0 rfl rfl rfl rfl ?_ | (refine j_kLen rfl ?_; first | refine j_len rfl rfl rfl rfl rfl rfl ?_))
      | refine j_nil ?_
      | (refine r_go ?_; first | refine run_seq ?_ | refine run_region ?_ | refine run_block ?_)
      | refine seqQ_normal ?_)
  refine run_loop (fun k : Nat => [(0, .sl (l.map encInto)), (1, .fn f caps), (7, .int l.length), (8, .int (k : Int))]) (fun _ => _) (fun k => k ≤ l.length ∧ (∀ i (h : i < l.length), i < k → ¬ r l[i])) (fun k => l.length - k) 0 ⟨rfl, rfl, rfl, rfl, trivial⟩ rfl ⟨Nat.zero_le _, by first | (intros; omega) | (simp; done) | rfl | trivial | exact ⟨by simp [sumF], by intros; omega⟩ | exact ⟨by omega, by simp⟩⟩ (fun k ⟨kl, kp⟩ => ?_)
  repeat' (first
      | (refine j_go ?_; first
        | refine j_op0 rfl rfl rfl rfl ?_ | (refine j_kIdx rfl ?_; first | refine j_idx rfl rfl rfl rfl rfl (by omega) rfl rfl rfl ?_) | (refine j_kBin rfl ?_; first | refine j_in rfl rfl ⟨by omega, by omega⟩ rfl rfl ?_) | (refine j_kCall rfl rfl rfl rfl ?_; first | refine jc (hf _ (List.getElem_mem _)) (LeL.refl _) rfl rfl ?_))
      | refine j_nil ?_
      | (refine r_go ?_; first | refine run_seq ?_ | refine run_region ?_ | (refine (run_if rfl (fun hb => ?_) (fun hb => ?_)) <;> first | (exfalso; omega) | skip) | refine run_block ?_ | refine run_ret ?_ | refine run_exit ?_ | refine run_skip ?_)
      | refine seqQ_normal ?_ | refine seqQ_ret ?_ | refine seqQ_exit ?_ | refine blockQ_normal ?_ | refine blockQ_ret ?_ | refine blockQ_eq ?_ | refine loopQ_ret ?_ | refine loopQ_exit ?_)
  · exact end1 rfl (List.Sublist.refl _) (ai (fIdx_at (by omega) hb kp).symm) (.inl rfl)
  · exact loopQ_nextD (k + 1) ⟨by omega, all_step kp (fun _ => hb)⟩ (by omega) (by first | exact List.Sublist.refl _ | exact sub1 | exact sub2 | exact sub3) ⟨rfl, rfl, rfl, nx _, trivial⟩
  · exact end1 rfl (List.Sublist.refl _) (ai (fIdx_none (fun i h => kp i h (by omega))).symm) (.inl rfl)

theorem c_cfN (f : FuncId) (caps : List A) (r : Into → Prop) (l : List (Into)) (hf : ∀ x ∈ l, Gives Try.prog f (.agg (encInto x) :: caps) (.raw (.bool (dec (r x))))) : Gives Try.prog 62 [.sl (l.map encInto), .fn f caps] (.raw (.bool (dec (∃ x ∈ l, r x)))) := by
  refine fn_of_run tyOk ztOk mix Try.func62 rfl (by decide) Try.ntmps62 (fun w0 h => ?_)
  repeat' (first
      | (refine j_go ?_; first
        | refine j_op0 rfl rfl rfl rfl ?_ | (refine j_kCall rfl rfl rfl rfl ?_; first | refine jc (c_ixfN _ _ r _ hf) (LeL.refl _) rfl rfl ?_))
      | refine j_nil ?_
      | (refine r_go ?_; first | refine run_seq ?_ | refine run_region ?_ | refine run_ret ?_)
      | refine seqQ_normal ?_)
  exact end1 rfl (List.Sublist.refl _) (rbD (fIdx_ex r l)) (.inl rfl)

end Go.Proofs.Ytlllmhjpcdcoiaa
