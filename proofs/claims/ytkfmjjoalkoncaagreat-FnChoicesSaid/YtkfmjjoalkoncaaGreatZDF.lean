/-
  What the source of choices draws for systems: bags and counts. No condition.
-/
import Derived.Test.YtkfmjjoalkoncaaGreatZG2
import Derived.Test.YtkfmjjoalkoncaaGreatZS2d
import Derived.Test.YtkfmjjoalkoncaaGreatZSV
namespace Go.Proofs.YtkfmjjoalkoncaaGreat
open Go.AI
set_option maxRecDepth 8000
set_option maxHeartbeats 1600000

theorem tot_set {v : Int} : ∀ {l : List Int} {i : Nat} (h : i < l.length), tot (l.set i v) = tot l - l[i] + v
  | x :: l, 0, _ => by
    show v + tot l = x + tot l - x + v
    omega
  | x :: l, i + 1, h => by
    have := tot_set (v := v) (l := l) (i := i) (by simpa using h)
    show x + tot (l.set i v) = x + tot l - l[i]'(by simpa using h) + v
    omega
theorem le_tot : ∀ {l : List Int}, (∀ x ∈ l, 0 ≤ x) → 0 ≤ tot l ∧ ∀ x ∈ l, x ≤ tot l
  | [], _ => ⟨Int.le_refl _, by simp⟩
  | y :: l, h => by
    have h1 := le_tot (l := l) (fun x hx => h x (by simp [hx]))
    have hy := h y (by simp)
    have e : tot (y :: l) = y + tot l := rfl
    refine ⟨by omega, fun x hx => ?_⟩
    rcases List.mem_cons.1 hx with rfl | hx
    · omega
    · have := h1.2 x hx; omega
abbrev lsI (T : Nat) (b : Option Nat) (cap : Nat) (l : List Int) : Blk := ⟨b, T, cap * 1, (l.map Go.AI.encI).flatten⟩
/-- A bag that is drawn, in memory of its own, and the source behind it. -/
def FewR (s : Nat) (code : List UInt8) (lim : Nat) (kinds : Int) (p : List Int → Prop) : A → Heap → Prop := fun v h' => ∃ (l : List Int) (b : Option Nat) (cap at2 : Nat) (sd : Int), v = .os b l.length cap ∧ (l.length : Int) = kinds ∧ (∀ x ∈ l, 0 ≤ x ∧ x ≤ 5) ∧ p l ∧ at2 ≤ lim ∧ h' = [lsI 2 b cap l, srcB s code at2 sd]
theorem o_l02Few (s : Nat) (code : List UInt8) (at_ : Nat) (sd kinds most : Int) (ha : at_ ≤ 100000) (hk : 1 ≤ kinds ∧ kinds ≤ 8) (hm : 0 ≤ most ∧ most ≤ 5) : Does Tryz.prog 36 [.op (some s) 0, .int kinds, .int most] [srcB s code at_ sd] (FewR s code (at_ + 12) kinds (fun _ => True)) := by
  refine fn_of_runD tyOk ztOk mix Tryz.func36 rfl (by decide) Tryz.ntmps36 (fun w0 F => ?_)
  change Run _ _ _ _ _ (_ :: F)
  obtain ⟨K, rfl⟩ : ∃ K : Nat, kinds = (K : Int) := ⟨kinds.toNat, by omega⟩
  repeat' (first
      | (refine j_go ?_; first
        | refine j_op0 rfl rfl rfl rfl ?_)
      | refine j_nil ?_
      | (refine r_go ?_; first | refine run_seq ?_ | refine run_region ?_)
      | refine seqQ_normal ?_)
  refine j_makeI (g := Go.AI.encI) (m := K) 0 rfl rfl rfl rfl rfl rfl rfl rfl rfl (by omega) rfl rfl (fun bz => ?_)
  repeat' (first
      | (refine j_go ?_; first
        | refine j_op0 rfl rfl rfl rfl ?_ | (refine j_kBin rfl ?_; first | refine j_in rfl rfl ⟨by omega, by omega⟩ rfl rfl ?_))
      | refine j_nil ?_
      | (refine r_go ?_; first | refine run_seq ?_ | refine run_region ?_)
      | refine seqQ_normal ?_)
  refine j_kCall rfl rfl rfl rfl ?_
  refine jcp (_ :: F) (o_pick s code at_ sd (most + 1) (by omega) (by omega)) (List.Perm.swap _ _ _) (LeL.refl _) rfl rfl (fun v h1 hR => ?_)
  obtain ⟨r, a1, sd1, rfl, hr, ha1, rfl⟩ := hR
  repeat' (first
      | (refine j_go ?_; first
        | refine j_op0 rfl rfl rfl rfl ?_)
      | refine j_nil ?_
      | (refine r_go ?_; first | refine run_block ?_)
      | refine seqQ_normal ?_)
  refine run_loop (fun x : Int × List Int × Nat × Int => [(0, .op (some s) 0), (1, .int (K : Int)), (7, .os (some bz) K K), (8, .int x.1)]) (fun x => srcB s code x.2.2.1 x.2.2.2 :: ⟨some bz, 2, K * 1, (x.2.1.map Go.AI.encI).flatten⟩ :: F)
    (fun x => (0 ≤ x.1 ∧ x.1 ≤ most) ∧ x.2.1.length = K ∧ (∀ y ∈ x.2.1, 0 ≤ y ∧ y ≤ most - x.1) ∧ (x.2.2.1 : Int) ≤ at_ + 2 + 2 * (most - x.1)) (fun x => x.1.toNat) (r, List.replicate K 0, a1, sd1) ⟨rfl, rfl, rfl, rfl, trivial⟩ rfl ⟨by dsimp only; omega, List.length_replicate, fun y hy => by dsimp only at hy ⊢; rw [List.eq_of_mem_replicate hy]; omega, by dsimp only; omega⟩ (fun ⟨i, l, a, sd⟩ ⟨hi, hl, hy, hA⟩ => ?_)
  dsimp only at hi hl hy hA ⊢
  by_cases h0 : 0 < i
  case pos =>
    repeat' (first
      | (refine j_go ?_; first
        | refine j_op0 rfl rfl rfl rfl ?_)
      | refine j_nil ?_
      | (refine r_go ?_; first | refine run_seq ?_ | refine run_region ?_ | (refine (run_if rfl (fun hb => ?_) (fun hb => ?_)) <;> first | (exfalso; omega) | skip) | refine run_block ?_ | refine run_skip ?_)
      | refine seqQ_normal ?_)
    refine j_kCall rfl rfl rfl rfl ?_
    refine jcp (_ :: F) (o_pick s code a sd K (by omega) (by omega)) (List.Perm.refl _) (LeL.refl _) rfl rfl (fun v h1 hR => ?_)
    obtain ⟨r2, a2, sd2, rfl, hr2, ha2, rfl⟩ := hR
    repeat' (first
      | (refine j_go ?_; first
        | (refine j_kIdx rfl ?_; first | refine j_midxz rfl rfl rfl rfl rfl (by first | omega | (simp only [List.length_append, List.length_cons, List.length_nil]; omega)) rfl rfl ?_)))
    have hr3 : r2.toNat < l.length := by omega
    have hg := hy _ (List.getElem_mem hr3)
    refine j_mloadE 1 r2.toNat (g := Go.AI.encI) (L := l) (z := 1) rfl rfl rfl rfl (fun _ => rfl) (by omega) (by omega) (fun _ => rfl) rfl rfl ?_
    repeat' (first
      | (refine j_go ?_; first
        | (refine j_kIdx rfl ?_; first | refine j_midxz rfl rfl rfl rfl rfl (by first | omega | (simp only [List.length_append, List.length_cons, List.length_nil]; omega)) rfl rfl ?_) | (refine j_kBin rfl ?_; first | refine j_in rfl rfl ⟨by omega, by omega⟩ rfl rfl ?_)))
    refine j_storeE 1 r2.toNat (g := Go.AI.encI) (l[r2.toNat] + 1) rfl rfl rfl rfl rfl rfl rfl rfl rfl (fun _ => rfl) (by omega) (by omega) ?_
    repeat' (first
      | (refine j_go ?_; first
        | refine j_op0 rfl rfl rfl rfl ?_ | (refine j_kBin rfl ?_; first | refine j_in rfl rfl ⟨by omega, by omega⟩ rfl rfl ?_))
      | refine j_nil ?_
      | (refine r_go ?_; first | refine run_region ?_)
      | refine seqQ_normal ?_ | refine blockQ_normal ?_)
    exact loopQ_next (i - 1, l.set r2.toNat (l[r2.toNat] + 1), a2, sd2) ⟨by dsimp only; omega, by dsimp only; rw [List.length_set]; exact hl, fun y h => by
      dsimp only at h ⊢
      rcases List.mem_or_eq_of_mem_set h with q | q
      · have := hy y q; omega
      · subst q; omega, by dsimp only; omega⟩ (by dsimp only; omega) rfl ⟨rfl, rfl, rfl, rfl, trivial⟩
  obtain rfl : i = 0 := by omega
  repeat' (first
      | (refine j_go ?_; first
        | refine j_op0 rfl rfl rfl rfl ?_)
      | refine j_nil ?_
      | (refine r_go ?_; first | refine run_seq ?_ | refine run_region ?_ | (refine (run_if rfl (fun hb => ?_) (fun hb => ?_)) <;> first | (exfalso; omega) | skip) | refine run_ret ?_ | refine run_exit ?_)
      | refine seqQ_normal ?_ | refine seqQ_exit ?_ | refine blockQ_eq ?_ | refine loopQ_exit ?_)
  refine endD_view (view_perm (List.Perm.swap _ _ _)) ?_
  exact endD_ret (h1 := [_, _]) rfl (.cons (.tmp rfl) .nil) (Le.refl _) ⟨l, some bz, K, a, sd, by rw [hl]; rfl, by omega, fun y h => by have := hy y h; omega, trivial, by omega, rfl⟩ (.inl rfl)
theorem o_l02Some (s : Nat) (code : List UInt8) (at_ : Nat) (sd kinds most : Int) (ha : at_ ≤ 90000) (hk : 1 ≤ kinds ∧ kinds ≤ 8) (hm : 0 ≤ most ∧ most ≤ 5) : Does Tryz.prog 63 [.op (some s) 0, .int kinds, .int most] [srcB s code at_ sd] (FewR s code (at_ + 14) kinds (fun l => ¬ tot l = 0)) := by
  refine fn_of_runD tyOk ztOk mix Tryz.func63 rfl (by decide) Tryz.ntmps63 (fun w0 F => ?_)
  change Run _ _ _ _ _ (_ :: F)
  repeat' (first
      | (refine j_go ?_; first
        | refine j_op0 rfl rfl rfl rfl ?_)
      | refine j_nil ?_
      | (refine r_go ?_; first | refine run_seq ?_ | refine run_region ?_)
      | refine seqQ_normal ?_)
  refine j_kCall rfl rfl rfl rfl ?_
  refine jcp F (o_l02Few s code at_ sd kinds most (by omega) hk hm) (List.Perm.refl _) (LeL.refl _) rfl rfl (fun v h1 hR => ?_)
  obtain ⟨l, b, cap, a1, sd1, rfl, hl, hx, _, ha1, rfl⟩ := hR
  have hn := le_tot (fun x hx2 => (hx x hx2).1)
  repeat' (first
      | (refine j_go ?_; first
        | refine j_op0 rfl rfl rfl rfl ?_)
      | refine j_nil ?_
      | (refine r_go ?_; first | refine run_seq ?_ | refine run_region ?_)
      | refine seqQ_normal ?_)
  refine j_some 0 rfl (fun q => by have := flat_len (f := Go.AI.encI) (z := 1) (fun _ => rfl) l; rw [q] at this; simp at this; omega) (fun bq hbq => ?_)
  subst hbq
  refine j_kCall rfl rfl rfl rfl ?_
  refine jctq [lsI 2 (some bq) cap l] (c_l01Size l ⟨fun x hx2 => by have := hx x hx2; omega, by omega⟩) (Clo.int _) (fun k hk => by rw [List.mem_singleton] at hk; subst hk; exact List.mem_cons_self) (FrzL.cons (Frz.flat (g := Go.AI.encI) (ys := l) (z := 1) rfl rfl (fun _ => rfl) rfl rfl) (FrzL.nil _)) rfl rfl ?_
  repeat' (first
      | (refine j_go ?_; first
        | refine j_op0 rfl rfl rfl rfl ?_)
      | refine j_nil ?_
      | (refine r_go ?_; first | refine run_seq ?_ | refine run_region ?_ | (refine (run_if rfl (fun hb => ?_) (fun hb => ?_)) <;> first | (exfalso; omega) | skip) | refine run_ret ?_ | refine run_skip ?_)
      | refine seqQ_normal ?_)
  · refine j_kCall rfl rfl rfl rfl ?_
    refine jcp (_ :: F) (o_pick s code a1 sd1 kinds (by omega) (by omega)) (List.Perm.swap _ _ _) (LeL.refl _) rfl rfl (fun v h1 hR => ?_)
    obtain ⟨r, a2, sd2, rfl, hr, ha2, rfl⟩ := hR
    have hr3 : r.toNat < l.length := by omega
    have h0 := hn.2 _ (List.getElem_mem hr3)
    have h00 := (hx _ (List.getElem_mem hr3)).1
    repeat' (first
      | (refine j_go ?_; first
        | (refine j_kIdx rfl ?_; first | refine j_midxz rfl rfl rfl rfl rfl (by first | omega | (simp only [List.length_append, List.length_cons, List.length_nil]; omega)) rfl rfl ?_)))
    refine j_storeE 1 r.toNat (g := Go.AI.encI) (L := l) (sz := 1) (1 : Int) rfl rfl rfl rfl rfl rfl rfl rfl rfl (fun _ => rfl) (by omega) (by omega) ?_
    repeat' (first
      | (refine j_go ?_; first
        | refine j_op0 rfl rfl rfl rfl ?_)
      | refine j_nil ?_
      | (refine r_go ?_; first | refine run_seq ?_ | refine run_region ?_ | refine run_ret ?_)
      | refine seqQ_normal ?_)
    refine endD_view (view_perm (List.Perm.swap _ _ _)) ?_
    exact endD_ret (h1 := [_, _]) rfl (.cons (.tmp rfl) .nil) (Le.refl _) ⟨l.set r.toNat 1, some bq, cap, a2, sd2, by rw [List.length_set]; rfl, by rw [List.length_set]; exact hl, fun y h => by
      rcases List.mem_or_eq_of_mem_set h with q | q
      · exact hx y q
      · subst q; omega, by show ¬ tot (l.set r.toNat 1) = 0; rw [tot_set hr3]; omega, by omega, rfl⟩ (.inl rfl)
  · exact endD_ret (h1 := [_, _]) rfl (.cons (.tmp rfl) .nil) (Le.refl _) ⟨l, some bq, cap, a1, sd1, rfl, hl, hx, hb, by omega, rfl⟩ (.inl rfl)
theorem c_l02InX (K : Int) (ps : List Int) (x : A) (c o : Int) (hf : (⟨K, ps, []⟩ : System).Frame) (h0 : 0 ≤ c) (h1 : c ≤ (ps.length : Int) - 1) : Gives Tryz.prog 64 [.ip [.int K, .sl (ps.map Go.AI.encI), x], .int c, .int o] (.raw (.bool (dec (Lies ps o c)))) := by
  refine fn_of_run tyOk ztOk mix Tryz.func64 rfl (by decide) Tryz.ntmps64 (fun w0 h => ?_)
  have hl := hf.2.1
  dsimp only at hl
  repeat' (first
      | (refine j_go ?_; first
        | refine j_op0 rfl rfl rfl rfl ?_)
      | refine j_nil ?_
      | (refine r_go ?_; first | refine run_seq ?_ | refine run_region ?_ | refine run_block ?_)
      | refine seqQ_normal ?_)
  refine run_loop (fun z : Int => [(0, .ip [.int K, .sl (ps.map Go.AI.encI), x]), (1, .int z), (2, .int o)]) (fun _ => _) (fun z => (0 ≤ z ∧ z ≤ (ps.length : Int) - 1) ∧ (Lies ps o c ↔ Lies ps o z)) (fun z => z.toNat) c ⟨rfl, rfl, rfl, trivial⟩ rfl ⟨⟨h0, h1⟩, Iff.rfl⟩ (fun z ⟨xl, xe⟩ => ?_)
  have hp := hf.par (c := z) xl.1 xl.2
  dsimp only at hp
  have hi := lies_iff (ps := ps) (o := o) (c := z) (by omega)
  repeat' (first
      | (refine j_go ?_; first
        | refine j_op0 rfl rfl rfl rfl ?_ | (refine j_kIdx rfl ?_; first | refine j_idxz rfl rfl rfl rfl rfl ⟨by omega, by omega⟩ rfl rfl rfl ?_))
      | refine j_nil ?_
      | (refine r_go ?_; first | refine run_seq ?_ | refine run_region ?_ | (refine (run_if rfl (fun hb => ?_) (fun hb => ?_)) <;> first | (exfalso; omega) | skip) | refine run_block ?_ | refine run_ret ?_ | refine run_exit ?_ | refine run_skip ?_)
      | refine seqQ_normal ?_ | refine seqQ_ret ?_ | refine seqQ_exit ?_ | refine blockQ_normal ?_ | refine blockQ_ret ?_ | refine blockQ_eq ?_ | refine loopQ_ret ?_ | refine loopQ_exit ?_)
  · exact end1 rfl (by first | exact List.Sublist.refl _ | exact sub1 | exact sub2 | exact sub3) (rbT (xe.2 (hi.2 ⟨by omega, .inl hb⟩))) (.inl rfl)
  · exact loopQ_nextD _ ⟨⟨by omega, by omega⟩, by rw [xe, hi]; exact ⟨fun q => q.2.resolve_left hb, fun q => ⟨by omega, .inr q⟩⟩⟩ (by omega) (List.Sublist.refl _) ⟨rfl, rfl, rfl, trivial⟩
  · exact end1 rfl (by first | exact List.Sublist.refl _ | exact sub1 | exact sub2 | exact sub3) (rbF (fun q => by have := (hi.1 (xe.1 q)).1; omega)) (.inl rfl)
abbrev sysB (b : Nat) (cs : List A) : Blk := ⟨some b, 27, 3, cs⟩
abbrev rulB (b : Nat) (cs : List A) : Blk := ⟨some b, 64, 9, cs⟩
abbrev intB (b : Option Nat) (cap : Nat) (l : List Into) : Blk := ⟨b, 104, cap * 2, (l.map encInto).flatten⟩
theorem memB1 {k : Nat × Blk} {i : Nat} {b : Blk} (h : k ∈ [(i, b)]) : k.2 = b := by
  rw [List.mem_singleton] at h; rw [h]
theorem memB3 {k : Nat × Blk} {a b c : Nat} {x : Blk} (h : k ∈ [(a, x), (b, x), (c, x)]) : k.2 = x := by
  simp only [List.mem_cons, List.not_mem_nil, or_false] at h
  rcases h with rfl | rfl | rfl <;> rfl
abbrev zeroRul : List A := [.int 0, .int 0, .os none 0 0, .os none 0 0, .os none 0 0, .os none 0 0, .os none 0 0, .os none 0 0, .raw (.bool false)]
/-- A rule of which the lists 'here' and 'out' may be still to come. -/
def drawn (r : Rule) : List A := [.int r.cell, .int r.rank, .sl (r.need.map Go.AI.encI), .sl (r.have_.map Go.AI.encI), .sl (r.lack.map Go.AI.encI), .os none 0 0, .os none 0 0, .os none 0 0, .raw (.bool false)]
def drawn2 (r : Rule) : List A := [.int r.cell, .int r.rank, .sl (r.need.map Go.AI.encI), .sl (r.have_.map Go.AI.encI), .sl (r.lack.map Go.AI.encI), .sl (r.here.map Go.AI.encI), .sl (r.out.map Go.AI.encI), .os none 0 0, .raw (.bool false)]
def drawn3 (r : Rule) (b : Option Nat) (n cap : Nat) : List A := [.int r.cell, .int r.rank, .sl (r.need.map Go.AI.encI), .sl (r.have_.map Go.AI.encI), .sl (r.lack.map Go.AI.encI), .sl (r.here.map Go.AI.encI), .sl (r.out.map Go.AI.encI), .os b n cap, .raw (.bool false)]
/-- Targets of a rule. -/
def Tgts (y : System) (r : Rule) (l : List Into) : Prop := ∀ i (h : i < l.length), y.IntoOk r l[i] ∧ (0 < i → l[i-1].cell < l[i].cell)
theorem Tgts.snoc {y : System} {r : Rule} {l : List Into} {e : Into} (h : Tgts y r l) (he : y.IntoOk r e) (hl : ∀ x ∈ l, x.cell < e.cell) : Tgts y r (l ++ [e]) := fun i hi => by
  rw [List.length_append, List.length_singleton] at hi
  by_cases q : i < l.length
  · rw [List.getElem_append_left q]
    refine ⟨(h i q).1, fun h0 => ?_⟩
    rw [List.getElem_append_left (show i - 1 < l.length by omega)]
    exact (h i q).2 h0
  · have e1 : i = l.length := by omega
    subst e1
    rw [List.getElem_append_right (Nat.le_refl _)]
    simp only [Nat.sub_self, List.getElem_cons_zero]
    refine ⟨he, fun h0 => ?_⟩
    rw [List.getElem_append_left (show l.length - 1 < l.length by omega)]
    exact hl _ (List.getElem_mem _)
def gP (q : Int × A) : List A := [.int q.1, q.2]
def intoP (l : List Into) : List (Int × A) := l.map fun e => (e.cell, .sl (e.bag.map Go.AI.encI))
theorem intoP_map (l : List Into) : (intoP l).map gP = l.map encInto := by unfold intoP; rw [List.map_map]; rfl
theorem intoP_len (l : List Into) : (intoP l).length = l.length := by simp [intoP]
theorem into_flat (l : List Into) (c : Int) (a : A) : ((intoP l ++ [(c, a)]).map gP).flatten = (l.map encInto).flatten ++ [.int c, a] := by
  rw [List.map_append, List.flatten_append, intoP_map]; rfl
theorem into_get (l : List Into) (c : Int) (a : A) : (((intoP l ++ [(c, a)]).map gP).flatten)[2 * l.length + 1]? = some a := by
  have h := flat_len (f := encInto) (z := 2) (fun _ => rfl) l
  rw [into_flat, List.getElem?_append_right (by rw [h]; omega), h, show 2 * l.length + 1 - l.length * 2 = 1 from by omega]; rfl
theorem into_set (l : List Into) (c : Int) (a : A) (b : List Int) : (((intoP l ++ [(c, a)]).map gP).flatten).set (2 * l.length + 1) (.sl (b.map Go.AI.encI)) = ((l ++ [(⟨c, b⟩ : Into)]).map encInto).flatten := by
  have h := flat_len (f := encInto) (z := 2) (fun _ => rfl) l
  rw [into_flat, List.set_append_right _ _ (by rw [h]; omega), h, show 2 * l.length + 1 - l.length * 2 = 1 from by omega, List.map_append, List.flatten_append]; rfl
def PreOk (y : System) (r : Rule) : Prop := (0 ≤ r.cell ∧ r.cell ≤ (y.parents.length : Int) - 1) ∧ (0 ≤ r.rank ∧ r.rank ≤ 9) ∧ BagK y.kinds r.need ∧ BagK y.kinds r.have_ ∧ BagK y.kinds r.lack ∧ ¬ tot r.need = 0
/-- A rule to which only its targets are still to come. -/
def RulOk (y : System) (r : Rule) : Prop := PreOk y r ∧ BagK y.kinds r.here ∧ BagK y.kinds r.out
/-- A rule that is drawn, and the source and the system behind it. -/
def RulR (s : Nat) (code : List UInt8) (lim : Nat) (y : System) (by_ : Nat) (x : A) : A → Heap → Prop := fun v h' => ∃ (r : Rule) (k : Blk) (at2 : Nat) (sd : Int), y.RuleOk r ∧ v = .agg (encRule r) ∧ at2 ≤ lim ∧ h' = [k, srcB s code at2 sd, sysB by_ [.int y.kinds, .sl (y.parents.map Go.AI.encI), x]]
theorem o_l02DrawRule (s : Nat) (code : List UInt8) (at_ : Nat) (sd : Int) (y : System) (by_ : Nat) (x : A) (hy : y.Frame) (hk : y.kinds ≤ 3) (hp : y.parents.length ≤ 3) (ha : at_ ≤ 20000) : Does Tryz.prog 34 [.op (some s) 0, .op (some by_) 0] [srcB s code at_ sd, sysB by_ [.int y.kinds, .sl (y.parents.map Go.AI.encI), x]] (RulR s code (at_ + 200) y by_ x) := by
  refine fn_of_runD tyOk ztOk mix Tryz.func34 rfl (by decide) Tryz.ntmps34 (fun w0 F => ?_)
  change Run _ _ _ _ _ (_ :: _ :: F)
  obtain ⟨K, hK⟩ : ∃ K : Nat, y.kinds = (K : Int) := ⟨y.kinds.toNat, by have := hy.1; omega⟩
  have k8 := hy.1
  have p6 := hy.2.1
  rw [hK]
  have bagF : ∀ {l : List Int}, (l.length : Int) = (K : Int) → (∀ x ∈ l, 0 ≤ x ∧ x ≤ 5) → BagK y.kinds l := fun {l} hl hx => ⟨⟨fun x hx2 => by have := hx x hx2; omega, by omega, by omega⟩, by omega⟩
  have bagZ : BagK y.kinds (List.replicate K 0) := bagF (by rw [List.length_replicate]) (fun x hx => by rw [List.eq_of_mem_replicate hx]; omega)
  repeat' (first
      | (refine j_go ?_; first
        | refine j_op0 rfl rfl rfl rfl ?_ | (refine j_kLen rfl ?_; first | refine j_len rfl rfl rfl rfl rfl rfl ?_) | (refine j_kLoad rfl ?_; first | refine j_mload 2 rfl rfl rfl rfl rfl rfl rfl ?_) | refine j_alloc rfl rfl rfl rfl rfl (fun _ => ?_))
      | refine j_nil ?_
      | (refine r_go ?_; first | refine run_seq ?_ | refine run_region ?_)
      | refine seqQ_normal ?_)
  rename_i b4
  refine run_join (fun z : Rule × Nat × Nat × Int => [(0, .op (some s) 0), (1, .op (some by_) 0), (4, .op (some b4) 0), (5, .int (y.parents.length : Int)), (6, .op (some z.2.1) 0)])
    (fun z => rulB z.2.1 (drawn z.1) :: srcB s code z.2.2.1 z.2.2.2 :: sysB by_ [.int (K : Int), .sl (y.parents.map Go.AI.encI), x] :: rulB b4 zeroRul :: F)
    (fun z => PreOk y z.1 ∧ z.2.2.1 ≤ at_ + 16) ?_ (fun ⟨r, b6, a1, sd1⟩ ⟨hr, ha1⟩ => ?_)
  · repeat' (first
      | (refine j_goO ?_; first
        | refine j_op0O rfl rfl rfl rfl ?_ | (refine j_kLoadO rfl ?_; first | refine j_mloadS 2 rfl rfl rfl rfl rfl rfl rfl ?_))
      | (refine r_go ?_; first | refine run_opn 2 [⟨0, false, false, 0⟩, ⟨1, false, false, 0⟩, ⟨3, false, false, 0⟩, ⟨4, false, false, 0⟩, ⟨5, false, false, 0⟩, ⟨6, false, false, 0⟩, ⟨7, false, false, 0⟩, ⟨9, false, false, 0⟩, ⟨10, false, false, 0⟩, ⟨11, false, false, 0⟩, ⟨12, false, false, 0⟩, ⟨13, false, false, 0⟩, ⟨14, false, false, 0⟩, ⟨15, false, false, 0⟩, ⟨16, false, false, 0⟩, ⟨17, false, false, 0⟩, ⟨18, false, false, 0⟩, ⟨20, false, true, 3⟩, ⟨2, false, true, 0⟩, ⟨8, false, true, 0⟩, ⟨19, false, false, 0⟩, ⟨21, false, true, 0⟩] rfl rfl (by kernel_rfl) ?_))
    refine j_makeQO K rfl rfl rfl rfl rfl rfl (by omega) rfl rfl ?_
    repeat' (first
      | (refine j_goO ?_; first
        | refine j_op0O rfl rfl rfl rfl ?_ | (refine j_kLoadO rfl ?_; first | refine j_mloadS 2 rfl rfl rfl rfl rfl rfl rfl ?_)))
    refine j_makeQO K rfl rfl rfl rfl rfl rfl (by omega) rfl rfl ?_
    skip
    refine j_twoB rfl rfl rfl rfl (alloc_at rfl rfl) rfl rfl rfl (call_part 1 1 rfl rfl rfl (o_pick s code at_ sd y.parents.length (by omega) (by omega)) rfl (LeL.refl _)) rfl rfl
      (fun v h' ⟨b, q1, q2⟩ k hk => by rw [memB3 hk, q2]; exact List.mem_cons_of_mem _ (List.mem_cons_of_mem _ (List.mem_cons_of_mem _ List.mem_cons_self)))
      (fun v h' ⟨h1, ⟨r, a, sd', q1, q3, q4, q5⟩, q2⟩ k hk => by rw [memB3 hk, q2, q5]; exact List.mem_cons_of_mem _ (List.mem_cons_of_mem _ List.mem_cons_self)) (fun v h' hR => ?_) (fun v h' hR => ?_)
    · obtain ⟨b6, rfl, rfl⟩ := hR
      refine j_kCallO rfl rfl rfl rfl ?_
      refine jcdO 2 1 rfl (fun k hk => by rw [memB3 hk]; exact List.mem_cons_of_mem _ (List.mem_cons_of_mem _ List.mem_cons_self)) (o_pick s code at_ sd y.parents.length (by omega) (by omega)) rfl (LeL.refl _) rfl rfl (fun v h1 hR => ?_)
      obtain ⟨r, a1, sd1, rfl, hr, ha1, rfl⟩ := hR
      refine j_kCallO rfl rfl rfl rfl ?_
      refine jcdO 2 1 rfl (fun k hk => by rw [memB3 hk]; exact List.mem_cons_of_mem _ (List.mem_cons_of_mem _ List.mem_cons_self)) (o_l02Some s code a1 sd1 K 2 (by omega) (by omega) (by omega)) rfl (LeL.refl _) rfl rfl (fun v h1 hR => ?_)
      obtain ⟨l, bl, cl, a2, sd2, rfl, hl, hx, ht, ha2, rfl⟩ := hR
      refine j_dropO [17, 12, 7] rfl (by kernel_rfl) ?_
      repeat' (first
      | (refine j_goO ?_; first
        | (refine j_kStoreO rfl ?_; first | refine j_storeNO 0 rfl rfl rfl rfl rfl rfl rfl rfl rfl rfl rfl rfl (by first | (intro _ hk; exact absurd hk List.not_mem_nil) | (intro k hk; simp at hk ⊢; try simp [hk])) ?_) | refine j_buildO rfl rfl rfl rfl rfl rfl rfl ?_)
      | refine j_nilO ?_)
      refine joinQ_view (view_cellF (k := 2) (b := some b6) (h1 := [lsI 2 bl cl l]) (F := _ :: _ :: _ :: F) (List.Perm.cons _ (List.Perm.swap _ _ _)) rfl (FrzF.flat (g := Go.AI.encI) (ys := l) (z := 1) rfl rfl (fun _ => rfl) rfl rfl)) ?_
      refine joinQ_view (view_perm (List.Perm.cons _ (List.perm_middle (l₁ := [_, _])).symm)) ?_
      exact joinQ_done (⟨r, 0, l, List.replicate K 0, List.replicate K 0, [], [], [], false⟩, b6, a2, sd2) ⟨⟨by dsimp only; omega, by dsimp only; omega, bagF hl hx, bagZ, bagZ, ht⟩, by dsimp only; omega⟩ rfl ⟨rfl, rfl, rfl, rfl, rfl, trivial⟩
    · obtain ⟨h1, ⟨r, a1, sd1, rfl, hr, ha1, rfl⟩, rfl⟩ := hR
      refine j_twoB rfl rfl rfl rfl (alloc_at rfl rfl) rfl rfl rfl (call_part 1 1 rfl rfl rfl (o_l02Some s code a1 sd1 K 2 (by omega) (by omega) (by omega)) rfl (LeL.refl _)) rfl rfl
        (fun v h' ⟨b, q1, q2⟩ k hk => by rw [memB3 hk, q2]; exact List.mem_cons_of_mem _ (List.mem_cons_of_mem _ (List.mem_cons_of_mem _ List.mem_cons_self)))
        (fun v h' ⟨h1, ⟨l, bl, cl, a2, sd2, q1, _, _, _, _, q5⟩, q2⟩ k hk => by rw [memB3 hk, q2, q5]; exact List.mem_cons_of_mem _ (List.mem_cons_of_mem _ (List.mem_cons_of_mem _ List.mem_cons_self))) (fun v h' hR => ?_) (fun v h' hR => ?_)
      · obtain ⟨b6, rfl, rfl⟩ := hR
        refine j_kCallO rfl rfl rfl rfl ?_
        refine jcdO 2 1 rfl (fun k hk => by rw [memB3 hk]; exact List.mem_cons_of_mem _ (List.mem_cons_of_mem _ List.mem_cons_self)) (o_l02Some s code a1 sd1 K 2 (by omega) (by omega) (by omega)) rfl (LeL.refl _) rfl rfl (fun v h1 hR => ?_)
        obtain ⟨l, bl, cl, a2, sd2, rfl, hl, hx, ht, ha2, rfl⟩ := hR
        refine j_dropO [17, 12, 7] rfl (by kernel_rfl) ?_
        repeat' (first
      | (refine j_goO ?_; first
        | (refine j_kStoreO rfl ?_; first | refine j_storeNO 0 rfl rfl rfl rfl rfl rfl rfl rfl rfl rfl rfl rfl (by first | (intro _ hk; exact absurd hk List.not_mem_nil) | (intro k hk; simp at hk ⊢; try simp [hk])) ?_) | refine j_buildO rfl rfl rfl rfl rfl rfl rfl ?_)
      | refine j_nilO ?_)
        refine joinQ_view (view_cellF (k := 2) (b := some b6) (h1 := [lsI 2 bl cl l]) (F := _ :: _ :: _ :: F) (List.Perm.cons _ (List.Perm.swap _ _ _)) rfl (FrzF.flat (g := Go.AI.encI) (ys := l) (z := 1) rfl rfl (fun _ => rfl) rfl rfl)) ?_
        refine joinQ_view (view_perm (List.Perm.cons _ (List.perm_middle (l₁ := [_, _])).symm)) ?_
        exact joinQ_done (⟨r, 0, l, List.replicate K 0, List.replicate K 0, [], [], [], false⟩, b6, a2, sd2) ⟨⟨by dsimp only; omega, by dsimp only; omega, bagF hl hx, bagZ, bagZ, ht⟩, by dsimp only; omega⟩ rfl ⟨rfl, rfl, rfl, rfl, rfl, trivial⟩
      · obtain ⟨h1, ⟨l, bl, cl, a2, sd2, rfl, hl, hx, ht, ha2, rfl⟩, rfl⟩ := hR
        refine j_floatB rfl rfl rfl rfl rfl (alloc_at rfl rfl) rfl rfl rfl (fun _ => build_quiet rfl rfl rfl rfl) rfl rfl
          (fun v h' ⟨b, q1, q2⟩ k hk => by rw [memB3 hk, q2]; exact List.mem_cons_of_mem _ (List.mem_cons_of_mem _ (List.mem_cons_of_mem _ (List.mem_cons_of_mem _ List.mem_cons_self)))) (fun v h' hR => ?_) ?_
        · obtain ⟨b6, rfl, rfl⟩ := hR
          refine j_dropO [17, 12, 7] rfl (by kernel_rfl) ?_
          repeat' (first
      | (refine j_goO ?_; first
        | (refine j_kStoreO rfl ?_; first | refine j_storeNO 0 rfl rfl rfl rfl rfl rfl rfl rfl rfl rfl rfl rfl (by first | (intro _ hk; exact absurd hk List.not_mem_nil) | (intro k hk; simp at hk ⊢; try simp [hk])) ?_) | refine j_buildO rfl rfl rfl rfl rfl rfl rfl ?_)
      | refine j_nilO ?_)
          refine joinQ_view (view_cellF (k := 2) (b := some b6) (h1 := [lsI 2 bl cl l]) (F := _ :: _ :: _ :: F) (List.Perm.cons _ (List.Perm.swap _ _ _)) rfl (FrzF.flat (g := Go.AI.encI) (ys := l) (z := 1) rfl rfl (fun _ => rfl) rfl rfl)) ?_
          refine joinQ_view (view_perm (List.Perm.cons _ (List.perm_middle (l₁ := [_, _])).symm)) ?_
          exact joinQ_done (⟨r, 0, l, List.replicate K 0, List.replicate K 0, [], [], [], false⟩, b6, a2, sd2) ⟨⟨by dsimp only; omega, by dsimp only; omega, bagF hl hx, bagZ, bagZ, ht⟩, by dsimp only; omega⟩ rfl ⟨rfl, rfl, rfl, rfl, rfl, trivial⟩
        · refine j_allocO rfl (fun k hk => by rw [memB3 hk]; exact List.mem_cons_of_mem _ (List.mem_cons_of_mem _ (List.mem_cons_of_mem _ List.mem_cons_self))) rfl rfl rfl rfl rfl (fun b6 => ?_)
          refine j_dropO [17, 12, 7] rfl (by kernel_rfl) ?_
          repeat' (first
      | (refine j_goO ?_; first
        | (refine j_kStoreO rfl ?_; first | refine j_storeNO 0 rfl rfl rfl rfl rfl rfl rfl rfl rfl rfl rfl rfl (by first | (intro _ hk; exact absurd hk List.not_mem_nil) | (intro k hk; simp at hk ⊢; try simp [hk])) ?_))
      | refine j_nilO ?_)
          refine joinQ_view (view_cellF (k := 2) (b := some b6) (h1 := [lsI 2 bl cl l]) (F := _ :: _ :: _ :: F) (List.Perm.cons _ (List.Perm.swap _ _ _)) rfl (FrzF.flat (g := Go.AI.encI) (ys := l) (z := 1) rfl rfl (fun _ => rfl) rfl rfl)) ?_
          refine joinQ_view (view_perm (List.Perm.cons _ (List.perm_middle (l₁ := [_, _])).symm)) ?_
          exact joinQ_done (⟨r, 0, l, List.replicate K 0, List.replicate K 0, [], [], [], false⟩, b6, a2, sd2) ⟨⟨by dsimp only; omega, by dsimp only; omega, bagF hl hx, bagZ, bagZ, ht⟩, by dsimp only; omega⟩ rfl ⟨rfl, rfl, rfl, rfl, rfl, trivial⟩
  dsimp only at hr ha1 ⊢
  repeat' (first
      | (refine j_go ?_; first
        | refine j_op0 rfl rfl rfl rfl ?_ | (refine j_kLoad rfl ?_; first | refine j_mload 2 rfl rfl rfl rfl rfl rfl rfl ?_))
      | (refine r_go ?_; first | refine run_seq ?_ | refine run_region ?_))
  refine j_kCall rfl rfl rfl rfl ?_
  refine jcp (_ :: _ :: _ :: F) (o_l02Few s code a1 sd1 K 2 (by omega) (by omega) (by omega)) (List.Perm.swap _ _ _) (LeL.refl _) rfl rfl (fun v h1 hR => ?_)
  obtain ⟨l5, bl, cl, a2, sd2, rfl, hll5, hxl5, htl5, haa2, rfl⟩ := hR
  repeat' (first
      | (refine j_go ?_; first
        | refine j_op0 rfl rfl rfl rfl ?_ | (refine j_kStore rfl ?_; first | refine j_store 2 rfl rfl rfl rfl rfl rfl rfl rfl rfl rfl rfl ?_))
      | refine j_nil ?_
      | (refine r_go ?_; first | refine run_seq ?_ | refine run_region ?_)
      | refine seqQ_normal ?_)
  refine j_view (view_cellF (k := 5) (b := some b6) (h1 := [lsI 2 bl cl l5]) (F := _ :: _ :: _ :: F) (List.perm_middle (l₁ := [_, _])) rfl (FrzF.flat (g := Go.AI.encI) (ys := l5) (z := 1) rfl rfl (fun _ => rfl) rfl rfl)) ?_
  repeat' (first
      | (refine j_go ?_; first
        | (refine j_kLoad rfl ?_; first | refine j_mload 2 rfl rfl rfl rfl rfl rfl rfl ?_)))
  refine j_kCall rfl rfl rfl rfl ?_
  refine jcp (_ :: _ :: _ :: F) (o_l02Few s code a2 sd2 K 1 (by omega) (by omega) (by omega)) (List.Perm.swap _ _ _) (LeL.refl _) rfl rfl (fun v h1 hR => ?_)
  obtain ⟨l6, bl, cl, a3, sd3, rfl, hll6, hxl6, htl6, haa3, rfl⟩ := hR
  repeat' (first
      | (refine j_go ?_; first
        | refine j_op0 rfl rfl rfl rfl ?_ | (refine j_kStore rfl ?_; first | refine j_store 2 rfl rfl rfl rfl rfl rfl rfl rfl rfl rfl rfl ?_))
      | refine j_nil ?_
      | (refine r_go ?_; first | refine run_seq ?_ | refine run_region ?_)
      | refine seqQ_normal ?_)
  refine j_view (view_cellF (k := 6) (b := some b6) (h1 := [lsI 2 bl cl l6]) (F := _ :: _ :: _ :: F) (List.perm_middle (l₁ := [_, _])) rfl (FrzF.flat (g := Go.AI.encI) (ys := l6) (z := 1) rfl rfl (fun _ => rfl) rfl rfl)) ?_
  refine j_kCall rfl rfl rfl rfl ?_
  refine jcp (_ :: _ :: _ :: F) (o_one s code a3 sd3 5 (by omega) (by omega)) (List.Perm.swap _ _ _) (LeL.refl _) rfl rfl (fun v h1 hR => ?_)
  obtain ⟨bo, a4, sd4, rfl, haa4, rfl⟩ := hR
  repeat' (first
      | refine j_nil ?_
      | refine seqQ_normal ?_)
  refine run_join (fun z : Rule × Nat × Int => [(0, .op (some s) 0), (1, .op (some by_) 0), (4, .op (some b4) 0), (5, .int (y.parents.length : Int)), (6, .op (some b6) 0)])
    (fun z => rulB b6 (drawn2 z.1) :: srcB s code z.2.1 z.2.2 :: sysB by_ [.int (K : Int), .sl (y.parents.map Go.AI.encI), x] :: rulB b4 zeroRul :: F)
    (fun z => RulOk y z.1 ∧ z.2.1 ≤ at_ + 80) ?_ (fun ⟨r, a1, sd1⟩ ⟨hr, ha1⟩ => ?_)
  · repeat' (first
      | (refine j_go ?_; first
        | refine j_op0 rfl rfl rfl rfl ?_ | (refine j_kLoad rfl ?_; first | refine j_mload 2 rfl rfl rfl rfl rfl rfl rfl ?_))
      | (refine r_go ?_; first | refine run_region ?_ | refine run_skip ?_ | refine run_cond rfl (fun hb => ?_) (fun hb => ?_)))
    · refine j_kCall rfl rfl rfl rfl ?_
      refine jcp (_ :: _ :: _ :: F) (o_l02Some s code a4 sd4 K 1 (by omega) (by omega) (by omega)) (List.Perm.refl _) (LeL.refl _) rfl rfl (fun v h1 hR => ?_)
      obtain ⟨l, bl, cl, a5, sd5, rfl, hl, hx, ht, ha5, rfl⟩ := hR
      repeat' (first
      | (refine j_go ?_; first
        | refine j_op0 rfl rfl rfl rfl ?_ | (refine j_kStore rfl ?_; first | refine j_store 2 rfl rfl rfl rfl rfl rfl rfl rfl rfl rfl rfl ?_))
      | refine j_nil ?_)
      refine joinQ_view (view_cellF (k := 3) (b := some b6) (h1 := [lsI 2 bl cl l]) (F := _ :: _ :: _ :: F) (List.perm_middle (l₁ := [_, _])) rfl (FrzF.flat (g := Go.AI.encI) (ys := l) (z := 1) rfl rfl (fun _ => rfl) rfl rfl)) ?_
      exact joinQ_done (⟨r.cell, r.rank, r.need, l, r.lack, l5, l6, [], false⟩, a5, sd5) ⟨⟨⟨hr.1, hr.2.1, hr.2.2.1, bagF hl hx, hr.2.2.2.2.1, hr.2.2.2.2.2⟩, bagF hll5 hxl5, bagF hll6 hxl6⟩, by dsimp only; omega⟩ rfl ⟨rfl, rfl, rfl, rfl, rfl, trivial⟩
    · exact joinQ_view (view_perm (List.Perm.swap _ _ _)) (joinQ_done (⟨r.cell, r.rank, r.need, r.have_, r.lack, l5, l6, [], false⟩, a4, sd4) ⟨⟨⟨hr.1, hr.2.1, hr.2.2.1, hr.2.2.2.1, hr.2.2.2.2.1, hr.2.2.2.2.2⟩, bagF hll5 hxl5, bagF hll6 hxl6⟩, by dsimp only; omega⟩ rfl ⟨rfl, rfl, rfl, rfl, rfl, trivial⟩)
  dsimp only at hr ha1 ⊢
  repeat' (first
      | (refine j_go ?_; first
        | refine j_op0 rfl rfl rfl rfl ?_)
      | (refine r_go ?_; first | refine run_seq ?_ | refine run_region ?_))
  refine j_kCall rfl rfl rfl rfl ?_
  refine jcp (_ :: _ :: _ :: F) (o_one s code a1 sd1 5 (by omega) (by omega)) (List.Perm.swap _ _ _) (LeL.refl _) rfl rfl (fun v h1 hR => ?_)
  obtain ⟨bo, a4, sd4, rfl, ha4, rfl⟩ := hR
  repeat' (first
      | refine j_nil ?_
      | refine seqQ_normal ?_)
  refine run_join (fun z : Rule × Nat × Int => [(0, .op (some s) 0), (1, .op (some by_) 0), (4, .op (some b4) 0), (5, .int (y.parents.length : Int)), (6, .op (some b6) 0)])
    (fun z => rulB b6 (drawn2 z.1) :: srcB s code z.2.1 z.2.2 :: sysB by_ [.int (K : Int), .sl (y.parents.map Go.AI.encI), x] :: rulB b4 zeroRul :: F)
    (fun z => RulOk y z.1 ∧ z.2.1 ≤ at_ + 96) ?_ (fun ⟨r, a1, sd1⟩ ⟨hr, ha1⟩ => ?_)
  · repeat' (first
      | (refine j_go ?_; first
        | refine j_op0 rfl rfl rfl rfl ?_ | (refine j_kLoad rfl ?_; first | refine j_mload 2 rfl rfl rfl rfl rfl rfl rfl ?_))
      | (refine r_go ?_; first | refine run_region ?_ | refine run_skip ?_ | refine run_cond rfl (fun hb => ?_) (fun hb => ?_)))
    · refine j_kCall rfl rfl rfl rfl ?_
      refine jcp (_ :: _ :: _ :: F) (o_l02Some s code a4 sd4 K 1 (by omega) (by omega) (by omega)) (List.Perm.refl _) (LeL.refl _) rfl rfl (fun v h1 hR => ?_)
      obtain ⟨l, bl, cl, a5, sd5, rfl, hl, hx, ht, ha5, rfl⟩ := hR
      repeat' (first
      | (refine j_go ?_; first
        | refine j_op0 rfl rfl rfl rfl ?_ | (refine j_kStore rfl ?_; first | refine j_store 2 rfl rfl rfl rfl rfl rfl rfl rfl rfl rfl rfl ?_))
      | refine j_nil ?_)
      refine joinQ_view (view_cellF (k := 4) (b := some b6) (h1 := [lsI 2 bl cl l]) (F := _ :: _ :: _ :: F) (List.perm_middle (l₁ := [_, _])) rfl (FrzF.flat (g := Go.AI.encI) (ys := l) (z := 1) rfl rfl (fun _ => rfl) rfl rfl)) ?_
      exact joinQ_done (⟨r.cell, r.rank, r.need, r.have_, l, r.here, r.out, [], false⟩, a5, sd5) ⟨⟨⟨hr.1.1, hr.1.2.1, hr.1.2.2.1, hr.1.2.2.2.1, bagF hl hx, hr.1.2.2.2.2.2⟩, hr.2⟩, by dsimp only; omega⟩ rfl ⟨rfl, rfl, rfl, rfl, rfl, trivial⟩
    · exact joinQ_view (view_perm (List.Perm.swap _ _ _)) (joinQ_done (r, a4, sd4) ⟨hr, by dsimp only; omega⟩ rfl ⟨rfl, rfl, rfl, rfl, rfl, trivial⟩)
  dsimp only at hr ha1 ⊢
  repeat' (first
      | (refine j_go ?_; first
        | refine j_op0 rfl rfl rfl rfl ?_)
      | (refine r_go ?_; first | refine run_seq ?_ | refine run_region ?_))
  refine j_kCall rfl rfl rfl rfl ?_
  refine jcp (_ :: _ :: _ :: F) (o_one s code a1 sd1 4 (by omega) (by omega)) (List.Perm.swap _ _ _) (LeL.refl _) rfl rfl (fun v h1 hR => ?_)
  obtain ⟨bo, a4, sd4, rfl, ha4, rfl⟩ := hR
  repeat' (first
      | refine j_nil ?_
      | refine seqQ_normal ?_)
  refine run_join (fun z : Rule × Nat × Int => [(0, .op (some s) 0), (1, .op (some by_) 0), (4, .op (some b4) 0), (5, .int (y.parents.length : Int)), (6, .op (some b6) 0)])
    (fun z => rulB b6 (drawn2 z.1) :: srcB s code z.2.1 z.2.2 :: sysB by_ [.int (K : Int), .sl (y.parents.map Go.AI.encI), x] :: rulB b4 zeroRul :: F)
    (fun z => RulOk y z.1 ∧ z.2.1 ≤ at_ + 100) ?_ (fun ⟨r, a1, sd1⟩ ⟨hr, ha1⟩ => ?_)
  · repeat' (first
      | (refine j_go ?_; first
        | refine j_op0 rfl rfl rfl rfl ?_)
      | (refine r_go ?_; first | refine run_region ?_ | refine run_skip ?_ | refine run_cond rfl (fun hb => ?_) (fun hb => ?_)))
    · refine j_kCall rfl rfl rfl rfl ?_
      refine jcp (_ :: _ :: _ :: F) (o_pick s code a4 sd4 3 (by omega) (by omega)) (List.Perm.refl _) (LeL.refl _) rfl rfl (fun v h1 hR => ?_)
      obtain ⟨k, a5, sd5, rfl, hk3, ha5, rfl⟩ := hR
      repeat' (first
      | (refine j_go ?_; first
        | refine j_op0 rfl rfl rfl rfl ?_ | (refine j_kStore rfl ?_; first | refine j_store 1 rfl rfl rfl rfl rfl rfl rfl rfl rfl rfl rfl ?_))
      | refine j_nil ?_)
      exact joinQ_view (view_perm (List.Perm.swap _ _ _)) (joinQ_done (⟨r.cell, k, r.need, r.have_, r.lack, r.here, r.out, [], false⟩, a5, sd5) ⟨⟨⟨hr.1.1, by dsimp only; omega, hr.1.2.2⟩, hr.2⟩, by dsimp only; omega⟩ rfl ⟨rfl, rfl, rfl, rfl, rfl, trivial⟩)
    · exact joinQ_view (view_perm (List.Perm.swap _ _ _)) (joinQ_done (r, a4, sd4) ⟨hr, by dsimp only; omega⟩ rfl ⟨rfl, rfl, rfl, rfl, rfl, trivial⟩)
  dsimp only at hr ha1 ⊢
  repeat' (first
      | (refine j_go ?_; first
        | refine j_op0 rfl rfl rfl rfl ?_)
      | refine j_nil ?_
      | (refine r_go ?_; first | refine run_seq ?_ | refine run_region ?_ | refine run_block ?_)
      | refine seqQ_normal ?_)
  refine run_view (view_none 104 (0 * 2) rfl) ?_
  refine run_view (view_perm (List.Perm.swap _ _ _)) ?_
  have rc := hr.1.1
  refine run_loop (fun z : Nat × List Into × Option Nat × Nat × Nat × Int => [(0, .op (some s) 0), (1, .op (some by_) 0), (4, .op (some b4) 0), (5, .int (y.parents.length : Int)), (6, .op (some b6) 0), (7, .int (z.1 : Int))])
    (fun z => rulB b6 (drawn3 r z.2.2.1 z.2.1.length z.2.2.2.1) :: intB z.2.2.1 z.2.2.2.1 z.2.1 :: srcB s code z.2.2.2.2.1 z.2.2.2.2.2 :: sysB by_ [.int (K : Int), .sl (y.parents.map Go.AI.encI), x] :: rulB b4 zeroRul :: F)
    (fun z => (1 ≤ z.1 ∧ z.1 ≤ y.parents.length) ∧ (z.2.1.length : Int) + 1 ≤ z.1 ∧ Tgts y r z.2.1 ∧ (∀ e ∈ z.2.1, e.cell < (z.1 : Int)) ∧ z.2.2.2.2.1 ≤ at_ + 100 + 16 * z.1) (fun z => y.parents.length - z.1) (1, [], none, 0, a1, sd1) ⟨rfl, rfl, rfl, rfl, rfl, rfl, trivial⟩ rfl ⟨by dsimp only; omega, by simp, fun i h => absurd h (Nat.not_lt_zero _), by simp, by dsimp only; omega⟩ (fun ⟨c, into, b, cap, a, sd⟩ ⟨hc, hil, htg, hlt, hA⟩ => ?_)
  dsimp only at hc hil htg hlt hA ⊢
  by_cases hcl : c < y.parents.length
  case pos =>
    have hfX : (⟨(K : Int), y.parents, []⟩ : System).Frame := by
      have := hy
      unfold System.Frame at this ⊢
      rw [hK] at this
      exact this
    repeat' (first
      | (refine j_go ?_; first
        | refine j_op0 rfl rfl rfl rfl ?_ | (refine j_kLoad rfl ?_; first | refine j_mload 0 rfl rfl rfl rfl rfl rfl rfl ?_))
      | refine j_nil ?_
      | (refine r_go ?_; first | refine run_seq ?_ | refine run_region ?_ | (refine (run_if rfl (fun hb => ?_) (fun hb => ?_)) <;> first | (exfalso; omega) | skip) | refine run_block ?_ | refine run_skip ?_)
      | refine seqQ_normal ?_)
    refine j_kCall rfl rfl rfl rfl ?_
    refine jctq [sysB by_ [.int (K : Int), .sl (y.parents.map Go.AI.encI), x]] (c_l02InX (K : Int) y.parents x c r.cell hfX (by omega) (by omega)) (Clo.raw _) (fun k hk => by rw [List.mem_singleton] at hk; subst hk; exact List.mem_cons_of_mem _ (List.mem_cons_of_mem _ (List.mem_cons_of_mem _ List.mem_cons_self)))
      (FrzL.cons (Frz.ptr (cs := [.int (K : Int), .sl (y.parents.map Go.AI.encI), x]) List.mem_cons_self (FrzL.cons (Frz.same _ _) (FrzL.cons (Frz.same _ _) (FrzL.cons (Frz.same _ _) (FrzL.nil _))))) (FrzL.cons (Frz.same _ _) (FrzL.cons (Frz.same _ _) (FrzL.nil _)))) rfl rfl ?_
    repeat' (first
      | (refine j_go ?_; first
        | refine j_op0 rfl rfl rfl rfl ?_ | refine j_off rfl rfl rfl ?_ | (refine j_kBin rfl ?_; first | refine j_in rfl rfl ⟨by omega, by omega⟩ rfl rfl ?_) | (refine j_kLen rfl ?_; first | refine j_op rfl rfl rfl rfl ?_) | (refine j_kLoad rfl ?_; first | refine j_mload 0 rfl rfl rfl rfl rfl rfl rfl ?_) | (refine j_kGuard rfl ?_; first | (refine (j_if rfl rfl rfl (fun hb => ?_) (fun hb => ?_)) <;> first | (exfalso; omega) | skip)))
      | refine j_nil ?_
      | (refine r_go ?_; first | refine run_region ?_ | refine run_cond_f rfl ?_ | refine run_skip ?_)
      | refine seqQ_normal ?_ | refine blockQ_normal ?_)
    case' refine_1.refine_1 =>
      refine j_kCall rfl rfl rfl rfl ?_
      refine jcp (_ :: _ :: _ :: _ :: F) (o_one s code a sd 3 (by omega) (by omega)) (List.perm_middle (l₁ := [_, _])) (LeL.refl _) rfl rfl (fun v h1 hR => ?_)
      obtain ⟨bo, a4, sd4, rfl, ha4, rfl⟩ := hR
      repeat' (first
      | (refine j_go ?_; first
        | refine j_op0 rfl rfl rfl rfl ?_ | (refine j_kBin rfl ?_; first | refine j_in rfl rfl ⟨by omega, by omega⟩ rfl rfl ?_))
      | refine j_nil ?_
      | (refine j_goO ?_; first
        | refine j_op0O rfl rfl rfl rfl ?_ | (refine j_kLoadO rfl ?_; first | refine j_mloadO 3 rfl rfl rfl rfl rfl rfl rfl rfl ?_ | refine j_mloadS 1 rfl rfl rfl rfl rfl rfl rfl ?_))
      | (refine r_go ?_; first | refine run_region ?_ | refine run_skip ?_ | refine run_opn 15 [⟨0, false, false, 0⟩, ⟨1, false, false, 0⟩, ⟨2, false, false, 0⟩, ⟨3, true, false, 0⟩, ⟨4, true, false, 0⟩, ⟨5, true, false, 0⟩, ⟨6, true, false, 0⟩, ⟨7, true, false, 0⟩, ⟨8, false, true, 0⟩, ⟨9, true, false, 0⟩, ⟨10, true, false, 0⟩, ⟨11, false, true, 0⟩, ⟨12, true, false, 0⟩, ⟨13, false, true, 0⟩] rfl rfl (by kernel_rfl) ?_ | refine run_cond rfl (fun hb => ?_) (fun hb => ?_))
      | refine seqQ_normal ?_ | refine blockQ_normal ?_)
    all_goals try first
      | exact loopQ_next (c + 1, into, b, cap, a, sd) ⟨by dsimp only; omega, by dsimp only; omega, htg, fun e he => by have := hlt e he; dsimp only; omega, by dsimp only; omega⟩ (by dsimp only; omega) rfl ⟨rfl, rfl, rfl, rfl, rfl, nx _, trivial⟩
      | exact loopQ_view (view_perm (List.perm_middle (l₁ := [_, _])).symm) (loopQ_next (c + 1, into, b, cap, a4, sd4) ⟨by dsimp only; omega, by dsimp only; omega, htg, fun e he => by have := hlt e he; dsimp only; omega, by dsimp only; omega⟩ (by dsimp only; omega) rfl ⟨rfl, rfl, rfl, rfl, rfl, nx _, trivial⟩)
    refine j_kCallO rfl rfl rfl rfl ?_
    refine jcdO 0 1 rfl (fun k hk => by rw [memB1 hk]; exact List.mem_cons_self) (o_l02Some s code a4 sd4 K 1 (by omega) (by omega) (by omega)) rfl (LeL.refl _) rfl rfl (fun v h1 hR => ?_)
    obtain ⟨l, bl, cl, a5, sd5, rfl, hl, hx, ht, ha5, rfl⟩ := hR
    refine j_dropO [1] rfl (by kernel_rfl) ?_
    repeat' (first
      | (refine j_goO ?_; first
        | (refine j_kBslO rfl ?_; first | refine j_bslO rfl rfl rfl rfl rfl rfl rfl rfl rfl rfl rfl ?_) | refine j_buildO rfl rfl rfl rfl rfl rfl rfl ?_))
    refine j_appendO 3 (g := gP) (ys := intoP into) [((c : Int), A.os bl l.length cl)] rfl (fun _ hk => nomatch hk) rfl rfl rfl rfl rfl rfl rfl rfl rfl (by rw [intoP_map]) (intoP_len into).symm rfl (fun _ => rfl) (fun _ hy => by simp only [List.mem_singleton] at hy; subst hy; rfl) ⟨by rw [intoP_len]; simp only [List.length_cons, List.length_nil]; omega, by rw [intoP_len]; simp only [List.length_cons, List.length_nil]; omega⟩ rfl rfl (fun b' cap' => ?_)
    repeat' (first
      | (refine j_go ?_; first
        | refine j_op0 rfl rfl rfl rfl ?_ | (refine j_kBin rfl ?_; first | refine j_in rfl rfl ⟨by omega, by omega⟩ rfl rfl ?_))
      | refine j_nil ?_
      | (refine j_goO ?_; first
        | refine j_op0O rfl rfl rfl rfl ?_ | (refine j_kStoreO rfl ?_; first | refine j_storeO 2 rfl rfl rfl rfl rfl rfl rfl rfl rfl rfl rfl rfl (by first | (intro _ hk; exact absurd hk List.not_mem_nil) | (intro k hk; simp at hk ⊢; try simp [hk])) ?_))
      | refine j_nilO ?_
      | (refine r_go ?_; first | refine run_region ?_)
      | refine seqQ_normal ?_ | refine blockQ_normal ?_)
    have e1 : (intoP into ++ [((c : Int), A.os bl l.length cl)]).length = (into ++ [(⟨(c : Int), l⟩ : Into)]).length := by simp [intoP]
    refine loopQ_view (view_cellF (k := 2 * into.length + 1) (b := b') (h1 := [lsI 2 bl cl l]) (F := _ :: _ :: _ :: _ :: F) (List.perm_middle (l₁ := [_, _, _])) (into_get into c _) (FrzF.flat (g := Go.AI.encI) (ys := l) (z := 1) rfl rfl (fun _ => rfl) rfl rfl)) ?_
    refine loopQ_view (view_perm (List.perm_middle (l₁ := [_, _]))) ?_
    rw [into_set, e1]
    have ln : (into ++ [(⟨(c : Int), l⟩ : Into)]).length = into.length + 1 := by rw [List.length_append]; rfl
    exact loopQ_next (c + 1, into ++ [⟨(c : Int), l⟩], b', cap', a5, sd5) ⟨by dsimp only; omega, by dsimp only; omega, htg.snoc ⟨⟨by dsimp only; omega, by dsimp only; omega⟩, by assumption, bagF hl hx, ht⟩ hlt, fun e he => by
      rcases List.mem_append.1 he with he | he
      · have := hlt e he; dsimp only; omega
      · rw [List.mem_singleton] at he; subst he; dsimp only; omega, by dsimp only; omega⟩ (by dsimp only; omega) rfl ⟨rfl, rfl, rfl, rfl, rfl, nx _, trivial⟩
  obtain rfl : c = y.parents.length := by omega
  refine run_view (view_cellF (k := 7) (b := some b6) (h1 := [intB b cap into]) (F := _ :: _ :: _ :: F) (List.Perm.refl _) rfl (FrzF.flat (g := encInto) (ys := into) (z := 2) rfl rfl (fun _ => rfl) rfl rfl)) ?_
  repeat' (first
      | (refine j_go ?_; first
        | refine j_op0 rfl rfl rfl rfl ?_ | refine j_off rfl rfl rfl ?_ | (refine j_kLoad rfl ?_; first | refine j_mload 0 rfl rfl rfl rfl rfl rfl rfl ?_) | (refine j_kStore rfl ?_; first | refine j_store 0 rfl rfl rfl rfl rfl rfl rfl rfl rfl rfl rfl ?_ | refine j_storeN 3 rfl rfl rfl rfl rfl rfl rfl rfl rfl rfl rfl ?_) | (refine j_kGuard rfl ?_; first | (refine (j_if rfl rfl rfl (fun hb => ?_) (fun hb => ?_)) <;> first | (exfalso; omega) | skip)))
      | refine j_nil ?_
      | (refine r_go ?_; first | refine run_seq ?_ | refine run_region ?_ | (refine (run_if rfl (fun hb => ?_) (fun hb => ?_)) <;> first | (exfalso; omega) | skip) | refine run_ret ?_ | refine run_exit ?_)
      | refine seqQ_normal ?_ | refine seqQ_exit ?_ | refine blockQ_eq ?_ | refine loopQ_exit ?_)
  · refine j_kCall rfl rfl rfl rfl ?_
    refine jcp (_ :: _ :: _ :: F) (o_one s code a sd 6 (by omega) (by omega)) (List.Perm.swap _ _ _) (LeL.refl _) rfl rfl (fun v h1 hR => ?_)
    obtain ⟨bo, a9, sd9, rfl, ha9, rfl⟩ := hR
    repeat' (first
      | (refine j_go ?_; first
        | refine j_op0 rfl rfl rfl rfl ?_ | (refine j_kLoad rfl ?_; first | refine j_mload 1 rfl rfl rfl rfl rfl rfl rfl ?_) | (refine j_kStore rfl ?_; first | refine j_store 1 rfl rfl rfl rfl rfl rfl rfl rfl rfl rfl rfl ?_ | refine j_storeN 3 rfl rfl rfl rfl rfl rfl rfl rfl rfl rfl rfl ?_))
      | refine j_nil ?_
      | (refine r_go ?_; first | refine run_seq ?_ | refine run_region ?_ | refine run_ret ?_)
      | refine seqQ_normal ?_)
    refine endD_view (view_perm (List.Perm.swap _ _ _)) ?_
    refine endD_view (view_sub (List.sublist_cons_self _ _)) ?_
    refine endD_view (view_perm (List.perm_middle (l₁ := [_, _]))) ?_
    exact endD_ret (h1 := [_, _, _]) rfl (.cons (.cellM (b := b4) rfl List.mem_cons_self rfl) .nil) (Le.refl _) ⟨⟨r.cell, r.rank, r.need, r.have_, r.lack, r.here, r.out, into, bo⟩, _, a9, sd9, ⟨hr.1.1, hr.1.2.1, (fun q => by have h1 := q.2; dsimp only at h1; omega), by dsimp only; omega, hr.1.2.2.1, hr.1.2.2.2.1, hr.1.2.2.2.2.1, hr.2.1, hr.2.2, hr.1.2.2.2.2.2, htg⟩, rfl, by omega, by rw [hK]⟩ (.inl rfl)
  · skip
    refine endD_view (view_sub (List.sublist_cons_self _ _)) ?_
    refine endD_view (view_perm (List.perm_middle (l₁ := [_, _]))) ?_
    exact endD_ret (h1 := [_, _, _]) rfl (.cons (.cellM (b := b4) rfl List.mem_cons_self rfl) .nil) (Le.refl _) ⟨⟨r.cell, r.rank, r.need, r.have_, r.lack, r.here, r.out, into, false⟩, _, a, sd, ⟨hr.1.1, hr.1.2.1, (fun q => by cases q.1), by dsimp only; omega, hr.1.2.2.1, hr.1.2.2.2.1, hr.1.2.2.2.2.1, hr.2.1, hr.2.2, hr.1.2.2.2.2.2, htg⟩, rfl, by omega, by rw [hK]⟩ (.inl rfl)
end Go.Proofs.YtkfmjjoalkoncaaGreat
