/-
  What objects become: grown lists, sorted lists; on both sides. No condition.
-/
import Derived.Test.YtbhiaccbpbnbmaaGreatZS7l
import Derived.Test.YtbhiaccbpbnbmaaGreatZS0
import Derived.Test.YtbhiaccbpbnbmaaGreatZP
import Derived.Test.YtbhiaccbpbnbmaaGreatZE5
namespace Go.Proofs.YtbhiaccbpbnbmaaGreat
open Go.AI
set_option maxRecDepth 8000
set_option maxHeartbeats 1600000

/-- There is a rule of a kind for a charge and an object. -/
def Division.hasR (d : Division) (kind charge x : Int) : Prop := ∃ r ∈ d.rules, FitR kind charge x r
open Classical in
noncomputable def Division.grw (d : Division) (kind charge x : Int) : List Int := if d.hasR kind charge x then (d.rules.getD (fIdx (FitR kind charge x) d.rules).toNat default).first else [x]
theorem grw_at {d : Division} {kind charge x : Int} {k : Nat} (hk : k < d.rules.length) (hr : FitR kind charge x d.rules[k]) (hn : ∀ i (h : i < d.rules.length), i < k → ¬ FitR kind charge x d.rules[i]) : d.grw kind charge x = d.rules[k].first ∧ d.hasR kind charge x := by
  have h : d.hasR kind charge x := ⟨_, List.getElem_mem hk, hr⟩
  refine ⟨?_, h⟩
  unfold Division.grw
  rw [if_pos h, fIdx_at hk hr hn, Int.toNat_natCast, getD_get hk]
theorem grw_no {d : Division} {kind charge x : Int} (hn : ∀ i (h : i < d.rules.length), ¬ FitR kind charge x d.rules[i]) : d.grw kind charge x = [x] ∧ ¬ d.hasR kind charge x := by
  have h : ¬ d.hasR kind charge x := fun ⟨r, hr, q⟩ => by obtain ⟨i, hi, rfl⟩ := List.getElem_of_mem hr; exact hn i hi q
  refine ⟨?_, h⟩
  unfold Division.grw; rw [if_neg h]
theorem fIdx_cases {α : Type} (p : α → Prop) (l : List α) : (∃ k, ∃ h : k < l.length, fIdx p l = (k : Int) ∧ p l[k] ∧ ∀ i (h : i < l.length), i < k → ¬ p l[i]) ∨ (fIdx p l = -1 ∧ ∀ i (h : i < l.length), ¬ p l[i]) := by
  by_cases q : l.findIdx (fun y => dec (p y)) < l.length
  · refine .inl ⟨_, q, ?_, dec_iff.1 (List.findIdx_getElem (w := q)), fun i hi hik z => ?_⟩
    · unfold fIdx; rw [if_pos q]
    · have := List.not_of_lt_findIdx hik
      rw [dec_t z] at this; exact absurd this (by simp)
  · refine .inr ⟨by unfold fIdx; rw [if_neg q], fun i hi z => q ?_⟩
    exact List.findIdx_lt_length_of_exists ⟨_, List.getElem_mem hi, dec_t z⟩
theorem grw_len {d : Division} (hv : d.Valid) {kind charge x : Int} : (d.grw kind charge x).length ≤ 16 := by
  rcases fIdx_cases (FitR kind charge x) d.rules with ⟨k, hk, _, h2, h3⟩ | ⟨_, h⟩
  · rw [(grw_at hk h2 h3).1]
    have := (hv.2.2 _ (List.getElem_mem hk)).2.2.2.2.2.1.2
    omega
  · rw [(grw_no h).1]; simp
noncomputable def Division.grown (d : Division) (kind charge : Int) (l : List Int) : List Int := (l.map (d.grw kind charge)).flatten
theorem grown_succ {d : Division} {kind charge : Int} {l : List Int} {k : Nat} (hk : k < l.length) : d.grown kind charge (l.take (k + 1)) = d.grown kind charge (l.take k) ++ d.grw kind charge l[k] := by
  unfold Division.grown; rw [List.take_succ_eq_append_getElem hk, List.map_append, List.flatten_append]; simp
theorem grown_len {d : Division} (hv : d.Valid) {kind charge : Int} : ∀ l : List Int, (d.grown kind charge l).length ≤ 16 * l.length
  | [] => by simp [Division.grown]
  | x :: l => by
    have := grown_len hv (kind := kind) (charge := charge) l
    have := grw_len hv (kind := kind) (charge := charge) (x := x)
    simp only [Division.grown, List.map_cons, List.flatten_cons, List.length_append, List.length_cons] at *
    omega

theorem c_grow (d : Division) (kind charge x : Int) (hv : d.rules.length ≤ 120) : Gives Tryz.prog 67 [.agg (encDivision d), .int kind, .int charge, .int x] (.tup [.sl ((d.grw kind charge x).map Go.AI.encI), .raw (.bool (dec (d.hasR kind charge x)))]) := by
  refine fn_of_run tyOk ztOk mix Tryz.func67 rfl (by decide) Tryz.ntmps67 (fun w0 h => ?_)
  repeat' (first
      | (refine j_go ?_; first
        | refine j_op0 rfl rfl rfl rfl ?_ | (refine j_kLen rfl ?_; first | refine j_len rfl rfl rfl rfl rfl rfl ?_) | refine j_box rfl rfl rfl rfl rfl rfl ?_)
      | refine j_nil ?_
      | (refine r_go ?_; first | refine run_seq ?_ | refine run_region ?_ | refine run_block ?_)
      | refine seqQ_normal ?_)
  refine run_loop (fun k : Nat => [(1, .int kind), (2, .int charge), (3, .int x), (13, .sl (d.rules.map encDivRule)), (14, .int d.rules.length), (15, .int (k : Int))]) (fun _ => _) (fun k => k ≤ d.rules.length ∧ (∀ i (h : i < d.rules.length), i < k → ¬ FitR kind charge x d.rules[i])) (fun k => d.rules.length - k) 0 ⟨rfl, rfl, rfl, rfl, rfl, rfl, trivial⟩ rfl ⟨Nat.zero_le _, by first | (intros; omega) | (simp; done) | rfl | trivial | exact ⟨by simp [sumF], by intros; omega⟩ | exact ⟨by omega, by simp⟩⟩ (fun k ⟨kl, kp⟩ => ?_)
  repeat' (first
      | (refine j_go ?_; first
        | refine j_op0 rfl rfl rfl rfl ?_ | refine j_off rfl rfl rfl ?_ | (refine j_kIdx rfl ?_; first | refine j_idx rfl rfl rfl rfl rfl (by omega) rfl rfl rfl ?_) | (refine j_kBin rfl ?_; first | refine j_in rfl rfl ⟨by omega, by omega⟩ rfl rfl ?_) | (refine j_kLoad rfl ?_; first | refine j_mload 0 rfl rfl rfl rfl rfl rfl rfl ?_) | (refine j_kStore rfl ?_; first | refine j_storeN 0 rfl rfl rfl rfl rfl rfl rfl rfl rfl rfl rfl ?_) | (refine j_kBsl rfl ?_; first | refine j_bsl rfl rfl rfl rfl rfl rfl rfl rfl rfl rfl rfl ?_) | (refine j_kGuard rfl ?_; first | (refine (j_if rfl rfl rfl (fun hb => ?_) (fun hb => ?_)) <;> first | (exfalso; omega) | skip)) | refine j_alloc rfl rfl rfl rfl rfl (fun _ => ?_))
      | refine j_nil ?_
      | (refine r_go ?_; first | refine run_seq ?_ | refine run_region ?_ | refine run_cond_f rfl ?_ | (refine (run_if rfl (fun hb => ?_) (fun hb => ?_)) <;> first | (exfalso; omega) | skip) | refine run_block ?_ | refine run_ret ?_ | refine run_exit ?_ | refine run_skip ?_)
      | refine seqQ_normal ?_ | refine seqQ_ret ?_ | refine seqQ_exit ?_ | refine blockQ_normal ?_ | refine blockQ_ret ?_ | refine blockQ_eq ?_ | refine loopQ_ret ?_ | refine loopQ_exit ?_)
  · have q := grw_at (d := d) (kind := kind) (charge := charge) (x := x) (k := k) (by omega) ⟨by assumption, by assumption, by assumption⟩ kp
    rw [q.1, dec_t q.2]
    exact end2 rfl rfl (by repeat' first | exact List.Sublist.refl _ | refine List.Sublist.cons _ ?_) rfl (.inl rfl)
  · exact loopQ_nextD (k + 1) ⟨by omega, all_step kp (fun _ q => hb q.2.2)⟩ (by omega) (by first | exact List.Sublist.refl _ | exact sub1 | exact sub2 | exact sub3) ⟨rfl, rfl, rfl, rfl, rfl, nx _, trivial⟩
  · exact loopQ_nextD (k + 1) ⟨by omega, all_step kp (fun _ q => hb q.2.1)⟩ (by omega) (by first | exact List.Sublist.refl _ | exact sub1 | exact sub2 | exact sub3) ⟨rfl, rfl, rfl, rfl, rfl, nx _, trivial⟩
  · exact loopQ_nextD (k + 1) ⟨by omega, all_step kp (fun _ q => hb q.1)⟩ (by omega) (by first | exact List.Sublist.refl _ | exact sub1 | exact sub2 | exact sub3) ⟨rfl, rfl, rfl, rfl, rfl, nx _, trivial⟩
  · have q := grw_no (d := d) (kind := kind) (charge := charge) (x := x) (fun i h => kp i h (by omega))
    rw [q.1, dec_f q.2]
    exact end2 rfl rfl (by repeat' first | exact List.Sublist.refl _ | refine List.Sublist.cons _ ?_) rfl (.inl rfl)
theorem o_l07Grown (d : Division) (kind charge : Int) (l : List Int) (hv : d.Valid) (hl : l.length ≤ 1100000) : Does Tryz.prog 54 [.ip (encDivision d), .int kind, .int charge, .sl (l.map Go.AI.encI)] []
    (fun v h' => ∃ b cap, v = .tup [.os b (d.grown kind charge l).length cap, .raw (.bool (dec (∃ x ∈ l, d.hasR kind charge x)))] ∧ h' = [⟨b, 2, cap * 1, ((d.grown kind charge l).map Go.AI.encI).flatten⟩]) := by
  refine fn_of_runD tyOk ztOk mix Tryz.func54 rfl (by decide) Tryz.ntmps54 (fun w0 F => ?_)
  change Run _ _ _ _ _ F
  have r120 := hv.2.1
  repeat' (first
      | (refine j_go ?_; first
        | refine j_op0 rfl rfl rfl rfl ?_ | (refine j_kBsl rfl ?_; first | refine j_bs0 rfl rfl rfl rfl rfl rfl ?_))
      | refine j_nil ?_
      | (refine r_go ?_; first | refine run_seq ?_ | refine run_region ?_ | refine run_block ?_)
      | refine seqQ_normal ?_)
  refine run_view (view_none 2 0 rfl) ?_
  refine run_loop (fun x : Nat × Option Nat × Nat => [(0, .ip (encDivision d)), (1, .int kind), (2, .int charge), (3, .sl (l.map Go.AI.encI)), (10, .os x.2.1 (d.grown kind charge (l.take x.1)).length x.2.2), (11, .raw (.bool (dec (∃ y ∈ l.take x.1, d.hasR kind charge y)))), (12, .int (x.1 : Int))]) (fun x => ⟨x.2.1, 2, x.2.2 * 1, ((d.grown kind charge (l.take x.1)).map Go.AI.encI).flatten⟩ :: F)
    (fun x => x.1 ≤ l.length) (fun x => l.length - x.1) (0, none, 0) ⟨rfl, rfl, rfl, rfl, rfl, raw_f (by simp), rfl, trivial⟩ rfl (Nat.zero_le _) (fun ⟨k, ob, cp⟩ kl => ?_)
  dsimp only at kl ⊢
  have gl := grown_len hv (kind := kind) (charge := charge) (l.take k)
  have tl : (l.take k).length ≤ k := List.length_take_le _ _
  by_cases hk : k < l.length
  case pos =>
    have g16 := grw_len hv (kind := kind) (charge := charge) (x := l[k])
    have eu : (∃ y ∈ l.take (k + 1), d.hasR kind charge y) ↔ (∃ y ∈ l.take k, d.hasR kind charge y) ∨ d.hasR kind charge l[k] := by
      rw [List.take_succ_eq_append_getElem hk]
      exact ⟨fun ⟨y, hy, q⟩ => by
        rcases List.mem_append.1 hy with z | z
        · exact .inl ⟨y, z, q⟩
        · simp at z; subst z; exact .inr q, fun q => by
        rcases q with ⟨y, hy, q⟩ | q
        · exact ⟨y, List.mem_append.2 (.inl hy), q⟩
        · exact ⟨_, List.mem_append.2 (.inr (by simp)), q⟩⟩
    rcases fIdx_cases (FitR kind charge l[k]) d.rules with ⟨j, hj, h1, h2, h3⟩ | ⟨h1, h3⟩
    · have q := grw_at hj h2 h3
      have cF := c_l07First d kind charge l[k] (by omega)
      rw [h1] at cF
      repeat' (first
      | (refine j_go ?_; first
        | refine j_op0 rfl rfl rfl rfl ?_ | (refine j_kIdx rfl ?_; first | refine j_idx rfl rfl rfl rfl rfl (by omega) rfl rfl rfl ?_) | (refine j_kLen rfl ?_; first | refine j_len rfl rfl rfl rfl rfl rfl ?_) | (refine j_kCall rfl rfl rfl rfl ?_; first | refine jc (cF) (LeL.refl _) rfl rfl ?_))
      | refine j_nil ?_
      | (refine r_go ?_; first | refine run_seq ?_ | refine run_region ?_ | (refine (run_if rfl (fun hb => ?_) (fun hb => ?_)) <;> first | (exfalso; omega) | skip) | refine run_block ?_ | refine run_skip ?_)
      | refine seqQ_normal ?_)
      refine j_append 0 (g := Go.AI.encI) (ys := d.grown kind charge (l.take k)) d.rules[j].first rfl rfl rfl rfl rfl rfl rfl rfl rfl rfl rfl rfl (fun _ => rfl) (fun _ _ => rfl) ⟨by rw [← q.1]; omega, by rw [← q.1]; omega⟩ rfl rfl (fun b' cap' => ?_)
      rw [← q.1, ← grown_succ hk]
      repeat' (first
      | (refine j_go ?_; first
        | refine j_op0 rfl rfl rfl rfl ?_ | (refine j_kBin rfl ?_; first | refine j_in rfl rfl ⟨by omega, by omega⟩ rfl rfl ?_))
      | refine j_nil ?_
      | (refine r_go ?_; first | refine run_region ?_)
      | refine seqQ_normal ?_ | refine blockQ_normal ?_)
      exact loopQ_next (k + 1, b', cap') (by dsimp only; omega) (by dsimp only; omega) rfl ⟨rfl, rfl, rfl, rfl, rfl, (by dsimp only; rw [dec_t (eu.2 (.inr q.2))]; rfl), nx _, trivial⟩
    · have q := grw_no h3
      have cF := c_l07First d kind charge l[k] (by omega)
      rw [h1] at cF
      repeat' (first
      | (refine j_go ?_; first
        | refine j_op0 rfl rfl rfl rfl ?_ | (refine j_kIdx rfl ?_; first | refine j_idx rfl rfl rfl rfl rfl (by omega) rfl rfl rfl ?_) | (refine j_kLen rfl ?_; first | refine j_len rfl rfl rfl rfl rfl rfl ?_) | (refine j_kCall rfl rfl rfl rfl ?_; first | refine jc (cF) (LeL.refl _) rfl rfl ?_) | (refine j_kBsl rfl ?_; first | refine j_bsl rfl rfl rfl rfl rfl rfl rfl rfl rfl rfl rfl ?_))
      | refine j_nil ?_
      | (refine r_go ?_; first | refine run_seq ?_ | refine run_region ?_ | (refine (run_if rfl (fun hb => ?_) (fun hb => ?_)) <;> first | (exfalso; omega) | skip) | refine run_block ?_ | refine run_skip ?_)
      | refine seqQ_normal ?_)
      refine j_append 0 (g := Go.AI.encI) (ys := d.grown kind charge (l.take k)) [l[k]] rfl rfl rfl rfl rfl rfl rfl rfl rfl rfl rfl rfl (fun _ => rfl) (fun _ _ => rfl) ⟨by simp only [List.length_cons, List.length_nil]; omega, by simp only [List.length_cons, List.length_nil]; omega⟩ rfl rfl (fun b' cap' => ?_)
      rw [← q.1, ← grown_succ hk]
      repeat' (first
      | (refine j_go ?_; first
        | refine j_op0 rfl rfl rfl rfl ?_ | (refine j_kBin rfl ?_; first | refine j_in rfl rfl ⟨by omega, by omega⟩ rfl rfl ?_))
      | refine j_nil ?_
      | (refine r_go ?_; first | refine run_region ?_ | refine run_exit ?_)
      | refine seqQ_normal ?_ | refine seqQ_exit ?_ | refine blockQ_eq ?_)
      exact loopQ_next (k + 1, b', cap') (by dsimp only; omega) (by dsimp only; omega) rfl ⟨rfl, rfl, rfl, rfl, rfl, (by dsimp only; rw [dec_congr (eu.trans ⟨fun z => z.resolve_right q.2, fun z => .inl z⟩)]; rfl), nx _, trivial⟩
  have hke : k = l.length := by omega
  subst hke
  rw [List.take_length] at gl ⊢
  repeat' (first
      | (refine j_go ?_; first
        | refine j_op0 rfl rfl rfl rfl ?_ | (refine j_kLen rfl ?_; first | refine j_len rfl rfl rfl rfl rfl rfl ?_))
      | refine j_nil ?_
      | (refine r_go ?_; first | refine run_seq ?_ | refine run_region ?_ | (refine (run_if rfl (fun hb => ?_) (fun hb => ?_)) <;> first | (exfalso; omega) | skip) | refine run_ret ?_ | refine run_exit ?_)
      | refine seqQ_normal ?_ | refine seqQ_exit ?_ | refine blockQ_eq ?_ | refine loopQ_exit ?_)
  exact endD_ret (h1 := [_]) rfl (vs := [_, _]) (.cons (.tmp rfl) (.cons (.tmp rfl) .nil)) (Le.refl _) ⟨ob, cp, rfl, rfl⟩ (.inl rfl)
theorem c_l07Grown (d : Division) (kind charge : Int) (l : List Int) (hv : d.Valid) (hl : l.length ≤ 1100000) : Gives Tryz.prog 54 [.ip (encDivision d), .int kind, .int charge, .sl (l.map Go.AI.encI)] (.tup [.sl ((d.grown kind charge l).map Go.AI.encI), .raw (.bool (dec (∃ x ∈ l, d.hasR kind charge x)))]) :=
  (o_l07Grown d kind charge l hv hl).frozen fun _ _ ⟨b, cap, q1, q2⟩ => by rw [q1, q2]; exact FrzF.tup2 (FrzF.flat rfl rfl (fun _ => rfl) rfl rfl) (Clo.raw _)
end Go.Proofs.YtbhiaccbpbnbmaaGreat

/-
  Lists of objects in order, by counting: the reference's l07Sorted. No condition.
-/
namespace Go.Proofs.YtbhiaccbpbnbmaaGreat
open Go.AI
set_option maxRecDepth 8000
set_option maxHeartbeats 1600000

theorem occ_cons7 (x y : Int) (l : List Int) : occ x (y :: l) = (if y = x then 1 else 0) + occ x l := rfl
/-- How often each object is in a list. -/
def cntsL (o : Nat) (l : List Int) : List Int := (List.range o).map fun j : Nat => occ (j : Int) l
theorem cntsL_len {o : Nat} {l : List Int} : (cntsL o l).length = o := by simp [cntsL]
theorem cntsL_get {o : Nat} {l : List Int} {j : Nat} (h : j < (cntsL o l).length) : (cntsL o l)[j] = occ (j : Int) l := by simp [cntsL]
theorem cntsL_nil {o : Nat} : cntsL o [] = List.replicate o 0 := by
  refine List.ext_getElem (by simp [cntsL_len]) fun i h1 h2 => ?_
  rw [cntsL_get]; simp [occ, sumF]
theorem occ_snoc (x : Int) (l : List Int) {k : Nat} (hk : k < l.length) : occ x (l.take (k + 1)) = occ x (l.take k) + one x l[k] := by
  unfold occ
  have := sumF_split (one x) (l.take (k + 1)) k
  rw [this, List.take_take, Nat.min_eq_left (by omega)]
  congr 1
  rw [List.take_succ_eq_append_getElem hk, List.drop_append, List.drop_of_length_le (by rw [List.length_take]; omega)]
  have : k - (l.take k).length = 0 := by rw [List.length_take]; omega
  rw [this]; simp [sumF]
theorem cntsL_set {o : Nat} {l : List Int} {k : Nat} (hk : k < l.length) {j : Nat} (hj : l[k] = (j : Int)) (ho : j < o) : (cntsL o (l.take k)).set j (occ (j : Int) (l.take k) + 1) = cntsL o (l.take (k + 1)) := by
  refine List.ext_getElem (by simp [cntsL_len]) fun i h1 h2 => ?_
  rw [cntsL_get, occ_snoc _ l hk, List.getElem_set, hj]
  by_cases e : j = i
  · subst e; rw [if_pos rfl]; simp [one]
  · rw [if_neg e, cntsL_get]
    have : one (i : Int) (j : Int) = 0 := by unfold one; rw [if_neg (by omega)]
    rw [this]; omega
/-- .. in order. -/
def srtTo (l : List Int) (k : Nat) : List Int := ((List.range k).map fun j : Nat => List.replicate (occ (j : Int) l).toNat (j : Int)).flatten
theorem srtTo_succ (l : List Int) (k : Nat) : srtTo l (k + 1) = srtTo l k ++ List.replicate (occ (k : Int) l).toNat (k : Int) := by
  unfold srtTo; rw [List.range_succ, List.map_append, List.flatten_append]; simp
theorem srtTo_le (l : List Int) : ∀ k, (srtTo l k).length ≤ k * l.length
  | 0 => by simp [srtTo]
  | k + 1 => by
    have := srtTo_le l k
    have := occ_bnd (k : Int) l
    rw [srtTo_succ, List.length_append, List.length_replicate, Nat.add_mul]; omega
def srtL (o : Int) (l : List Int) : List Int := srtTo l o.toNat
theorem o_l07Sorted (o : Int) (l : List Int) (ho : 1 ≤ o ∧ o ≤ 64) (hl : l.length ≤ 20000000) (hr : ∀ x ∈ l, 0 ≤ x ∧ x ≤ o - 1) : Does Tryz.prog 42 [.int o, .sl (l.map Go.AI.encI)] [] (OwnL (srtL o l)) := by
  refine fn_of_runD tyOk ztOk mix Tryz.func42 rfl (by decide) Tryz.ntmps42 (fun w0 F => ?_)
  change Run _ _ _ _ _ F
  have hkA : some (A.int o) = some (A.int ((o.toNat : Nat) : Int)) := by rw [Int.toNat_of_nonneg (by omega)]
  repeat' (first
      | (refine j_go ?_; first
        | refine j_op0 rfl rfl rfl rfl ?_)
      | refine j_nil ?_
      | (refine r_go ?_; first | refine run_seq ?_ | refine run_region ?_)
      | refine seqQ_normal ?_)
  refine j_makeI (g := Go.AI.encI) (m := o.toNat) 0 rfl rfl rfl hkA hkA rfl rfl rfl rfl (by omega) rfl rfl (fun bz => ?_)
  repeat' (first
      | (refine j_go ?_; first
        | refine j_op0 rfl rfl rfl rfl ?_)
      | refine j_nil ?_
      | (refine r_go ?_; first | refine run_seq ?_ | refine run_region ?_ | refine run_block ?_)
      | refine seqQ_normal ?_)
  refine run_loop (fun k : Nat => [(0, .int o), (1, .sl (l.map Go.AI.encI)), (5, .os (some bz) o.toNat o.toNat), (6, .int (k : Int))]) (fun k => ⟨some bz, 2, o.toNat * 1, ((cntsL o.toNat (l.take k)).map Go.AI.encI).flatten⟩ :: F) (fun k => k ≤ l.length) (fun k => l.length - k) 0 ⟨rfl, rfl, rfl, rfl, trivial⟩ (by rw [List.take_zero, cntsL_nil]) (Nat.zero_le _) (fun k kl => ?_)
  by_cases hk : k < l.length
  case pos =>
    have hx := hr _ (List.getElem_mem hk)
    have hj : l[k] = ((l[k].toNat : Nat) : Int) := by rw [Int.toNat_of_nonneg (by omega)]
    have cl := cntsL_len (o := o.toNat) (l := l.take k)
    have ob := occ_bnd ((l[k].toNat : Nat) : Int) (l.take k)
    have tl : (l.take k).length ≤ k := List.length_take_le _ _
    have cg := cntsL_get (o := o.toNat) (l := l.take k) (j := l[k].toNat) (by omega)
    repeat' (first
      | (refine j_go ?_; first
        | refine j_op0 rfl rfl rfl rfl ?_ | (refine j_kIdx rfl ?_; first | refine j_idx rfl rfl rfl rfl rfl (by omega) rfl rfl rfl ?_ | refine j_midxz rfl rfl rfl rfl rfl (by first | omega | (simp only [List.length_append, List.length_cons, List.length_nil]; omega)) rfl rfl ?_) | (refine j_kLen rfl ?_; first | refine j_len rfl rfl rfl rfl rfl rfl ?_))
      | refine j_nil ?_
      | (refine r_go ?_; first | refine run_seq ?_ | refine run_region ?_ | (refine (run_if rfl (fun hb => ?_) (fun hb => ?_)) <;> first | (exfalso; omega) | skip) | refine run_block ?_ | refine run_skip ?_)
      | refine seqQ_normal ?_)
    refine j_mloadE 0 l[k].toNat (g := Go.AI.encI) (L := cntsL o.toNat (l.take k)) (z := 1) rfl rfl rfl rfl (fun _ => rfl) (by omega) (by omega) (fun _ => rfl) rfl rfl ?_
    repeat' (first
      | (refine j_go ?_; first
        | (refine j_kIdx rfl ?_; first | refine j_midxz rfl rfl rfl rfl rfl (by first | omega | (simp only [List.length_append, List.length_cons, List.length_nil]; omega)) rfl rfl ?_) | (refine j_kBin rfl ?_; first | refine j_in rfl rfl ⟨by omega, by omega⟩ rfl rfl ?_)))
    refine j_storeE 0 l[k].toNat (g := Go.AI.encI) ((cntsL o.toNat (l.take k))[l[k].toNat]'(by omega) + 1) rfl rfl rfl rfl rfl rfl rfl rfl rfl (fun _ => rfl) (by omega) (by omega) ?_
    rw [cg, cntsL_set hk hj (by omega)]
    repeat' (first
      | (refine j_go ?_; first
        | refine j_op0 rfl rfl rfl rfl ?_ | (refine j_kBin rfl ?_; first | refine j_in rfl rfl ⟨by omega, by omega⟩ rfl rfl ?_))
      | refine j_nil ?_
      | (refine r_go ?_; first | refine run_region ?_)
      | refine seqQ_normal ?_ | refine blockQ_normal ?_)
    exact loopQ_next (k + 1) (by omega) (by omega) rfl ⟨rfl, rfl, rfl, nx _, trivial⟩
  have hke : k = l.length := by omega
  subst hke
  rw [List.take_length]
  have cl := cntsL_len (o := o.toNat) (l := l)
  refine run_view (view_freeze (g := Go.AI.encI) (z := 1) (ys := cntsL o.toNat l) 0 5 (by rw [cl]; rfl) rfl rfl (fun _ => rfl) rfl rfl) ?_
  repeat' (first
      | (refine j_go ?_; first
        | refine j_op0 rfl rfl rfl rfl ?_ | (refine j_kLen rfl ?_; first | refine j_len rfl rfl rfl rfl rfl rfl ?_) | (refine j_kBsl rfl ?_; first | refine j_bs0 rfl rfl rfl rfl rfl rfl ?_))
      | refine j_nil ?_
      | (refine r_go ?_; first | refine run_seq ?_ | refine run_region ?_ | (refine (run_if rfl (fun hb => ?_) (fun hb => ?_)) <;> first | (exfalso; omega) | skip) | refine run_block ?_ | refine run_exit ?_)
      | refine seqQ_normal ?_ | refine seqQ_exit ?_ | refine blockQ_eq ?_ | refine loopQ_exit ?_)
  refine run_view (view_none 2 0 rfl) ?_
  refine run_loop (fun x : Nat × Option Nat × Nat => [(0, .int o), (5, .sl ((cntsL o.toNat l).map Go.AI.encI)), (7, .os x.2.1 (srtTo l x.1).length x.2.2), (8, .int (x.1 : Int))]) (fun x => ⟨x.2.1, 2, x.2.2 * 1, ((srtTo l x.1).map Go.AI.encI).flatten⟩ :: F) (fun x => x.1 ≤ o.toNat) (fun x => o.toNat - x.1) (0, none, 0) ⟨rfl, rfl, rfl, rfl, trivial⟩ rfl (Nat.zero_le _) (fun ⟨k, ob, cp⟩ kl => ?_)
  dsimp only at kl ⊢
  have sl := srtTo_le l k
  have sl2 : k * l.length ≤ 64 * l.length := Nat.mul_le_mul_right _ (by omega)
  by_cases hk : k < o.toNat
  case pos =>
    have ck := cntsL_get (o := o.toNat) (l := l) (j := k) (by omega)
    have ob' := occ_bnd (k : Int) l
    repeat' (first
      | (refine j_go ?_; first
        | refine j_op0 rfl rfl rfl rfl ?_)
      | refine j_nil ?_
      | (refine r_go ?_; first | refine run_seq ?_ | refine run_region ?_ | (refine (run_if rfl (fun hb => ?_) (fun hb => ?_)) <;> first | (exfalso; omega) | skip) | refine run_block ?_ | refine run_skip ?_)
      | refine seqQ_normal ?_)
    refine run_loop (fun x : Nat × Option Nat × Nat => [(0, .int o), (5, .sl ((cntsL o.toNat l).map Go.AI.encI)), (8, .int (k : Int)), (7, .os x.2.1 (srtTo l k ++ List.replicate x.1 (k : Int)).length x.2.2), (9, .int (x.1 : Int))]) (fun x => ⟨x.2.1, 2, x.2.2 * 1, ((srtTo l k ++ List.replicate x.1 (k : Int)).map Go.AI.encI).flatten⟩ :: F) (fun x => x.1 ≤ (occ (k : Int) l).toNat) (fun x => (occ (k : Int) l).toNat - x.1) (0, ob, cp) ⟨rfl, rfl, rfl, (by simp; rfl), rfl, trivial⟩ (by simp) (Nat.zero_le _) (fun ⟨i, oc, cc⟩ il => ?_)
    dsimp only at il ⊢
    have ll : (srtTo l k ++ List.replicate i (k : Int)).length = (srtTo l k).length + i := by rw [List.length_append, List.length_replicate]
    by_cases hi : i < (occ (k : Int) l).toNat
    case pos =>
      repeat' (first
      | (refine j_go ?_; first
        | refine j_op0 rfl rfl rfl rfl ?_ | (refine j_kIdx rfl ?_; first | refine j_idx rfl rfl rfl rfl rfl (by omega) rfl rfl rfl ?_) | (refine j_kBsl rfl ?_; first | refine j_bsl rfl rfl rfl rfl rfl rfl rfl rfl rfl rfl rfl ?_))
      | refine j_nil ?_
      | (refine r_go ?_; first | refine run_seq ?_ | refine run_region ?_ | (refine (run_if rfl (fun hb => ?_) (fun hb => ?_)) <;> first | (exfalso; omega) | skip) | refine run_block ?_ | refine run_skip ?_)
      | refine seqQ_normal ?_)
      refine j_append 0 (g := Go.AI.encI) (ys := srtTo l k ++ List.replicate i (k : Int)) [(k : Int)] rfl rfl rfl rfl rfl rfl rfl rfl rfl rfl rfl rfl (fun _ => rfl) (fun _ _ => rfl) ⟨by rw [ll]; simp only [List.length_cons, List.length_nil]; omega, by rw [ll]; simp only [List.length_cons, List.length_nil]; omega⟩ rfl rfl (fun b' cap' => ?_)
      rw [List.append_assoc, ← List.replicate_succ']
      repeat' (first
      | (refine j_go ?_; first
        | refine j_op0 rfl rfl rfl rfl ?_ | (refine j_kBin rfl ?_; first | refine j_in rfl rfl ⟨by omega, by omega⟩ rfl rfl ?_))
      | refine j_nil ?_
      | (refine r_go ?_; first | refine run_region ?_)
      | refine seqQ_normal ?_ | refine blockQ_normal ?_)
      exact loopQ_next (i + 1, b', cap') (by dsimp only; omega) (by dsimp only; omega) rfl ⟨rfl, rfl, rfl, rfl, nx _, trivial⟩
    have hie : i = (occ (k : Int) l).toNat := by omega
    subst hie
    repeat' (first
      | (refine j_go ?_; first
        | refine j_op0 rfl rfl rfl rfl ?_ | (refine j_kIdx rfl ?_; first | refine j_idx rfl rfl rfl rfl rfl (by omega) rfl rfl rfl ?_) | (refine j_kBin rfl ?_; first | refine j_in rfl rfl ⟨by omega, by omega⟩ rfl rfl ?_))
      | refine j_nil ?_
      | (refine r_go ?_; first | refine run_seq ?_ | refine run_region ?_ | (refine (run_if rfl (fun hb => ?_) (fun hb => ?_)) <;> first | (exfalso; omega) | skip) | refine run_exit ?_)
      | refine seqQ_normal ?_ | refine seqQ_exit ?_ | refine blockQ_normal ?_ | refine blockQ_eq ?_ | refine loopQ_exit ?_)
    rw [← srtTo_succ]
    exact loopQ_next (k + 1, oc, cc) (by dsimp only; omega) (by dsimp only; omega) rfl ⟨rfl, rfl, rfl, nx _, trivial⟩
  have hke : k = o.toNat := by omega
  subst hke
  repeat' (first
      | (refine j_go ?_; first
        | refine j_op0 rfl rfl rfl rfl ?_)
      | refine j_nil ?_
      | (refine r_go ?_; first | refine run_seq ?_ | refine run_region ?_ | (refine (run_if rfl (fun hb => ?_) (fun hb => ?_)) <;> first | (exfalso; omega) | skip) | refine run_ret ?_ | refine run_exit ?_)
      | refine seqQ_normal ?_ | refine seqQ_exit ?_ | refine blockQ_eq ?_ | refine loopQ_exit ?_)
  exact endD_ret (h1 := [_]) rfl (.cons (.tmp rfl) .nil) (Le.refl _) ⟨ob, cp, rfl, rfl⟩ (.inl rfl)
theorem c_l07Sorted (o : Int) (l : List Int) (ho : 1 ≤ o ∧ o ≤ 64) (hl : l.length ≤ 20000000) (hr : ∀ x ∈ l, 0 ≤ x ∧ x ≤ o - 1) : Gives Tryz.prog 42 [.int o, .sl (l.map Go.AI.encI)] (.sl ((srtL o l).map Go.AI.encI)) := (o_l07Sorted o l ho hl hr).frozen fun _ _ ⟨b, cap, q1, q2⟩ => by rw [q1, q2]; exact FrzF.flat rfl rfl (fun _ => rfl) rfl rfl
end Go.Proofs.YtbhiaccbpbnbmaaGreat

/-
  Copies of the data of theme 7 in memory of the call's own, and their marks. No condition but that the sizes are bounded.
-/
namespace Go.Proofs.YtbhiaccbpbnbmaaGreat
open Go.AI
set_option maxRecDepth 8000
set_option maxHeartbeats 1600000





end Go.Proofs.YtbhiaccbpbnbmaaGreat

/-
  Results in memory of the call's own: their marks, and what is held of them. No condition but that the sizes are bounded.
-/
namespace Go.Proofs.YtbhiaccbpbnbmaaGreat
open Go.AI
set_option maxRecDepth 8000
set_option maxHeartbeats 1600000
def ROI (l : List Int) (a : A) (h : Heap) : Prop := OwnF Go.AI.encI 2 1 l a h
def ROB (l : List Bool) (a : A) (h : Heap) : Prop := OwnF encB 4 1 l a h
def ROII (L : List (List Int)) (a : A) (h : Heap) : Prop := OwnLL ROI 27 L a h
theorem ROI.frz {l : List Int} {a : A} {h : Heap} (o : ROI l a h) : Frz h a (.sl (l.map Go.AI.encI)) := OwnF.frz (fun _ => rfl) rfl o
theorem ROB.frz {l : List Bool} {a : A} {h : Heap} (o : ROB l a h) : Frz h a (.sl (l.map encB)) := OwnF.frz (fun _ => rfl) rfl o
theorem ROII.frz {l : List (List Int)} {a : A} {h : Heap} (o : ROII l a h) : Frz h a (.sl (l.map (encS Go.AI.encI))) := OwnLL.frz (enc := fun x => (x.map Go.AI.encI)) (fun _ _ _ q => q.frz) o (fun _ => rfl)
theorem ROI.clo {l : List Int} {a : A} {h : Heap} (o : ROI l a h) : Clo a ∧ CloH h := OwnF.clo (fun _ => CloL.cons (Clo.int _) CloL.nil) o
theorem ROB.clo {l : List Bool} {a : A} {h : Heap} (o : ROB l a h) : Clo a ∧ CloH h := OwnF.clo (fun _ => CloL.cons (Clo.raw _) CloL.nil) o
theorem ROII.clo {l : List (List Int)} {a : A} {h : Heap} (o : ROII l a h) : Clo a ∧ CloH h := OwnLL.clo (fun _ _ _ q => q.clo) o
theorem OwnF.okc {α : Type} {g : α → List A} {T z : Nat} {l : List α} {a : A} {h : Heap} (o : OwnF g T z l a h) : okCell a = true := by
  rcases o with ⟨b, cap, rfl, rfl⟩ | ⟨rfl, rfl, rfl⟩ <;> rfl
theorem OwnLL.okc {β : Type} {O : β → A → Heap → Prop} {T : Nat} {L : List β} {a : A} {h : Heap} (o : OwnLL O T L a h) : okCell a = true := by
  rcases o with ⟨b, cap, vs, hs, _, _, _, rfl, rfl⟩ | ⟨rfl, rfl, rfl⟩ <;> rfl

theorem ROI.frzF {l : List Int} {a : A} {h : Heap} (o : ROI l a h) : FrzF h a (.sl (l.map Go.AI.encI)) := OwnF.frzF (fun _ => rfl) rfl o
theorem ROB.frzF {l : List Bool} {a : A} {h : Heap} (o : ROB l a h) : FrzF h a (.sl (l.map encB)) := OwnF.frzF (fun _ => rfl) rfl o
theorem ROII.frzF {l : List (List Int)} {a : A} {h : Heap} (o : ROII l a h) : FrzF h a (.sl (l.map (encS Go.AI.encI))) := OwnLL.frzF (enc := fun x => (x.map Go.AI.encI)) (fun _ _ _ q => q.frzF) o (fun _ => rfl)
end Go.Proofs.YtbhiaccbpbnbmaaGreat

/-
  Lists of structs with memory of their own. No condition.
-/
namespace Go.Proofs.YtbhiaccbpbnbmaaGreat
open Go.AI
set_option maxRecDepth 8000
set_option maxHeartbeats 1600000
/-- A list of elements with memory of their own: a block, or none at all. -/
def OwnS {α : Type} (E : α → List A → Heap → Prop) (T z : Nat) (L : List α) (a : A) (h : Heap) : Prop := OwnC E T z L a h ∨ (L = [] ∧ a = .sl [] ∧ h = [])
theorem OwnS.frz {α : Type} {E : α → List A → Heap → Prop} {enc : α → List A} {T z : Nat} {L : List α} {a : A} {h : Heap} (hz : ∀ x, (enc x).length = z) (hz0 : Nat.blt 0 z = true) (hE : ∀ x cs h, E x cs h → FrzL h cs (enc x)) (o : OwnS E T z L a h) : Frz h a (.sl (L.map enc)) := by
  rcases o with o | ⟨rfl, rfl, rfl⟩
  · exact o.frz hz hz0 hE
  · exact Frz.same _ _
theorem OwnS.frzF {α : Type} {E : α → List A → Heap → Prop} {enc : α → List A} {T z : Nat} {L : List α} {a : A} {h : Heap} (hz : ∀ x, (enc x).length = z) (hz0 : Nat.blt 0 z = true) (hE : ∀ x cs h, E x cs h → FrzLF h cs (enc x)) (o : OwnS E T z L a h) : FrzF h a (.sl (L.map enc)) := by
  rcases o with o | ⟨rfl, rfl, rfl⟩
  · exact o.frzF hz hz0 hE
  · exact FrzF.same _ _
theorem OwnS.clo {α : Type} {E : α → List A → Heap → Prop} {T z : Nat} {L : List α} {a : A} {h : Heap} (hE : ∀ x cs h, E x cs h → CloL cs ∧ CloH h) (o : OwnS E T z L a h) : Clo a ∧ CloH h := by
  rcases o with o | ⟨rfl, rfl, rfl⟩
  · exact o.clo hE
  · exact ⟨Clo.nil, CloH.nil⟩
theorem OwnS.okc {α : Type} {E : α → List A → Heap → Prop} {T z : Nat} {L : List α} {a : A} {h : Heap} (o : OwnS E T z L a h) : okCell a = true := by
  rcases o with ⟨b, cap, css, hs, _, _, _, rfl, rfl⟩ | ⟨rfl, rfl, rfl⟩ <;> rfl
end Go.Proofs.YtbhiaccbpbnbmaaGreat

/-
  Divisions and colonies in memory of the call's own: their marks, and what is held of them. No condition but that the sizes are bounded.
-/
namespace Go.Proofs.YtbhiaccbpbnbmaaGreat
open Go.AI
set_option maxRecDepth 8000
set_option maxHeartbeats 1600000
def ERGroup (x : Group) (cs : List A) (h : Heap) : Prop := ∃ (a0 : A), ROI x.contents a0 h ∧ cs = [.int x.charge, a0, .int x.count]
theorem ERGroup.frz {x : Group} {cs : List A} {h : Heap} (q : ERGroup x cs h) : FrzL h cs (encGroup x) := by
  obtain ⟨a0, o0, rfl⟩ := q
  exact FrzL.cons (Frz.same _ _) (FrzL.cons o0.frz (FrzL.cons (Frz.same _ _) (FrzL.nil _)))
theorem ERGroup.frzF {x : Group} {cs : List A} {h : Heap} (q : ERGroup x cs h) : FrzLF h cs (encGroup x) := by
  obtain ⟨a0, o0, rfl⟩ := q
  have := FrzLF.cons (FrzF.same [] (.int x.charge)) (FrzLF.cons o0.frzF (FrzLF.cons (FrzF.same [] (.int x.count)) (FrzLF.nil (h := []))))
  simp only [List.append_nil, List.nil_append] at this
  exact this
theorem ERGroup.clo {x : Group} {cs : List A} {h : Heap} (q : ERGroup x cs h) : CloL cs ∧ CloH h := by
  obtain ⟨a0, o0, rfl⟩ := q
  exact ⟨CloL.cons (Clo.int _) (CloL.cons o0.clo.1 (CloL.cons (Clo.int _) CloL.nil)), o0.clo.2⟩
def ROGroups (L : List Group) (a : A) (h : Heap) : Prop := OwnS ERGroup 54 3 L a h

def ERRule (x : DivRule) (cs : List A) (h : Heap) : Prop := ∃ (a0 : A) (h0 : Heap), ROI x.first a0 h0 ∧ ∃ (a1 : A) (h1 : Heap), ROI x.second a1 h1 ∧ cs = [.int x.kind, .int x.charge, .int x.object, .int x.to, a0, .int x.toB, a1] ∧ h = h0 ++ h1
theorem ERRule.frz {x : DivRule} {cs : List A} {h : Heap} (q : ERRule x cs h) : FrzL h cs (encDivRule x) := by
  obtain ⟨a0, h0, o0, a1, h1, o1, rfl, rfl⟩ := q
  exact FrzL.cons (Frz.same _ _) (FrzL.cons (Frz.same _ _) (FrzL.cons (Frz.same _ _) (FrzL.cons (Frz.same _ _) (FrzL.cons (Frz.mono (fun _ hk => by simp [hk]) o0.frz) (FrzL.cons (Frz.same _ _) (FrzL.cons (Frz.mono (fun _ hk => by simp [hk]) o1.frz) (FrzL.nil _)))))))
theorem ERRule.frzF {x : DivRule} {cs : List A} {h : Heap} (q : ERRule x cs h) : FrzLF h cs (encDivRule x) := by
  obtain ⟨a0, h0, o0, a1, h1, o1, rfl, rfl⟩ := q
  have := FrzLF.cons (FrzF.same [] (.int x.kind)) (FrzLF.cons (FrzF.same [] (.int x.charge)) (FrzLF.cons (FrzF.same [] (.int x.object)) (FrzLF.cons (FrzF.same [] (.int x.to)) (FrzLF.cons o0.frzF (FrzLF.cons (FrzF.same [] (.int x.toB)) (FrzLF.cons o1.frzF (FrzLF.nil (h := []))))))))
  simp only [List.append_nil, List.nil_append] at this
  exact this
theorem ERRule.clo {x : DivRule} {cs : List A} {h : Heap} (q : ERRule x cs h) : CloL cs ∧ CloH h := by
  obtain ⟨a0, h0, o0, a1, h1, o1, rfl, rfl⟩ := q
  exact ⟨CloL.cons (Clo.int _) (CloL.cons (Clo.int _) (CloL.cons (Clo.int _) (CloL.cons (Clo.int _) (CloL.cons o0.clo.1 (CloL.cons (Clo.int _) (CloL.cons o1.clo.1 CloL.nil)))))), o0.clo.2.append o1.clo.2⟩
def RORules (L : List DivRule) (a : A) (h : Heap) : Prop := OwnS ERRule 39 7 L a h
-- generated below
def RODivision (x : Division) (a : A) (h : Heap) : Prop := ∃ (a1 : A), RORules x.rules a1 h ∧ a = .agg [.int x.objects, a1]
theorem RODivision.frz {x : Division} {a : A} {h : Heap} (o : RODivision x a h) : Frz h a (.agg (encDivision x)) := by
  obtain ⟨a1, o1, rfl⟩ := o
  exact Frz.agg (FrzL.cons (Frz.same _ _) (FrzL.cons (OwnS.frz (fun _ => rfl) rfl (fun _ _ _ q => q.frz) o1) (FrzL.nil _)))
theorem RODivision.frzF {x : Division} {a : A} {h : Heap} (o : RODivision x a h) : FrzF h a (.agg (encDivision x)) := by
  obtain ⟨a1, o1, rfl⟩ := o
  have q := FrzLF.cons (FrzF.same [] (.int x.objects)) (FrzLF.cons (OwnS.frzF (enc := encDivRule) (fun _ => rfl) rfl (fun _ _ _ q => q.frzF) o1) (FrzLF.nil (h := [])))
  simp only [List.append_nil, List.nil_append] at q
  exact FrzF.agg q
theorem RODivision.clo {x : Division} {a : A} {h : Heap} (o : RODivision x a h) : Clo a ∧ CloH h := by
  obtain ⟨a1, o1, rfl⟩ := o
  have q := OwnS.clo (fun _ _ _ q => ERRule.clo q) o1
  exact ⟨Clo.agg (CloL.cons (Clo.int _) (CloL.cons q.1 CloL.nil)), q.2⟩
theorem RODivision.cells {x : Division} {a : A} {h : Heap} (o : RODivision x a h) : ∃ a0 a1, a = .agg [a0, a1] ∧ [a0, a1].all okCell = true := by
  obtain ⟨a1, o1, rfl⟩ := o
  exact ⟨_, a1, rfl, by simp only [List.all_cons, List.all_nil, OwnS.okc o1]; rfl⟩
def ROColony (x : Colony) (a : A) (h : Heap) : Prop := ∃ (a0 : A) (h0 : Heap), ROI x.skin a0 h0 ∧ ∃ (a1 : A) (h1 : Heap), ROGroups x.groups a1 h1 ∧ a = .agg [a0, a1] ∧ h = h0 ++ h1
theorem ROColony.frz {x : Colony} {a : A} {h : Heap} (o : ROColony x a h) : Frz h a (.agg (encColony x)) := by
  obtain ⟨a0, h0, o0, a1, h1, o1, rfl, rfl⟩ := o
  exact Frz.agg (FrzL.cons (Frz.mono (fun _ hk => by simp [hk]) o0.frz) (FrzL.cons (Frz.mono (fun _ hk => by simp [hk]) (OwnS.frz (enc := encGroup) (fun _ => rfl) rfl (fun _ _ _ q => q.frz) o1)) (FrzL.nil _)))
theorem ROColony.frzF {x : Colony} {a : A} {h : Heap} (o : ROColony x a h) : FrzF h a (.agg (encColony x)) := by
  obtain ⟨a0, h0, o0, a1, h1, o1, rfl, rfl⟩ := o
  have q := FrzLF.cons o0.frzF (FrzLF.cons (OwnS.frzF (enc := encGroup) (fun _ => rfl) rfl (fun _ _ _ q => q.frzF) o1) (FrzLF.nil (h := [])))
  simp only [List.append_nil] at q
  exact FrzF.agg q
theorem ROColony.clo {x : Colony} {a : A} {h : Heap} (o : ROColony x a h) : Clo a ∧ CloH h := by
  obtain ⟨a0, h0, o0, a1, h1, o1, rfl, rfl⟩ := o
  have q := OwnS.clo (fun _ _ _ q => ERGroup.clo q) o1
  exact ⟨Clo.agg (CloL.cons o0.clo.1 (CloL.cons q.1 CloL.nil)), o0.clo.2.append q.2⟩
theorem ROColony.cells {x : Colony} {a : A} {h : Heap} (o : ROColony x a h) : ∃ a0 a1, a = .agg [a0, a1] ∧ [a0, a1].all okCell = true := by
  obtain ⟨a0, h0, o0, a1, h1, o1, rfl, rfl⟩ := o
  exact ⟨a0, a1, rfl, by simp only [List.all_cons, List.all_nil, OwnF.okc o0, OwnS.okc o1]; rfl⟩
end Go.Proofs.YtbhiaccbpbnbmaaGreat
