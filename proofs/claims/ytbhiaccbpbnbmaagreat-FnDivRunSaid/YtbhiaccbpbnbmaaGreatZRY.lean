/-
  Colonies at rest: what the program computes. No condition.
-/
import Derived.Test.YtbhiaccbpbnbmaaGreatZS7u
import Derived.Test.YtbhiaccbpbnbmaaGreatZS0
import Derived.Test.YtbhiaccbpbnbmaaGreatZE5
import Derived.Test.YtbhiaccbpbnbmaaGreatZS3d
import Derived.KernelRfl
namespace Go.Proofs.YtbhiaccbpbnbmaaGreat
open Go.AI
set_option maxRecDepth 8000
set_option maxHeartbeats 1600000

theorem c_ixfU (f : FuncId) (caps : List A) (r : Use → Prop) (l : List (Use)) (hf : ∀ x ∈ l, Gives Tryz.prog f (.agg (encUse x) :: caps) (.raw (.bool (dec (r x))))) : Gives Tryz.prog 92 [.sl (l.map encUse), .fn f caps] (.int (fIdx r l)) := by
  refine fn_of_run tyOk ztOk mix Tryz.func92 rfl (by decide) Tryz.ntmps92 (fun w0 h => ?_)
  refine run_len (t := 0) rfl (fun hl => ?_)
  rw [List.length_map] at hl
  repeat' (first
      | (refine j_go ?_; first
        | refine j_op0 rfl rfl rfl rfl ?_ | (refine j_kLen rfl ?_; first | refine j_len rfl rfl rfl rfl rfl rfl ?_))
      | refine j_nil ?_
      | (refine r_go ?_; first | refine run_seq ?_ | refine run_region ?_ | refine run_block ?_)
      | refine seqQ_normal ?_)
  refine run_loop (fun k : Nat => [(0, .sl (l.map encUse)), (1, .fn f caps), (7, .int l.length), (8, .int (k : Int))]) (fun _ => _) (fun k => k ≤ l.length ∧ (∀ i (h : i < l.length), i < k → ¬ r l[i])) (fun k => l.length - k) 0 ⟨rfl, rfl, rfl, rfl, trivial⟩ rfl ⟨Nat.zero_le _, by first | (intros; omega) | (simp; done) | rfl | trivial | exact ⟨by simp [sumF], by intros; omega⟩ | exact ⟨by omega, by simp⟩⟩ (fun k ⟨kl, kp⟩ => ?_)
  repeat' (first
      | (refine j_go ?_; first
        | refine j_op0 rfl rfl rfl rfl ?_ | (refine j_kIdx rfl ?_; first | refine j_idx rfl rfl rfl rfl rfl (by omega) rfl rfl rfl ?_) | (refine j_kBin rfl ?_; first | refine j_in rfl rfl ⟨by omega, by omega⟩ rfl rfl ?_) | (refine j_kCall rfl rfl rfl rfl ?_; first | refine jc (hf _ (List.getElem_mem _)) (LeL.refl _) rfl rfl ?_))
      | refine j_nil ?_
      | (refine r_go ?_; first | refine run_seq ?_ | refine run_region ?_ | (refine (run_if rfl (fun hb => ?_) (fun hb => ?_)) <;> first | (exfalso; omega) | skip) | refine run_block ?_ | refine run_ret ?_ | refine run_exit ?_ | refine run_skip ?_)
      | refine seqQ_normal ?_ | refine seqQ_ret ?_ | refine seqQ_exit ?_ | refine blockQ_normal ?_ | refine blockQ_ret ?_ | refine blockQ_eq ?_ | refine loopQ_ret ?_ | refine loopQ_exit ?_)
  · exact end1 rfl (List.Sublist.refl _) (ai (fIdx_at (by omega) hb kp).symm) (.inl rfl)
  · exact loopQ_nextD (k + 1) ⟨by omega, all_step kp (fun _ => hb)⟩ (by omega) (by first | exact List.Sublist.refl _ | exact sub1 | exact sub2 | exact sub3) ⟨rfl, rfl, rfl, nx _, trivial⟩
  · exact end1 rfl (List.Sublist.refl _) (ai (fIdx_none (fun i h => kp i h (by omega))).symm) (.inl rfl)

theorem c_cfU (f : FuncId) (caps : List A) (r : Use → Prop) (l : List (Use)) (hf : ∀ x ∈ l, Gives Tryz.prog f (.agg (encUse x) :: caps) (.raw (.bool (dec (r x))))) : Gives Tryz.prog 68 [.sl (l.map encUse), .fn f caps] (.raw (.bool (dec (∃ x ∈ l, r x)))) := by
  refine fn_of_run tyOk ztOk mix Tryz.func68 rfl (by decide) Tryz.ntmps68 (fun w0 h => ?_)
  repeat' (first
      | (refine j_go ?_; first
        | refine j_op0 rfl rfl rfl rfl ?_ | (refine j_kCall rfl rfl rfl rfl ?_; first | refine jc (c_ixfU _ _ r _ hf) (LeL.refl _) rfl rfl ?_))
      | refine j_nil ?_
      | (refine r_go ?_; first | refine run_seq ?_ | refine run_region ?_ | refine run_ret ?_)
      | refine seqQ_normal ?_)
  exact end1 rfl (List.Sublist.refl _) (rbD (fIdx_ex r l)) (.inl rfl)
theorem q_cloneI (l : List Int) (hn : l.length ≤ 1000000) : Gives Tryz.prog 73 [.sl (l.map Go.AI.encI)] (.sl (l.map Go.AI.encI)) := by
  by_cases h : l = []
  · subst h
    refine fn_of_run tyOk ztOk mix Tryz.func73 rfl (by decide) Tryz.ntmps73 (fun w0 h => ?_)
    repeat' (first
      | (refine j_go ?_; first
        | refine j_op0 rfl rfl rfl rfl ?_)
      | refine j_nil ?_
      | (refine r_go ?_; first | refine run_seq ?_ | refine run_region ?_)
      | refine seqQ_normal ?_)
    refine j_slnilE rfl rfl rfl rfl rfl rfl (fun b => ?_)
    cases b with
    | true =>
      repeat' (first
      | (refine j_go ?_; first
        | refine j_op0 rfl rfl rfl rfl ?_)
      | refine j_nil ?_
      | (refine r_go ?_; first | refine run_seq ?_ | refine run_region ?_ | refine run_cond_t rfl ?_ | refine run_ret ?_)
      | refine seqQ_normal ?_ | refine seqQ_ret ?_)
      exact end_le (List.Sublist.refl _) (vs := [_]) (.cons (.tmp rfl) .nil) (Le.nilm _ _) (.inl rfl)
    | false =>
      repeat' (first
      | (refine j_go ?_; first
        | refine j_op0 rfl rfl rfl rfl ?_ | (refine j_kBsl rfl ?_; first | refine j_bs0 rfl rfl rfl rfl rfl rfl ?_))
      | refine j_nil ?_
      | (refine r_go ?_; first | refine run_seq ?_ | refine run_region ?_ | refine run_cond_f rfl ?_ | refine run_skip ?_)
      | refine seqQ_normal ?_)
      refine j_append0 (g := Go.AI.encI) [] rfl rfl rfl rfl rfl rfl rfl rfl (fun _ => rfl) (fun _ _ => rfl) ⟨by decide, by decide⟩ rfl rfl (fun b' cap' => ?_)
      repeat' (first
      | (refine j_go ?_; first
        | refine j_op0 rfl rfl rfl rfl ?_)
      | refine j_nil ?_
      | (refine r_go ?_; first | refine run_ret ?_)
      | refine seqQ_normal ?_)
      exact end_le sub1 (vs := [_]) (.cons (.tmp rfl) .nil) (Le.nilb _ _) (.inl rfl)
  · exact (o_cloneI l h hn).frozen fun _ _ ⟨b, cap, q1, q2⟩ => by rw [q1, q2]; exact FrzF.flat rfl rfl (fun _ => rfl) rfl rfl
theorem c_uses (d : Division) (c : Colony) (hv : d.Valid) (hc : c.Ok d.objects) : Gives Tryz.prog 46 [.agg (encDivision d), .agg (encColony c)] (.tup [.sl ((usA d c c.groups.length).map encUse), .sl ((stA d c c.groups.length).1.map Go.AI.encI)]) := by
  refine fn_of_run tyOk ztOk mix Tryz.func46 rfl (by decide) Tryz.ntmps46 (fun w0 h => ?_)
  have hd := hv.1
  have r120 := hv.2.1
  have sk300 := hc.1.2
  have g200 := hc.2.1
  have hnn : ∀ g ∈ c.groups, 0 ≤ g.count := hc.nn
  repeat' (first
      | (refine j_go ?_; first
        | refine j_op0 rfl rfl rfl rfl ?_ | (refine j_kLen rfl ?_; first | refine j_len rfl rfl rfl rfl rfl rfl ?_) | (refine j_kCall rfl rfl rfl rfl ?_; first | refine jc (q_cloneI c.skin (by omega)) (LeL.refl _) rfl rfl ?_) | (refine j_kBsl rfl ?_; first | refine j_bs0 rfl rfl rfl rfl rfl rfl ?_) | refine j_box rfl rfl rfl rfl rfl rfl ?_)
      | refine j_nil ?_
      | (refine r_go ?_; first | refine run_seq ?_ | refine run_region ?_ | refine run_block ?_)
      | refine seqQ_normal ?_)
  refine run_view (view_none 88 0 rfl) ?_
  refine run_loop (fun s : Nat × Option Nat × Nat => [(2, .ip (encDivision d)), (19, .sl (c.groups.map encGroup)), (20, .int c.groups.length), (6, .os s.2.1 (usA d c s.1).length s.2.2), (7, .sl ((stA d c s.1).1.map Go.AI.encI)), (21, .int (s.1 : Int))])
    (fun s => ⟨s.2.1, 88, s.2.2 * 11, ((usA d c s.1).map encUse).flatten⟩ :: h) (fun s => s.1 ≤ c.groups.length) (fun s => c.groups.length - s.1) (0, none, 0) ⟨rfl, rfl, rfl, rfl, rfl, rfl, trivial⟩ rfl (Nat.zero_le _) (fun ⟨k, bu, cu⟩ kl => ?_)
  dsimp only at kl ⊢
  have sl := (stA_sub (d := d) hnn k kl).length_le
  have ul := usA_len (d := d) (c := c) r120 k
  by_cases hk : k < c.groups.length
  case pos =>
    have hu := hc.upto hk
    have hg := (hc.2.2.1 k hk).1
    have hgn := hnn _ (List.getElem_mem hk)
    have us1 := usA_succ (d := d) hk
    have sa1 := stA_succ (d := d) hk
    generalize (stA d c k).1 = l0 at sl us1 sa1 ⊢
    generalize usA d c k = us at ul us1 ⊢
    repeat' (first
      | (refine j_go ?_; first
        | refine j_op0 rfl rfl rfl rfl ?_ | (refine j_kIdx rfl ?_; first | refine j_idx rfl rfl rfl rfl rfl (by omega) rfl rfl rfl ?_) | (refine j_kLen rfl ?_; first | refine j_len rfl rfl rfl rfl rfl rfl ?_) | (refine j_kLoad rfl ?_; first | refine j_mload 0 rfl rfl rfl rfl rfl rfl rfl ?_) | (refine j_kStore rfl ?_; first | refine j_storeN 0 rfl rfl rfl rfl rfl rfl rfl rfl rfl rfl rfl ?_) | refine j_alloc rfl rfl rfl rfl rfl (fun _ => ?_))
      | refine j_nil ?_
      | (refine r_go ?_; first | refine run_seq ?_ | refine run_region ?_ | (refine (run_if rfl (fun hb => ?_) (fun hb => ?_)) <;> first | (exfalso; omega) | skip) | refine run_block ?_ | refine run_skip ?_)
      | refine seqQ_normal ?_)
    refine run_view (view_freezeP 0 9 rfl rfl) ?_
    generalize c.groups[k] = g at hu hg hgn us1 sa1 ⊢
    refine run_loop (fun s : Nat × Option Nat × Nat => [(2, .ip (encDivision d)), (9, .ip (encGroup g)), (19, .sl (c.groups.map encGroup)), (20, .int c.groups.length), (21, .int (k : Int)), (28, .sl (d.rules.map encDivRule)), (29, .int d.rules.length), (6, .os s.2.1 (us ++ usK d g l0 s.1).length s.2.2), (7, .sl ((stK d g l0 s.1).1.map Go.AI.encI)), (10, .int (stK d g l0 s.1).2), (30, .int (s.1 : Int))])
      (fun s => ⟨s.2.1, 88, s.2.2 * 11, ((us ++ usK d g l0 s.1).map encUse).flatten⟩ :: h) (fun s => s.1 ≤ d.rules.length) (fun s => d.rules.length - s.1) (0, bu, cu) ⟨rfl, rfl, rfl, rfl, rfl, rfl, rfl, (by dsimp only; rw [usK, List.append_nil]; rfl), rfl, rfl, rfl, trivial⟩ (by dsimp only; rw [usK, List.append_nil]; rfl) (Nat.zero_le _) (fun ⟨j, bu, cu⟩ jl => ?_)
    dsimp only at jl ⊢
    have sb := stK_bnd (d := d) (g := g) (l := l0) (k := j) hgn
    have kl2 := usK_len (d := d) (g := g) (l := l0) j
    by_cases hj : j < d.rules.length
    case pos =>
      have hr := hv.2.2 _ (List.getElem_mem hj)
      have hr7 := hr.1
      have es := stK_succ (d := d) (g := g) (l := l0) hj
      have ey := usK_yes (d := d) (g := g) (l := l0) hj
      have en := usK_no (d := d) (g := g) (l := l0) hj
      generalize stK d g l0 j = s at es ey en sb ⊢
      obtain ⟨l, n⟩ := s
      dsimp only at sb es ey en ⊢
      have ll := sb.1.length_le
      have sk : manyOf g l n d.rules[j] = 0 → stK d g l0 (j + 1) = (l, n) := fun q => by rw [es, stR_0 q]
      have en2 : manyOf g l n d.rules[j] = 0 → usK d g l0 (j + 1) = usK d g l0 j := fun q => en (by rw [q]; omega)
      repeat' (first
      | (refine j_go ?_; first
        | refine j_op0 rfl rfl rfl rfl ?_ | refine j_off rfl rfl rfl ?_ | (refine j_kIdx rfl ?_; first | refine j_idx rfl rfl rfl rfl rfl (by omega) rfl rfl rfl ?_) | (refine j_kBin rfl ?_; first | refine j_in rfl rfl ⟨by omega, by omega⟩ rfl rfl ?_) | (refine j_kCall rfl rfl rfl rfl ?_; first | refine jc (c_slContains g.contents d.rules[j].object) (LeL.refl _) rfl rfl ?_) | (refine j_kLoad rfl ?_; first | refine j_mload 0 rfl rfl rfl rfl rfl rfl rfl ?_) | (refine j_kStore rfl ?_; first | refine j_storeN 0 rfl rfl rfl rfl rfl rfl rfl rfl rfl rfl rfl ?_) | (refine j_kBsl rfl ?_; first | refine j_bsl rfl rfl rfl rfl rfl rfl rfl rfl rfl rfl rfl ?_) | (refine j_kGuard rfl ?_; first | (refine (j_if rfl rfl rfl (fun hb => ?_) (fun hb => ?_)) <;> first | (exfalso; omega) | skip) | (refine (j_ifn rfl rfl rfl (fun hb => ?_) (fun hb => ?_)) <;> first | (exfalso; omega) | skip)) | refine j_build rfl rfl rfl rfl rfl rfl rfl ?_ | refine j_alloc rfl rfl rfl rfl rfl (fun _ => ?_))
      | refine j_nil ?_
      | (refine r_go ?_; first | refine run_seq ?_ | refine run_region ?_ | refine run_cond_t rfl ?_ | (refine (run_if rfl (fun hb => ?_) (fun hb => ?_)) <;> first | (exfalso; omega) | skip) | refine run_block ?_ | refine run_exit ?_ | refine run_skip ?_)
      | refine seqQ_normal ?_ | refine seqQ_exit ?_ | refine blockQ_normal ?_ | refine blockQ_eq ?_ | refine blockQ_ne rfl ?_)
      · exact loopQ_nextD (j + 1, bu, cu) (by dsimp only; omega) (by dsimp only; omega) (by dsimp only; rw [en2 (many_no (by omega))]; exact sub1) ⟨rfl, rfl, rfl, rfl, rfl, rfl, rfl, (by dsimp only; rw [en2 (many_no (by omega))]; rfl), (by dsimp only; rw [sk (many_no (by omega))]; rfl), (by dsimp only; rw [sk (many_no (by omega))]; rfl), nx _, trivial⟩
      · exact loopQ_nextD (j + 1, bu, cu) (by dsimp only; omega) (by dsimp only; omega) (by dsimp only; rw [en2 (many_no (by omega))]; exact sub1) ⟨rfl, rfl, rfl, rfl, rfl, rfl, rfl, (by dsimp only; rw [en2 (many_no (by omega))]; rfl), (by dsimp only; rw [sk (many_no (by omega))]; rfl), (by dsimp only; rw [sk (many_no (by omega))]; rfl), nx _, trivial⟩
      · exact loopQ_nextD (j + 1, bu, cu) (by dsimp only; omega) (by dsimp only; omega) (by dsimp only; rw [en2 (many_no (by omega))]; exact sub1) ⟨rfl, rfl, rfl, rfl, rfl, rfl, rfl, (by dsimp only; rw [en2 (many_no (by omega))]; rfl), (by dsimp only; rw [sk (many_no (by omega))]; rfl), (by dsimp only; rw [sk (many_no (by omega))]; rfl), nx _, trivial⟩
      · exact loopQ_nextD (j + 1, bu, cu) (by dsimp only; omega) (by dsimp only; omega) (by dsimp only; rw [en2 (many_no (by omega))]; exact sub1) ⟨rfl, rfl, rfl, rfl, rfl, rfl, rfl, (by dsimp only; rw [en2 (many_no (by omega))]; rfl), (by dsimp only; rw [sk (many_no (by omega))]; rfl), (by dsimp only; rw [sk (many_no (by omega))]; rfl), nx _, trivial⟩
      · have h5 : d.rules[j].kind = 5 := by assumption
        have hm : ¬ (d.rules[j].kind = 1 ∨ d.rules[j].kind = 2 ∨ d.rules[j].charge ≠ g.charge ∨ n = 0) := by omega
        have ob := occ_bnd d.rules[j].object l
        refine run_view (view_freezeP 0 12 rfl rfl) ?_
        refine run_loop (fun i : Nat => [(2, .ip (encDivision d)), (6, .os bu (us ++ usK d g l0 j).length cu), (9, .ip (encGroup g)), (10, .int n), (12, .ip (encDivRule d.rules[j])), (19, .sl (c.groups.map encGroup)), (20, .int c.groups.length), (21, .int (k : Int)), (28, .sl (d.rules.map encDivRule)), (29, .int d.rules.length), (30, .int (j : Int)), (7, .sl ((eraseN d.rules[j].object i l).map Go.AI.encI)), (13, .int (i : Int))])
          (fun _ => ⟨bu, 88, cu * 11, ((us ++ usK d g l0 j).map encUse).flatten⟩ :: h) (fun i => (i : Int) ≤ min n (occ d.rules[j].object l)) (fun i => n.toNat - i) 0 ⟨rfl, rfl, rfl, rfl, rfl, rfl, rfl, rfl, rfl, rfl, rfl, rfl, rfl, trivial⟩ rfl (by omega) (fun i il => ?_)
        have el := (eraseN_sub d.rules[j].object i l).length_le
        have oe := occ_eraseN (x := d.rules[j].object) (l := l) (n := i) (by omega)
        have om := occ_mem (x := d.rules[j].object) (l := eraseN d.rules[j].object i l)
        have cC := c_slContains (eraseN d.rules[j].object i l) d.rules[j].object
        by_cases hi : (i : Int) < min n (occ d.rules[j].object l)
        case pos =>
          have hx : d.rules[j].object ∈ eraseN d.rules[j].object i l := om.2 (by omega)
          rw [dec_t hx] at cC
          repeat' (first
      | (refine j_go ?_; first
        | refine j_op0 rfl rfl rfl rfl ?_ | (refine j_kBin rfl ?_; first | refine j_in rfl rfl ⟨by omega, by omega⟩ rfl rfl ?_) | (refine j_kCall rfl rfl rfl rfl ?_; first | refine jc (cC) (LeL.refl _) rfl rfl ?_ | refine jc (c_less (eraseN d.rules[j].object i l) d.rules[j].object (by omega) hx) (LeL.refl _) rfl rfl ?_) | (refine j_kGuard rfl ?_; first | (refine (j_if rfl rfl rfl (fun hb => ?_) (fun hb => ?_)) <;> first | (exfalso; omega) | skip)))
      | refine j_nil ?_
      | (refine r_go ?_; first | refine run_seq ?_ | refine run_region ?_ | refine run_cond_t rfl ?_ | refine run_block ?_ | refine run_skip ?_)
      | refine seqQ_normal ?_ | refine blockQ_normal ?_)
          exact loopQ_next (i + 1) (by omega) (by omega) rfl ⟨rfl, rfl, rfl, rfl, rfl, rfl, rfl, rfl, rfl, rfl, rfl, rfl, nx _, trivial⟩
        have ei : (i : Int) = min n (occ d.rules[j].object l) := by omega
        have ein : i = (min n (occ d.rules[j].object l)).toNat := by omega
        have hmany := many_in (l := l) hm h5
        have hout : ¬ (i : Int) < n ∨ (i : Int) < n ∧ ¬ d.rules[j].object ∈ eraseN d.rules[j].object i l := by
          by_cases q : (i : Int) < n
          · exact .inr ⟨q, fun z => by have := om.1 z; omega⟩
          · exact .inl q
        have es2 : stK d g l0 (j + 1) = (eraseN d.rules[j].object i l, n - (i : Int)) := by rw [es, stR_5 h5, hmany, ← ein, ← ei]
        have hmi : manyOf g l n d.rules[j] = (i : Int) := by rw [hmany, ei]
        rcases hout with hout | ⟨hout, hno⟩
        · repeat' (first
      | (refine j_go ?_; first
        | refine j_op0 rfl rfl rfl rfl ?_ | refine j_off rfl rfl rfl ?_ | (refine j_kBsl rfl ?_; first | refine j_bsl rfl rfl rfl rfl rfl rfl rfl rfl rfl rfl rfl ?_) | (refine j_kGuard rfl ?_; first | (refine (j_if rfl rfl rfl (fun hb => ?_) (fun hb => ?_)) <;> first | (exfalso; omega) | skip)) | refine j_build rfl rfl rfl rfl rfl rfl rfl ?_)
      | refine j_nil ?_
      | (refine r_go ?_; first | refine run_seq ?_ | refine run_region ?_ | refine run_cond_f rfl ?_ | (refine (run_if rfl (fun hb => ?_) (fun hb => ?_)) <;> first | (exfalso; omega) | skip) | refine run_exit ?_)
      | refine seqQ_normal ?_ | refine seqQ_exit ?_ | refine blockQ_normal ?_ | refine blockQ_eq ?_ | refine loopQ_exit ?_)
          refine j_append 0 (g := encUse) (ys := us ++ usK d g l0 j) [⟨g, d.rules[j], (i : Int)⟩] rfl rfl rfl rfl rfl rfl rfl rfl rfl rfl rfl rfl (fun _ => rfl) (fun _ _ => rfl) ⟨by rw [List.length_append]; simp only [List.length_cons, List.length_nil]; omega, by rw [List.length_append]; simp only [List.length_cons, List.length_nil]; omega⟩ rfl rfl (fun b' cap' => ?_)
          have eu := ey (by rw [hmi]; omega)
          rw [hmi] at eu
          rw [List.append_assoc, ← eu]
          repeat' (first
      | (refine j_go ?_; first
        | refine j_op0 rfl rfl rfl rfl ?_ | (refine j_kBin rfl ?_; first | refine j_in rfl rfl ⟨by omega, by omega⟩ rfl rfl ?_))
      | refine j_nil ?_
      | (refine r_go ?_; first | refine run_region ?_)
      | refine seqQ_normal ?_ | refine blockQ_normal ?_)
          exact loopQ_nextD (j + 1, b', cap') (by dsimp only; omega) (by dsimp only; omega) (List.Sublist.refl _) ⟨rfl, rfl, rfl, rfl, rfl, rfl, rfl, rfl, (by dsimp only; rw [es2]; rfl), (by dsimp only; rw [es2]; rfl), nx _, trivial⟩
        · rw [dec_f hno] at cC
          repeat' (first
      | (refine j_go ?_; first
        | refine j_op0 rfl rfl rfl rfl ?_ | (refine j_kBin rfl ?_; first | refine j_in rfl rfl ⟨by omega, by omega⟩ rfl rfl ?_) | (refine j_kCall rfl rfl rfl rfl ?_; first | refine jc (cC) (LeL.refl _) rfl rfl ?_) | (refine j_kBsl rfl ?_; first | refine j_bsl rfl rfl rfl rfl rfl rfl rfl rfl rfl rfl rfl ?_) | (refine j_kGuard rfl ?_; first | (refine (j_if rfl rfl rfl (fun hb => ?_) (fun hb => ?_)) <;> first | (exfalso; omega) | skip)) | refine j_build rfl rfl rfl rfl rfl rfl rfl ?_)
      | refine j_nil ?_
      | (refine r_go ?_; first | refine run_seq ?_ | refine run_region ?_ | refine run_cond_f rfl ?_ | (refine (run_if rfl (fun hb => ?_) (fun hb => ?_)) <;> first | (exfalso; omega) | skip) | refine run_exit ?_ | refine run_skip ?_)
      | refine seqQ_normal ?_ | refine seqQ_exit ?_ | refine blockQ_normal ?_ | refine blockQ_eq ?_ | refine loopQ_exit ?_)
          · refine j_append 0 (g := encUse) (ys := us ++ usK d g l0 j) [⟨g, d.rules[j], (i : Int)⟩] rfl rfl rfl rfl rfl rfl rfl rfl rfl rfl rfl rfl (fun _ => rfl) (fun _ _ => rfl) ⟨by rw [List.length_append]; simp only [List.length_cons, List.length_nil]; omega, by rw [List.length_append]; simp only [List.length_cons, List.length_nil]; omega⟩ rfl rfl (fun b' cap' => ?_)
            have eu := ey (by rw [hmi]; omega)
            rw [hmi] at eu
            rw [List.append_assoc, ← eu]
            repeat' (first
      | (refine j_go ?_; first
        | refine j_op0 rfl rfl rfl rfl ?_ | (refine j_kBin rfl ?_; first | refine j_in rfl rfl ⟨by omega, by omega⟩ rfl rfl ?_))
      | refine j_nil ?_
      | (refine r_go ?_; first | refine run_region ?_)
      | refine seqQ_normal ?_ | refine blockQ_normal ?_)
            exact loopQ_nextD (j + 1, b', cap') (by dsimp only; omega) (by dsimp only; omega) (List.Sublist.refl _) ⟨rfl, rfl, rfl, rfl, rfl, rfl, rfl, rfl, (by dsimp only; rw [es2]; rfl), (by dsimp only; rw [es2]; rfl), nx _, trivial⟩
          · have eu := en2 (by rw [hmi]; omega)
            exact loopQ_nextD (j + 1, bu, cu) (by dsimp only; omega) (by dsimp only; omega) (by dsimp only; rw [eu]; exact List.Sublist.refl _) ⟨rfl, rfl, rfl, rfl, rfl, rfl, rfl, (by dsimp only; rw [eu]; rfl), (by dsimp only; rw [es2]; rfl), (by dsimp only; rw [es2]; exact si (by dsimp only; omega)), nx _, trivial⟩
      · have h5 : ¬ d.rules[j].kind = 5 := by assumption
        have hm : ¬ (d.rules[j].kind = 1 ∨ d.rules[j].kind = 2 ∨ d.rules[j].charge ≠ g.charge ∨ n = 0) := by omega
        refine j_append 1 (g := encUse) (ys := us ++ usK d g l0 j) [⟨g, d.rules[j], n⟩] rfl rfl rfl rfl rfl rfl rfl rfl rfl rfl rfl rfl (fun _ => rfl) (fun _ _ => rfl) ⟨by rw [List.length_append]; simp only [List.length_cons, List.length_nil]; omega, by rw [List.length_append]; simp only [List.length_cons, List.length_nil]; omega⟩ rfl rfl (fun b' cap' => ?_)
        have eu := ey (by rw [many_yes hm h5 (by assumption)]; omega)
        rw [many_yes hm h5 (by assumption)] at eu
        have es2 : stK d g l0 (j + 1) = (l, n - (n)) := by rw [es]; rw [stR_n h5, many_yes hm h5 (by assumption)]
        rw [List.append_assoc, ← eu]
        repeat' (first
      | (refine j_go ?_; first
        | refine j_op0 rfl rfl rfl rfl ?_ | (refine j_kBin rfl ?_; first | refine j_in rfl rfl ⟨by omega, by omega⟩ rfl rfl ?_))
      | refine j_nil ?_
      | (refine r_go ?_; first | refine run_region ?_)
      | refine seqQ_normal ?_ | refine blockQ_normal ?_)
        exact loopQ_nextD (j + 1, b', cap') (by dsimp only; omega) (by dsimp only; omega) sub1 ⟨rfl, rfl, rfl, rfl, rfl, rfl, rfl, rfl, (by dsimp only; rw [es2]; rfl), (by dsimp only; rw [es2]; rfl), nx _, trivial⟩
      · have h5 : ¬ d.rules[j].kind = 5 := by assumption
        have hm : ¬ (d.rules[j].kind = 1 ∨ d.rules[j].kind = 2 ∨ d.rules[j].charge ≠ g.charge ∨ n = 0) := by omega
        exact loopQ_nextD (j + 1, bu, cu) (by dsimp only; omega) (by dsimp only; omega) (by dsimp only; rw [en2 (many_out hm h5 (by assumption))]; exact sub1) ⟨rfl, rfl, rfl, rfl, rfl, rfl, rfl, (by dsimp only; rw [en2 (many_out hm h5 (by assumption))]; rfl), (by dsimp only; rw [sk (many_out hm h5 (by assumption))]; rfl), (by dsimp only; rw [sk (many_out hm h5 (by assumption))]; rfl), nx _, trivial⟩
    obtain rfl : j = d.rules.length := by omega
    have uge : usG d l0 g = usK d g l0 d.rules.length ++ (if 0 < (stK d g l0 d.rules.length).2 then [⟨g, rule0, (stK d g l0 d.rules.length).2⟩] else []) := rfl
    have sge : stG d l0 g = (stK d g l0 d.rules.length).1 := rfl
    rw [sge] at sa1
    rw [uge] at us1
    generalize stK d g l0 d.rules.length = s at sa1 us1 sb ⊢
    obtain ⟨l, n⟩ := s
    dsimp only at sa1 us1 sb ⊢
    repeat' (first
      | (refine j_go ?_; first
        | refine j_op0 rfl rfl rfl rfl ?_ | (refine j_kBin rfl ?_; first | refine j_in rfl rfl ⟨by omega, by omega⟩ rfl rfl ?_) | refine j_build rfl rfl rfl rfl rfl rfl rfl ?_)
      | refine j_nil ?_
      | (refine r_go ?_; first | refine run_seq ?_ | refine run_region ?_ | (refine (run_if rfl (fun hb => ?_) (fun hb => ?_)) <;> first | (exfalso; omega) | skip) | refine run_exit ?_ | refine run_skip ?_)
      | refine seqQ_normal ?_ | refine seqQ_exit ?_ | refine blockQ_normal ?_ | refine blockQ_eq ?_ | refine loopQ_exit ?_)
    · refine j_view (view_le (t := 99) rfl (u := .agg (encUse ⟨g, rule0, n⟩)) (Le.agg (by repeat' first | exact LeL.nil | refine LeL.cons ?_ ?_ | exact Le.refl _ | exact Le.nilm _ _ | exact Le.nil _))) ?_
      repeat' (first
      | (refine j_go ?_; first
        | (refine j_kBsl rfl ?_; first | refine j_bsl rfl rfl rfl rfl rfl rfl rfl rfl rfl rfl rfl ?_)))
      refine j_append 0 (g := encUse) (ys := us ++ usK d g l0 d.rules.length) [⟨g, rule0, n⟩] rfl rfl rfl rfl rfl rfl rfl rfl rfl rfl rfl rfl (fun _ => rfl) (fun _ _ => rfl) ⟨by rw [List.length_append]; simp only [List.length_cons, List.length_nil]; omega, by rw [List.length_append]; simp only [List.length_cons, List.length_nil]; omega⟩ rfl rfl (fun b' cap' => ?_)
      rw [if_pos (by assumption)] at us1
      rw [List.append_assoc, ← us1]
      repeat' (first
      | (refine j_go ?_; first
        | refine j_op0 rfl rfl rfl rfl ?_ | (refine j_kBin rfl ?_; first | refine j_in rfl rfl ⟨by omega, by omega⟩ rfl rfl ?_))
      | refine j_nil ?_
      | (refine r_go ?_; first | refine run_region ?_)
      | refine seqQ_normal ?_ | refine blockQ_normal ?_)
      exact loopQ_nextD (k + 1, b', cap') (by dsimp only; omega) (by dsimp only; omega) (List.Sublist.refl _) ⟨rfl, rfl, rfl, rfl, (by dsimp only; rw [sa1]; rfl), nx _, trivial⟩
    · rw [if_neg (by assumption), List.append_nil] at us1
      exact loopQ_nextD (k + 1, bu, cu) (by dsimp only; omega) (by dsimp only; omega) (by dsimp only; rw [us1]; exact List.Sublist.refl _) ⟨rfl, rfl, rfl, (by dsimp only; rw [us1]; rfl), (by dsimp only; rw [sa1]; rfl), nx _, trivial⟩
  obtain rfl : k = c.groups.length := by omega
  repeat' (first
      | (refine j_go ?_; first
        | refine j_op0 rfl rfl rfl rfl ?_)
      | refine j_nil ?_
      | (refine r_go ?_; first | refine run_seq ?_ | refine run_region ?_ | (refine (run_if rfl (fun hb => ?_) (fun hb => ?_)) <;> first | (exfalso; omega) | skip) | refine run_ret ?_ | refine run_exit ?_)
      | refine seqQ_normal ?_ | refine seqQ_exit ?_ | refine blockQ_eq ?_ | refine loopQ_exit ?_)
  refine end_view (view_freeze (g := encUse) (z := 11) (ys := usA d c c.groups.length) 0 4 rfl rfl rfl (fun _ => rfl) rfl rfl) ?_
  exact end2 rfl rfl (List.Sublist.refl _) rfl (.inl rfl)
theorem c_rests11 (d : Division) (kind charge x : Int) (hv : d.rules.length ≤ 120) : Gives Tryz.prog 66 [.int x, .ip (encDivision d), .ip [.int kind], .ip [.int charge]] (.raw (.bool (dec (d.hasR kind charge x)))) := by
  refine fn_of_run tyOk ztOk mix Tryz.func66 rfl (by decide) Tryz.ntmps66 (fun w0 h => ?_)
  repeat' (first
      | (refine j_go ?_; first
        | refine j_op0 rfl rfl rfl rfl ?_ | (refine j_kCall rfl rfl rfl rfl ?_; first | refine jc (c_grow d kind charge x hv) (LeL.refl _) rfl rfl ?_))
      | refine j_nil ?_
      | (refine r_go ?_; first | refine run_seq ?_ | refine run_region ?_ | refine run_ret ?_)
      | refine seqQ_normal ?_)
  exact end1 rfl (List.Sublist.refl _) (rfl) (.inl rfl)
theorem c_rests1 (d : Division) (kind charge : Int) (l : List Int) (hv : d.rules.length ≤ 120) : Gives Tryz.prog 65 [.int kind, .int charge, .sl (l.map Go.AI.encI), .ip (encDivision d)] (.raw (.bool (dec (∃ x ∈ l, d.hasR kind charge x)))) := by
  refine fn_of_run tyOk ztOk mix Tryz.func65 rfl (by decide) Tryz.ntmps65 (fun w0 h => ?_)
  repeat' (first
      | (refine j_go ?_; first
        | refine j_op0 rfl rfl rfl rfl ?_ | (refine j_kCall rfl rfl rfl rfl ?_; first | refine jc (c_cfI _ _ (fun x => d.hasR kind charge x) _ (fun x _ => c_rests11 d kind charge x hv)) (LeL.refl _) rfl rfl ?_) | refine j_box rfl rfl rfl rfl rfl rfl ?_)
      | refine j_nil ?_
      | (refine r_go ?_; first | refine run_seq ?_ | refine run_region ?_ | refine run_ret ?_)
      | refine seqQ_normal ?_)
  exact end1 rfl (List.Sublist.refl _) (rfl) (.inl rfl)
theorem c_rests2 (d : Division) (u : Use) (hv : d.rules.length ≤ 120) : Gives Tryz.prog 69 [.agg (encUse u), .ip [.fn 65 [.ip (encDivision d)]]] (.raw (.bool (dec (actU d u)))) := by
  refine fn_of_run tyOk ztOk mix Tryz.func69 rfl (by decide) Tryz.ntmps69 (fun w0 h => ?_)
  repeat' (first
      | (refine j_go ?_; first
        | refine j_op0 rfl rfl rfl rfl ?_ | refine j_off rfl rfl rfl ?_ | (refine j_kCall rfl rfl rfl rfl ?_; first | refine jc (c_rests1 d 1 u.g.charge u.g.contents hv) (LeL.refl _) rfl rfl ?_) | (refine j_kGuard rfl ?_; first | (refine (j_ifn rfl rfl rfl (fun hb => ?_) (fun hb => ?_)) <;> first | (exfalso; omega) | skip)) | refine j_box rfl rfl rfl rfl rfl rfl ?_)
      | refine j_nil ?_
      | (refine r_go ?_; first | refine run_seq ?_ | refine run_region ?_ | refine run_ret ?_)
      | refine seqQ_normal ?_)
  · exact end1 rfl (by first | exact List.Sublist.refl _ | exact sub1 | exact sub2 | exact sub3) (rbT (.inl (by assumption))) (.inl rfl)
  · exact end1 rfl (List.Sublist.refl _) (rbD ⟨.inr, fun q => q.resolve_left (fun z => z (by assumption))⟩) (.inl rfl)
theorem c_rests (d : Division) (c : Colony) (hv : d.Valid) (hc : c.Ok d.objects) : Gives Tryz.prog 38 [.agg (encDivision d), .agg (encColony c)] (.raw (.bool (dec (Rests d c)))) := by
  refine fn_of_run tyOk ztOk mix Tryz.func38 rfl (by decide) Tryz.ntmps38 (fun w0 h => ?_)
  have r120 := hv.2.1
  repeat' (first
      | (refine j_go ?_; first
        | refine j_op0 rfl rfl rfl rfl ?_ | (refine j_kCall rfl rfl rfl rfl ?_; first | refine jc (c_uses d c hv hc) (LeL.refl _) rfl rfl ?_) | (refine j_kLoad rfl ?_; first | refine j_mload 0 rfl rfl rfl rfl rfl rfl rfl ?_) | (refine j_kStore rfl ?_; first | refine j_store 0 rfl rfl rfl rfl rfl rfl rfl rfl rfl rfl rfl ?_) | refine j_box rfl rfl rfl rfl rfl rfl ?_ | refine j_alloc rfl rfl rfl rfl rfl (fun _ => ?_))
      | refine j_nil ?_
      | (refine r_go ?_; first | refine run_seq ?_ | refine run_region ?_)
      | refine seqQ_normal ?_)
  refine j_view (view_freezeP 0 7 rfl rfl) ?_
  have ri := rests_iff hv hc.nn
  repeat' (first
      | (refine j_go ?_; first
        | refine j_op0 rfl rfl rfl rfl ?_ | refine j_off rfl rfl rfl ?_ | (refine j_kCall rfl rfl rfl rfl ?_; first | refine jc (c_rests1 d 2 0 (stA d c c.groups.length).1 r120) (LeL.refl _) rfl rfl ?_ | refine jc (c_cfU _ _ (fun u => actU d u) _ (fun u _ => c_rests2 d u r120)) (LeL.refl _) rfl rfl ?_) | (refine j_kGuard rfl ?_; first | (refine (j_ifn rfl rfl rfl (fun hb => ?_) (fun hb => ?_)) <;> first | (exfalso; omega) | skip)))
      | refine j_nil ?_
      | (refine r_go ?_; first | refine run_ret ?_)
      | refine seqQ_normal ?_)
  · exact end1 rfl (List.Sublist.refl _) (rbN ⟨fun q => ri.1 ⟨by assumption, q⟩, fun q => (ri.2 q).2⟩) (.inl rfl)
  · exact end1 rfl (by first | exact List.Sublist.refl _ | exact sub1 | exact sub2 | exact sub3) (rbF (fun q => (ri.2 q).1 (by assumption))) (.inl rfl)
theorem c_iIsAtRest (d : Division) (c : Colony) : Gives Tryz.prog 15 [.agg (encDivision d), .agg (encColony c)] (.tup [.raw (.bool (dec ((d.Valid ∧ c.Ok d.objects) ∧ Rests d c))), .int (cd2 d.Valid (c.Ok d.objects))]) := by
  refine fn_of_run tyOk ztOk mix Tryz.func15 rfl (by decide) Tryz.ntmps15 (fun w0 h => ?_)
  repeat' (first
      | (refine j_go ?_; first
        | refine j_op0 rfl rfl rfl rfl ?_ | (refine j_kCall rfl rfl rfl rfl ?_; first | refine jc (c_colonyCode _ _) (LeL.refl _) rfl rfl ?_) | refine j_box rfl rfl rfl rfl rfl rfl ?_)
      | refine j_nil ?_
      | (refine r_go ?_; first | refine run_seq ?_ | refine run_region ?_ | (refine (run_ifn rfl (fun hb => ?_) (fun hb => ?_)) <;> first | (exfalso; omega) | skip) | refine run_ret ?_ | refine run_skip ?_)
      | refine seqQ_normal ?_ | refine seqQ_ret ?_)
  · exact end2 rfl rfl (List.Sublist.refl _) (by rw [dec_f (fun q => hb (cd2_z.2 q.1))]; rfl) (.inl rfl)
  · have hz := hb
    have ⟨hv, hc⟩ := cd2_z.1 hb
    repeat' (first
      | (refine j_go ?_; first
        | refine j_op0 rfl rfl rfl rfl ?_ | (refine j_kCall rfl rfl rfl rfl ?_; first | refine jc (c_rests d c hv hc) (LeL.refl _) rfl rfl ?_))
      | refine j_nil ?_
      | (refine r_go ?_; first | refine run_ret ?_)
      | refine seqQ_normal ?_)
    exact end2 rfl rfl (List.Sublist.refl _) (by rw [hz, dec_congr (show Rests d c ↔ ((d.Valid ∧ c.Ok d.objects) ∧ Rests d c) from ⟨fun q => ⟨⟨hv, hc⟩, q⟩, fun q => q.2⟩)]; rfl) (.inl rfl)
end Go.Proofs.YtbhiaccbpbnbmaaGreat

/-
  Formulas: what the reference's and the program's ValidCnf compute. No condition.
-/
namespace Go.Proofs.YtbhiaccbpbnbmaaGreat
open Go.AI
set_option maxRecDepth 8000
set_option maxHeartbeats 1600000

def Cnf.Valid (f : Cnf) : Prop := (1 ≤ f.vars ∧ f.vars ≤ 4) ∧ f.clauses.length ≤ 6 ∧ ∀ c ∈ f.clauses, Rises (0 - f.vars) f.vars c ∧ 0 ∉ c




end Go.Proofs.YtbhiaccbpbnbmaaGreat

/-
  Formulas, colonies, divisions: what the comparisons of the reference and of the program compute. No condition.
-/
namespace Go.Proofs.YtbhiaccbpbnbmaaGreat
open Go.AI
set_option maxRecDepth 8000
set_option maxHeartbeats 1600000

theorem ext_of {α : Type} {a b : List α} (hl : a.length = b.length) (h : ∀ i (h : i < a.length), some a[i] = b[i]?) : a = b :=
  List.ext_getElem hl (fun i h1 h2 => by have := h i h1; rw [List.getElem?_eq_getElem h2] at this; exact Option.some.inj this)







theorem c_sSameColony (f g : Colony) : Gives Tryz.prog 9 [.agg (encColony f), .agg (encColony g)] (.raw (.bool (dec (f = g)))) := by
  refine fn_of_run tyOk ztOk mix Tryz.func9 rfl (by decide) Tryz.ntmps9 (fun w0 h => ?_)
  repeat' (first
      | (refine j_go ?_; first
        | refine j_op0 rfl rfl rfl rfl ?_ | refine j_off rfl rfl rfl ?_ | (refine j_kLen rfl ?_; first | refine j_len rfl rfl rfl rfl rfl rfl ?_) | (refine j_kCall rfl rfl rfl rfl ?_; first | refine jc (c_l00Same _ _) (LeL.refl _) rfl rfl ?_) | (refine j_kGuard rfl ?_; first | (refine (j_ifn rfl rfl rfl (fun hb => ?_) (fun hb => ?_)) <;> first | (exfalso; omega) | skip)) | refine j_box rfl rfl rfl rfl rfl rfl ?_)
      | refine j_nil ?_
      | (refine r_go ?_; first | refine run_seq ?_ | refine run_region ?_ | refine run_cond_t rfl ?_ | (refine (run_ifn rfl (fun hb => ?_) (fun hb => ?_)) <;> first | (exfalso; omega) | skip) | refine run_block ?_ | refine run_ret ?_ | refine run_skip ?_)
      | refine seqQ_normal ?_ | refine seqQ_ret ?_)
  · exact end1 rfl (by first | exact List.Sublist.refl _ | exact sub1 | exact sub2 | exact sub3) (rbF (fun q => hb (by rw [q]))) (.inl rfl)
  · exact end1 rfl (by first | exact List.Sublist.refl _ | exact sub1 | exact sub2 | exact sub3) (rbF (fun q => by rw [q] at hb; exact hb rfl)) (.inl rfl)
  · refine run_range (t := 17) (m := f.groups.length) rfl (fun hr => ?_)
    refine run_loop (fun k : Nat => [(2, .ip (encColony f)), (3, .ip (encColony g)), (5, .int (k : Int))]) (fun _ => _) (fun k => k ≤ f.groups.length ∧ (∀ i (h : i < f.groups.length), i < k → some f.groups[i] = g.groups[i]?)) (fun k => f.groups.length - k) 0 ⟨rfl, rfl, rfl, trivial⟩ rfl ⟨Nat.zero_le _, by first | (intros; omega) | (simp; done) | rfl | trivial | exact ⟨by simp [sumF], by intros; omega⟩ | exact ⟨by omega, by simp⟩⟩ (fun k ⟨kl, kp⟩ => ?_)
    repeat' (first
      | (refine j_go ?_; first
        | refine j_op0 rfl rfl rfl rfl ?_ | refine j_off rfl rfl rfl ?_ | (refine j_kIdx rfl ?_; first | refine j_idx rfl rfl rfl rfl rfl (by omega) rfl rfl rfl ?_) | (refine j_kBin rfl ?_; first | refine j_in rfl rfl ⟨by omega, by omega⟩ rfl rfl ?_) | (refine j_kLen rfl ?_; first | refine j_len rfl rfl rfl rfl rfl rfl ?_) | (refine j_kCall rfl rfl rfl rfl ?_; first | refine jc (c_l00Same _ _) (LeL.refl _) rfl rfl ?_) | (refine j_kGuard rfl ?_; first | (refine (j_ifn rfl rfl rfl (fun hb => ?_) (fun hb => ?_)) <;> first | (exfalso; omega) | skip)))
      | refine j_nil ?_
      | (refine r_go ?_; first | refine run_seq ?_ | refine run_region ?_ | refine run_cond_t rfl ?_ | (refine (run_if rfl (fun hb => ?_) (fun hb => ?_)) <;> first | (exfalso; omega) | skip) | (refine (run_ifn rfl (fun hb => ?_) (fun hb => ?_)) <;> first | (exfalso; omega) | skip) | refine run_block ?_ | refine run_ret ?_ | refine run_exit ?_ | refine run_skip ?_ | refine run_regionD (by kernel_rfl) ?_)
      | refine seqQ_normal ?_ | refine seqQ_ret ?_ | refine seqQ_exit ?_ | refine blockQ_normal ?_ | refine blockQ_ret ?_ | refine blockQ_eq ?_ | refine loopQ_ret ?_ | refine loopQ_exit ?_)
    · exact end1 rfl (by first | exact List.Sublist.refl _ | exact sub1 | exact sub2 | exact sub3) (rbF (fun q => by subst q; exact hb rfl)) (.inl rfl)
    · exact end1 rfl (by first | exact List.Sublist.refl _ | exact sub1 | exact sub2 | exact sub3) (rbF (fun q => by subst q; exact hb rfl)) (.inl rfl)
    · exact end1 rfl (by first | exact List.Sublist.refl _ | exact sub1 | exact sub2 | exact sub3) (rbF (fun q => by subst q; exact hb rfl)) (.inl rfl)
    · exact loopQ_nextD (k + 1) ⟨by omega, all_step kp (fun _ => by
        have e : f.groups[k] = g.groups[k] := by
          cases hx : f.groups[k]; cases hy : g.groups[k]; simp_all
        rw [e]; simp)⟩ (by omega) (by first | exact List.Sublist.refl _ | exact sub1 | exact sub2 | exact sub3) ⟨rfl, rfl, nx _, trivial⟩
    · exact end1 rfl (by first | exact List.Sublist.refl _ | exact sub1 | exact sub2 | exact sub3) (rbT (by have := ext_of (a := f.groups) (b := g.groups) (by omega) (fun i h => kp i h (by omega)); cases f; cases g; simp_all)) (.inl rfl)





end Go.Proofs.YtbhiaccbpbnbmaaGreat

/-
  Bytes read as data, and the program's own laws of layout. No condition.
-/
namespace Go.Proofs.YtbhiaccbpbnbmaaGreat
open Go.AI Go.RowKit
theorem rd_u8 {H : Type} {enc : TypeId × Value → H} {P : Program} {W : World} {t : TypeId} (ht : P.underlying t = some (.int .u8)) : Rd enc P W t encY := fun fuel cs x h => by
  obtain ⟨n, rfl, _, hw⟩ := DataW.trod_int ht h
  have := hw
  simp [Lit.wf, IntKind.min, IntKind.max, IntKind.signed, IntKind.bits] at this
  have e : n = ((UInt8.ofNat n.toNat).toNat : Int) := by
    rw [UInt8.toNat_ofNat']
    omega
  refine ⟨UInt8.ofNat n.toNat, RelL.cons ?_ RelL.nil⟩
  have r : Rel (Im W []) W (.u8 (UInt8.ofNat n.toNat)) (.int .u8 ((UInt8.ofNat n.toNat).toNat : Int)) := .u8 _
  rw [← e] at r
  exact r
theorem own : ownKnob Tryz.prog.godebug = none := by kernel_rfl
theorem laidOut : laidOutB Tryz.prog = true := by kernel_rfl
end Go.Proofs.YtbhiaccbpbnbmaaGreat
