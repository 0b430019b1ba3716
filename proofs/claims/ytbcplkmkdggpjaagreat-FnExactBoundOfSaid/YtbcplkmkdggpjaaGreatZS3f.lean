/-
  The gains of a rule: what the reference and the program compute. No condition.
-/
import Derived.Test.YtbcplkmkdggpjaaGreatZS4b
import Derived.Test.YtbcplkmkdggpjaaGreatZS3e
namespace Go.Proofs.YtbcplkmkdggpjaaGreat
open Go.AI
set_option maxRecDepth 8000
set_option maxHeartbeats 1600000

def wt (ws : List (List Int)) (c : Int) : List Int := ws.getD c.toNat []
def ownG (r : Rule) (ws : List (List Int)) : Int := dot r.here (wt ws r.cell) - dot r.need (wt ws r.cell) + sumF (fun x : Into => dot x.bag (wt ws x.cell)) r.into
def gainAt (r : Rule) (ws : List (List Int)) (p : Int) : Int := ownG r ws + dot r.out (wt ws p)
open Classical in
noncomputable def places (s : System) (r : Rule) : List Int := if r.cell = 0 then [(s.parents.length : Int)] else (pars s r.cell).reverse
theorem places_z {s : System} {r : Rule} (h : r.cell = 0) : places s r = [(s.parents.length : Int)] := by unfold places; rw [if_pos h]
theorem places_n {s : System} {r : Rule} (h : ¬ r.cell = 0) : places s r = (pars s r.cell).reverse := by unfold places; rw [if_neg h]
theorem places_mem {s : System} {r : Rule} (hf : s.Frame) (hr : s.RuleOk r) : ∀ x ∈ places s r, 0 ≤ x ∧ x ≤ (s.parents.length : Int) := fun x hx => by
  by_cases h : r.cell = 0
  · rw [places_z h] at hx; simp at hx; omega
  · rw [places_n h] at hx
    have := pars_mem hf hr.1 x (List.mem_reverse.1 hx)
    omega
theorem places_len {s : System} {r : Rule} : (places s r).length ≤ 7 := by
  by_cases h : r.cell = 0
  · rw [places_z h]; simp
  · rw [places_n h, List.length_reverse]; exact chainF_len s 7 _
theorem wt_ok {s : System} {ws : List (List Int)} (hw : s.Wts ws) {c : Int} (h : 0 ≤ c ∧ c ≤ (s.parents.length : Int)) : ∃ hc : c.toNat < ws.length, wt ws c = ws[c.toNat] ∧ (ws[c.toNat].length : Int) = s.kinds ∧ Wt ws[c.toNat] := by
  have := hw.2
  refine ⟨by omega, getD_get _, hw.1 _ _⟩
theorem dot_ok {s : System} {ws : List (List Int)} (hw : s.Wts ws) {b : List Int} (hb : BagK s.kinds b) {c : Int} (h : 0 ≤ c ∧ c ≤ (s.parents.length : Int)) : -8000000000 ≤ dot b (wt ws c) ∧ dot b (wt ws c) ≤ 8000000000 := by
  obtain ⟨hc, e, _, h2⟩ := wt_ok hw h
  rw [e]; exact dot_bnd hb.1 h2
theorem into_bnd {s : System} {ws : List (List Int)} {r : Rule} (hr : s.RuleOk r) (hw : s.Wts ws) (k : Nat) (hk : k ≤ r.into.length) : -8000000000 * (k : Int) ≤ sumF (fun x : Into => dot x.bag (wt ws x.cell)) (r.into.take k) ∧ sumF (fun x : Into => dot x.bag (wt ws x.cell)) (r.into.take k) ≤ 8000000000 * (k : Int) :=
  sumF_take (fun x : Into => dot x.bag (wt ws x.cell)) r.into (fun x hx => by
    obtain ⟨i, hi, rfl⟩ := List.getElem_of_mem hx
    have q := (hr.2.2.2.2.2.2.2.2.2.2 i hi).1
    exact dot_ok hw q.2.2.1 (by have := q.1; omega)) k hk
theorem own_bnd {s : System} {ws : List (List Int)} {r : Rule} (hr : s.RuleOk r) (hw : s.Wts ws) : -40000000000 ≤ ownG r ws ∧ ownG r ws ≤ 40000000000 := by
  have h1 := into_bnd hr hw r.into.length (Nat.le_refl _)
  rw [List.take_length] at h1
  have h2 := dot_ok hw hr.2.2.2.2.2.2.2.1 (c := r.cell) (by have := hr.1; omega)
  have h3 := dot_ok hw hr.2.2.2.2.1 (c := r.cell) (by have := hr.1; omega)
  have h4 := hr.2.2.2.1
  unfold ownG; omega
theorem map_succ {α β : Type} {f : α → β} {l : List α} {k : Nat} (hk : k < l.length) : (l.map f).take k ++ [f l[k]] = (l.map f).take (k + 1) := by
  rw [List.take_succ_eq_append_getElem (by simpa using hk)]; simp

theorem c_l04Gains (s : System) (r : Rule) (ws : List (List Int)) (hv : s.Ok) (hr : s.RuleOk r) (hw : s.Wts ws) : Gives Tryz.prog 35 [.ip (encSystem s), .ip (encRule r), .sl (ws.map (encS encI))] (.sl (((places s r).map (gainAt r ws)).map encI)) := by
  refine fn_of_run tyOk ztOk mix Tryz.func35 rfl (by decide) Tryz.ntmps35 (fun w0 h => ?_)
  have hf := hv.1
  have hl := hf.2.1
  have k8 := hf.1
  have hc := hr.1
  have i3 := hr.2.2.2.1
  have ob := own_bnd hr hw
  obtain ⟨wc, we, wl, ww⟩ := wt_ok hw (c := r.cell) (by omega)
  have n1 := hr.2.2.2.2.1
  have n4 := hr.2.2.2.2.2.2.2.1
  have n5 := hr.2.2.2.2.2.2.2.2.1
  have b1 := dot_bnd n4.1 ww
  have b2 := dot_bnd n1.1 ww
  have l1 := n1.2
  have l4 := n4.2
  have l5 := n5.2
  repeat' (first
      | (refine j_go ?_; first
        | refine j_op0 rfl rfl rfl rfl ?_ | (refine j_kIdx rfl ?_; first | refine j_idxz rfl rfl rfl rfl rfl ⟨by omega, by omega⟩ rfl rfl rfl ?_) | (refine j_kBin rfl ?_; first | refine j_in rfl rfl ⟨by omega, by omega⟩ rfl rfl ?_) | (refine j_kCall rfl rfl rfl rfl ?_; first | refine jc (c_l02Dot r.here _ n4.1 ww (by omega)) (LeL.refl _) rfl rfl ?_ | refine jc (c_l02Dot r.need _ n1.1 ww (by omega)) (LeL.refl _) rfl rfl ?_))
      | refine j_nil ?_
      | (refine r_go ?_; first | refine run_seq ?_ | refine run_region ?_ | refine run_block ?_ | refine run_regionD (by kernel_rfl) ?_)
      | refine seqQ_normal ?_)
  refine run_loop (fun k : Nat => [(0, .ip (encSystem s)), (1, .ip (encRule r)), (2, .sl (ws.map (encS encI))), (7, .int (dot r.here ws[r.cell.toNat] - dot r.need ws[r.cell.toNat] + sumF (fun x : Into => dot x.bag (wt ws x.cell)) (r.into.take k))), (8, .int (k : Int))]) (fun _ => _) (fun k => k ≤ r.into.length ∧ (True)) (fun k => r.into.length - k) 0 ⟨rfl, rfl, rfl, (by first | rfl | exact si (by first | omega | (simp; done) | (simp [sumF]; done) | (simp; omega)) | exact raw_f (by simp) | exact raw_t (by simp) | exact sa (by first | (rw [catK_zero]; rfl) | (rw [catK_zero, List.append_nil]; rfl) | (rw [catK_zero, List.append_nil]) | (rw [joinK_zero, List.append_nil]; rfl) | (rw [joinK_zero, List.append_nil]) | (simp [catK]; done))), rfl, trivial⟩ rfl ⟨Nat.zero_le _, by first | (intros; omega) | (simp; done) | rfl | trivial | exact ⟨by simp [sumF], by intros; omega⟩ | exact ⟨by omega, by simp⟩⟩ (fun k ⟨kl, kp⟩ => ?_)
  have ib := into_bnd hr hw k kl
  by_cases hk : k < r.into.length
  · have q := (hr.2.2.2.2.2.2.2.2.2.2 k hk).1
    have qc := q.1
    have ql := q.2.2.1.2
    obtain ⟨xc, xe, xl, xw⟩ := wt_ok hw (c := r.into[k].cell) (by omega)
    have xb := dot_bnd q.2.2.1.1 xw
    repeat' (first
      | (refine j_go ?_; first
        | refine j_op0 rfl rfl rfl rfl ?_ | (refine j_kIdx rfl ?_; first | refine j_idx rfl rfl rfl rfl rfl (by omega) rfl rfl rfl ?_ | refine j_idxz rfl rfl rfl rfl rfl ⟨by omega, by omega⟩ rfl rfl rfl ?_) | (refine j_kBin rfl ?_; first | refine j_in rfl rfl ⟨by omega, by omega⟩ rfl rfl ?_) | (refine j_kLen rfl ?_; first | refine j_len rfl rfl rfl rfl rfl rfl ?_) | (refine j_kCall rfl rfl rfl rfl ?_; first | refine jc (c_l02Dot _ _ q.2.2.1.1 xw (by omega)) (LeL.refl _) rfl rfl ?_))
      | refine j_nil ?_
      | (refine r_go ?_; first | refine run_seq ?_ | refine run_region ?_ | (refine (run_if rfl (fun hb => ?_) (fun hb => ?_)) <;> first | (exfalso; omega) | skip) | refine run_block ?_ | refine run_skip ?_ | refine run_regionD (by kernel_rfl) ?_)
      | refine seqQ_normal ?_ | refine blockQ_normal ?_)
    exact loopQ_nextD (k + 1) ⟨by omega, trivial⟩ (by omega) (by first | exact List.Sublist.refl _ | exact sub1 | exact sub2 | exact sub3) ⟨rfl, rfl, rfl, (by first | rfl | (rw [sumF_succ (fun x : Into => dot x.bag (wt ws x.cell)) hk]; exact si (by rw [xe]; omega)) | exact si (by omega)), nx _, trivial⟩
  have eo : dot r.here ws[r.cell.toNat] - dot r.need ws[r.cell.toNat] + sumF (fun x : Into => dot x.bag (wt ws x.cell)) (r.into.take k) = ownG r ws := by
    unfold ownG; rw [we, List.take_of_length_le (by omega)]
  repeat' (first
      | (refine j_go ?_; first
        | refine j_op0 rfl rfl rfl rfl ?_ | (refine j_kLen rfl ?_; first | refine j_len rfl rfl rfl rfl rfl rfl ?_) | (refine j_kCall rfl rfl rfl rfl ?_; first | refine jc (c_l04Parents _ _ hv hc) (LeL.refl _) rfl rfl ?_) | (refine j_kBsl rfl ?_; first | refine j_bs0 rfl rfl rfl rfl rfl rfl ?_ | refine j_bsl rfl rfl rfl rfl rfl rfl rfl rfl rfl rfl rfl ?_))
      | refine j_nil ?_
      | (refine r_go ?_; first | refine run_seq ?_ | refine run_region ?_ | (refine (run_if rfl (fun hb => ?_) (fun hb => ?_)) <;> first | (exfalso; omega) | skip) | refine run_block ?_ | refine run_exit ?_ | refine run_skip ?_)
      | refine seqQ_normal ?_ | refine seqQ_exit ?_ | refine blockQ_eq ?_ | refine loopQ_exit ?_)
  all_goals
    have pm := places_mem hf hr
    have pl := places_len (s := s) (r := r)
    refine run_view (view_none 2 0 rfl) ?_
    refine run_loop (fun x : Nat × Option Nat × Nat => [(1, .ip (encRule r)), (2, .sl (ws.map (encS encI))), (7, .int (ownG r ws)), (9, .sl ((places s r).map encI)), (10, .os x.2.1 (((places s r).map (gainAt r ws)).take x.1).length x.2.2), (11, .int (x.1 : Int))]) (fun x => ⟨x.2.1, 2, x.2.2 * 1, ((((places s r).map (gainAt r ws)).take x.1).map encI).flatten⟩ :: h) (fun x => x.1 ≤ (places s r).length) (fun x => (places s r).length - x.1) (0, none, 0) ⟨rfl, rfl, (by rw [← eo]; rfl), (by first | (rw [places_z (by assumption)]; rfl) | (rw [places_n (by assumption)]; rfl)), rfl, rfl, trivial⟩ rfl (Nat.zero_le _) (fun ⟨j, ob2, cp⟩ jl => ?_)
    dsimp only at jl ⊢
    have tl : (((places s r).map (gainAt r ws)).take j).length = j := by rw [List.length_take, List.length_map]; omega
    by_cases hj : j < (places s r).length
    · have pj := pm _ (List.getElem_mem hj)
      obtain ⟨yc, ye, yl, yw⟩ := wt_ok hw pj
      have yb := dot_bnd n5.1 yw
      repeat' (first
      | (refine j_go ?_; first
        | refine j_op0 rfl rfl rfl rfl ?_ | (refine j_kLen rfl ?_; first | refine j_len rfl rfl rfl rfl rfl rfl ?_))
      | refine j_nil ?_
      | (refine j_goO ?_; first
        | refine j_op0O rfl rfl rfl rfl ?_ | (refine j_kIdxO rfl ?_; first | refine j_idxO rfl rfl rfl rfl rfl (by omega) rfl rfl rfl ?_ | refine j_idxzO rfl rfl rfl rfl rfl ⟨by omega, by omega⟩ rfl rfl rfl ?_) | (refine j_kBinO rfl ?_; first | refine j_inO rfl rfl ⟨by omega, by omega⟩ rfl rfl ?_) | (refine j_kCallO rfl rfl rfl rfl ?_; first | refine jcO (c_l02Dot _ _ n5.1 yw (by omega)) (LeL.refl _) rfl rfl ?_) | (refine j_kBslO rfl ?_; first | refine j_bslO rfl rfl rfl rfl rfl rfl rfl rfl rfl rfl rfl ?_))
      | (refine r_go ?_; first | refine run_seq ?_ | refine run_region ?_ | (refine (run_if rfl (fun hb => ?_) (fun hb => ?_)) <;> first | (exfalso; omega) | skip) | refine run_block ?_ | refine run_skip ?_ | refine run_opn 13 [⟨0, true, false, false⟩, ⟨1, true, false, false⟩, ⟨2, true, false, false⟩, ⟨3, true, false, false⟩, ⟨4, true, false, false⟩, ⟨5, true, false, false⟩, ⟨6, true, false, false⟩, ⟨7, true, false, false⟩, ⟨8, true, false, false⟩, ⟨9, true, false, false⟩, ⟨10, true, false, false⟩, ⟨11, true, false, false⟩, ⟨12, true, false, false⟩, ⟨13, true, false, false⟩, ⟨14, true, false, false⟩, ⟨15, true, false, false⟩, ⟨16, false, true, false⟩, ⟨17, true, false, false⟩] rfl rfl (by kernel_rfl) ?_)
      | refine seqQ_normal ?_)
      refine j_appendO 0 (g := encI) [ownG r ws + dot r.out ws[((places s r)[j]).toNat]] rfl (fun _ hk => nomatch hk) rfl rfl rfl rfl rfl rfl rfl rfl rfl rfl rfl rfl (fun _ => rfl) (fun _ _ => rfl) ⟨by rw [tl]; simp only [List.length_cons, List.length_nil]; omega, by rw [tl]; simp only [List.length_cons, List.length_nil]; omega⟩ rfl rfl (fun b' cap' => ?_)
      have es : ((places s r).map (gainAt r ws)).take j ++ [ownG r ws + dot r.out ws[((places s r)[j]).toNat]] = ((places s r).map (gainAt r ws)).take (j + 1) := by
        rw [← map_succ hj]; unfold gainAt; rw [ye]
      rw [es]
      repeat' (first
      | (refine j_go ?_; first
        | refine j_op0 rfl rfl rfl rfl ?_ | (refine j_kBin rfl ?_; first | refine j_in rfl rfl ⟨by omega, by omega⟩ rfl rfl ?_))
      | refine j_nil ?_
      | (refine j_goO ?_; first
        | refine j_op0O rfl rfl rfl rfl ?_)
      | refine j_nilO ?_
      | (refine r_go ?_; first | refine run_region ?_)
      | refine seqQ_normal ?_ | refine blockQ_normal ?_)
      exact loopQ_next (j + 1, b', cap') (by dsimp only; omega) (by dsimp only; omega) rfl ⟨rfl, rfl, rfl, rfl, rfl, nx _, trivial⟩
    · repeat' (first
      | (refine j_go ?_; first
        | refine j_op0 rfl rfl rfl rfl ?_ | (refine j_kLen rfl ?_; first | refine j_len rfl rfl rfl rfl rfl rfl ?_))
      | refine j_nil ?_
      | (refine r_go ?_; first | refine run_seq ?_ | refine run_region ?_ | (refine (run_if rfl (fun hb => ?_) (fun hb => ?_)) <;> first | (exfalso; omega) | skip) | refine run_ret ?_ | refine run_exit ?_)
      | refine seqQ_normal ?_ | refine seqQ_exit ?_ | refine blockQ_eq ?_ | refine loopQ_exit ?_)
      refine end_view (view_freeze (g := encI) (z := 1) (ys := ((places s r).map (gainAt r ws)).take j) 0 6 rfl rfl rfl (fun _ => rfl) rfl rfl) ?_
      exact end1 rfl (List.Sublist.refl _) (by rw [List.take_of_length_le (by rw [List.length_map]; omega)]) (.inl rfl)

end Go.Proofs.YtbcplkmkdggpjaaGreat

/-
  Gains and what holds of all of them: what the program computes. No condition.
-/
namespace Go.Proofs.YtbcplkmkdggpjaaGreat
open Go.AI
set_option maxRecDepth 8000
set_option maxHeartbeats 1600000

theorem c_around (s : System) : Gives Tryz.prog 81 [.agg (encSystem s)] (.int s.parents.length) := by
  refine fn_of_run tyOk ztOk mix Tryz.func81 rfl (by decide) Tryz.ntmps81 (fun w0 h => ?_)
  repeat' (first
      | (refine j_go ?_; first
        | refine j_op0 rfl rfl rfl rfl ?_ | (refine j_kLen rfl ?_; first | refine j_len rfl rfl rfl rfl rfl rfl ?_) | refine j_box rfl rfl rfl rfl rfl rfl ?_)
      | refine j_nil ?_
      | (refine r_go ?_; first | refine run_seq ?_ | refine run_region ?_ | refine run_ret ?_)
      | refine seqQ_normal ?_)
  exact end1 rfl (List.Sublist.refl _) (rfl) (.inl rfl)

def GainsR (s : System) (r : Rule) (ws : List (List Int)) : A → Heap → Prop := fun v h1 => ∃ P' : List Int, P'.Perm (places s r) ∧ v = .sl ((P'.map (gainAt r ws)).map encI) ∧ h1 = []
theorem c_gains (s : System) (r : Rule) (ws : List (List Int)) (hv : s.Ok) (hr : s.RuleOk r) (hw : s.Wts ws) : Does Tryz.prog 65 [.agg (encSystem s), .agg (encRule r), .sl (ws.map (encS encI))] [] (GainsR s r ws) := by
  refine fn_of_runD tyOk ztOk mix Tryz.func65 rfl (by decide) Tryz.ntmps65 (fun w0 F => ?_)
  have hf := hv.1
  have hl := hf.2.1
  have k8 := hf.1
  have hc := hr.1
  have i3 := hr.2.2.2.1
  have ob := own_bnd hr hw
  obtain ⟨wc, we, wl, ww⟩ := wt_ok hw (c := r.cell) (by omega)
  have n1 := hr.2.2.2.2.1
  have n4 := hr.2.2.2.2.2.2.2.1
  have n5 := hr.2.2.2.2.2.2.2.2.1
  have b1 := dot_bnd n4.1 ww
  have b2 := dot_bnd n1.1 ww
  have l1 := n1.2
  have l4 := n4.2
  have l5 := n5.2
  repeat' (first
      | (refine j_go ?_; first
        | refine j_op0 rfl rfl rfl rfl ?_ | (refine j_kIdx rfl ?_; first | refine j_idxz rfl rfl rfl rfl rfl ⟨by omega, by omega⟩ rfl rfl rfl ?_) | (refine j_kBin rfl ?_; first | refine j_in rfl rfl ⟨by omega, by omega⟩ rfl rfl ?_) | (refine j_kLen rfl ?_; first | refine j_len rfl rfl rfl rfl rfl rfl ?_) | (refine j_kCall rfl rfl rfl rfl ?_; first | refine jc (c_weigh r.here _ n4.1 ww (by omega)) (LeL.refl _) rfl rfl ?_ | refine jc (c_weigh r.need _ n1.1 ww (by omega)) (LeL.refl _) rfl rfl ?_) | refine j_box rfl rfl rfl rfl rfl rfl ?_)
      | refine j_nil ?_
      | (refine r_go ?_; first | refine run_seq ?_ | refine run_region ?_ | refine run_block ?_ | refine run_regionD (by kernel_rfl) ?_)
      | refine seqQ_normal ?_)
  refine run_loop (fun k : Nat => [(2, .sl (ws.map (encS encI))), (3, .ip (encSystem s)), (4, .ip (encRule r)), (32, .sl (r.into.map encInto)), (33, .int r.into.length), (7, .int (dot r.here ws[r.cell.toNat] - dot r.need ws[r.cell.toNat] + sumF (fun x : Into => dot x.bag (wt ws x.cell)) (r.into.take k))), (34, .int (k : Int))]) (fun _ => _) (fun k => k ≤ r.into.length ∧ (True)) (fun k => r.into.length - k) 0 ⟨rfl, rfl, rfl, rfl, rfl, (by first | rfl | exact si (by first | omega | (simp; done) | (simp [sumF]; done) | (simp; omega)) | exact raw_f (by simp) | exact raw_t (by simp) | exact sa (by first | (rw [catK_zero]; rfl) | (rw [catK_zero, List.append_nil]; rfl) | (rw [catK_zero, List.append_nil]) | (rw [joinK_zero, List.append_nil]; rfl) | (rw [joinK_zero, List.append_nil]) | (simp [catK]; done))), rfl, trivial⟩ rfl ⟨Nat.zero_le _, by first | (intros; omega) | (simp; done) | rfl | trivial | exact ⟨by simp [sumF], by intros; omega⟩ | exact ⟨by omega, by simp⟩⟩ (fun k ⟨kl, kp⟩ => ?_)
  have ib := into_bnd hr hw k kl
  by_cases hk : k < r.into.length
  · have q := (hr.2.2.2.2.2.2.2.2.2.2 k hk).1
    have qc := q.1
    have ql := q.2.2.1.2
    obtain ⟨xc, xe, xl, xw⟩ := wt_ok hw (c := r.into[k].cell) (by omega)
    have xb := dot_bnd q.2.2.1.1 xw
    repeat' (first
      | (refine j_go ?_; first
        | refine j_op0 rfl rfl rfl rfl ?_ | (refine j_kIdx rfl ?_; first | refine j_idx rfl rfl rfl rfl rfl (by omega) rfl rfl rfl ?_ | refine j_idxz rfl rfl rfl rfl rfl ⟨by omega, by omega⟩ rfl rfl rfl ?_) | (refine j_kBin rfl ?_; first | refine j_in rfl rfl ⟨by omega, by omega⟩ rfl rfl ?_) | (refine j_kCall rfl rfl rfl rfl ?_; first | refine jc (c_weigh _ _ q.2.2.1.1 xw (by omega)) (LeL.refl _) rfl rfl ?_) | (refine j_kLoad rfl ?_; first | refine j_mload 0 rfl rfl rfl rfl rfl rfl rfl ?_) | (refine j_kStore rfl ?_; first | refine j_storeN 0 rfl rfl rfl rfl rfl rfl rfl rfl rfl rfl rfl ?_) | refine j_alloc rfl rfl rfl rfl rfl (fun _ => ?_))
      | refine j_nil ?_
      | (refine r_go ?_; first | refine run_seq ?_ | refine run_region ?_ | (refine (run_if rfl (fun hb => ?_) (fun hb => ?_)) <;> first | (exfalso; omega) | skip) | refine run_block ?_ | refine run_skip ?_ | refine run_regionD (by kernel_rfl) ?_)
      | refine seqQ_normal ?_ | refine blockQ_normal ?_)
    exact loopQ_nextD (k + 1) ⟨by omega, trivial⟩ (by omega) (by first | exact List.Sublist.refl _ | exact sub1 | exact sub2 | exact sub3) ⟨rfl, rfl, rfl, rfl, rfl, (by first | rfl | (rw [sumF_succ (fun x : Into => dot x.bag (wt ws x.cell)) hk]; exact si (by rw [xe]; omega)) | exact si (by omega)), nx _, trivial⟩
  have eo : dot r.here ws[r.cell.toNat] - dot r.need ws[r.cell.toNat] + sumF (fun x : Into => dot x.bag (wt ws x.cell)) (r.into.take k) = ownG r ws := by
    unfold ownG; rw [we, List.take_of_length_le (by omega)]
  repeat' (first
      | (refine j_go ?_; first
        | refine j_op0 rfl rfl rfl rfl ?_)
      | refine j_nil ?_
      | (refine r_go ?_; first | refine run_seq ?_ | refine run_region ?_ | (refine (run_if rfl (fun hb => ?_) (fun hb => ?_)) <;> first | (exfalso; omega) | skip) | refine run_exit ?_)
      | refine seqQ_normal ?_ | refine seqQ_exit ?_ | refine blockQ_eq ?_ | refine loopQ_exit ?_)
  refine j_kCall rfl rfl rfl rfl ?_
  refine jcd 0 0 (c_possPar s r.cell hv hc) rfl (LeL.refl _) rfl rfl (fun v h1 hR => ?_)
  obtain ⟨L', hq, rfl, rfl⟩ := hR
  repeat' (first
      | (refine j_go ?_; first
        | refine j_op0 rfl rfl rfl rfl ?_ | (refine j_kLen rfl ?_; first | refine j_len rfl rfl rfl rfl rfl rfl ?_ | refine j_op rfl rfl rfl rfl ?_) | (refine j_kCall rfl rfl rfl rfl ?_; first | refine jc (c_around _) (LeL.refl _) rfl rfl ?_) | (refine j_kBsl rfl ?_; first | refine j_bs0 rfl rfl rfl rfl rfl rfl ?_ | refine j_bsl rfl rfl rfl rfl rfl rfl rfl rfl rfl rfl rfl ?_))
      | refine j_nil ?_
      | (refine r_go ?_; first | refine run_seq ?_ | refine run_region ?_ | (refine (run_if rfl (fun hb => ?_) (fun hb => ?_)) <;> first | (exfalso; omega) | skip) | refine run_block ?_ | refine run_skip ?_)
      | refine seqQ_normal ?_)
  all_goals
    obtain ⟨P', eP, hP⟩ : ∃ P', (P' = [(s.parents.length : Int)] ∧ r.cell = 0 ∨ P' = L' ∧ ¬ r.cell = 0) ∧ P'.Perm (places s r) := by
      by_cases h0 : r.cell = 0
      · exact ⟨_, .inl ⟨rfl, h0⟩, by rw [places_z h0]⟩
      · exact ⟨_, .inr ⟨rfl, h0⟩, by rw [places_n h0]; exact hq.trans (List.reverse_perm _).symm⟩
    have eZ : r.cell = 0 → P' = [(s.parents.length : Int)] := fun q => (eP.resolve_right (fun x => x.2 q)).1
    have eN : ¬ r.cell = 0 → P' = L' := fun q => (eP.resolve_left (fun x => q x.2)).1
    have pm : ∀ x ∈ P', 0 ≤ x ∧ x ≤ (s.parents.length : Int) := fun x hx => places_mem hf hr x (hP.mem_iff.1 hx)
    have pl : P'.length ≤ 7 := by rw [hP.length_eq]; exact places_len
    refine run_view (view_none 2 0 rfl) ?_
    refine run_loop (fun x : Nat × Option Nat × Nat => [(2, .sl (ws.map (encS encI))), (4, .ip (encRule r)), (7, .int (ownG r ws)), (60, .sl (P'.map encI)), (61, .int P'.length), (11, .os x.2.1 ((P'.map (gainAt r ws)).take x.1).length x.2.2), (62, .int (x.1 : Int))]) (fun x => ⟨x.2.1, 2, x.2.2 * 1, (((P'.map (gainAt r ws)).take x.1).map encI).flatten⟩ :: F) (fun x => x.1 ≤ P'.length) (fun x => P'.length - x.1) (0, none, 0) ⟨rfl, rfl, (by rw [← eo]; rfl), (by first | (rw [eZ (by assumption)]; rfl) | (rw [eN (by assumption)]; rfl)), (by first | (rw [eZ (by assumption)]; rfl) | (rw [eN (by assumption)]; rfl)), rfl, rfl, trivial⟩ rfl (Nat.zero_le _) (fun ⟨j, ob2, cp⟩ jl => ?_)
    dsimp only at jl ⊢
    have tl : ((P'.map (gainAt r ws)).take j).length = j := by rw [List.length_take, List.length_map]; omega
    by_cases hj : j < P'.length
    · have pj := pm _ (List.getElem_mem hj)
      obtain ⟨yc, ye, yl, yw⟩ := wt_ok hw pj
      have yb := dot_bnd n5.1 yw
      repeat' (first
      | (refine j_go ?_; first
        | refine j_op0 rfl rfl rfl rfl ?_ | (refine j_kIdx rfl ?_; first | refine j_idx rfl rfl rfl rfl rfl (by omega) rfl rfl rfl ?_))
      | refine j_nil ?_
      | (refine j_goO ?_; first
        | refine j_op0O rfl rfl rfl rfl ?_ | (refine j_kIdxO rfl ?_; first | refine j_idxzO rfl rfl rfl rfl rfl ⟨by omega, by omega⟩ rfl rfl rfl ?_) | (refine j_kBinO rfl ?_; first | refine j_inO rfl rfl ⟨by omega, by omega⟩ rfl rfl ?_) | (refine j_kCallO rfl rfl rfl rfl ?_; first | refine jcO (c_weigh _ _ n5.1 yw (by omega)) (LeL.refl _) rfl rfl ?_) | (refine j_kBslO rfl ?_; first | refine j_bslO rfl rfl rfl rfl rfl rfl rfl rfl rfl rfl rfl ?_))
      | (refine r_go ?_; first | refine run_seq ?_ | refine run_region ?_ | (refine (run_if rfl (fun hb => ?_) (fun hb => ?_)) <;> first | (exfalso; omega) | skip) | refine run_block ?_ | refine run_skip ?_ | refine run_opn 14 [⟨0, true, false, false⟩, ⟨1, true, false, false⟩, ⟨2, true, false, false⟩, ⟨3, true, false, false⟩, ⟨4, true, false, false⟩, ⟨5, true, false, false⟩, ⟨6, true, false, false⟩, ⟨7, true, false, false⟩, ⟨8, true, false, false⟩, ⟨9, true, false, false⟩, ⟨10, true, false, false⟩, ⟨11, false, true, false⟩, ⟨12, true, false, false⟩] rfl rfl (by kernel_rfl) ?_)
      | refine seqQ_normal ?_)
      refine j_appendO 0 (g := encI) [ownG r ws + dot r.out ws[(P'[j]).toNat]] rfl (fun _ hk => nomatch hk) rfl rfl rfl rfl rfl rfl rfl rfl rfl rfl rfl rfl (fun _ => rfl) (fun _ _ => rfl) ⟨by rw [tl]; simp only [List.length_cons, List.length_nil]; omega, by rw [tl]; simp only [List.length_cons, List.length_nil]; omega⟩ rfl rfl (fun b' cap' => ?_)
      have es : (P'.map (gainAt r ws)).take j ++ [ownG r ws + dot r.out ws[(P'[j]).toNat]] = (P'.map (gainAt r ws)).take (j + 1) := by
        rw [← map_succ hj]; unfold gainAt; rw [ye]
      rw [es]
      repeat' (first
      | (refine j_go ?_; first
        | refine j_op0 rfl rfl rfl rfl ?_ | (refine j_kBin rfl ?_; first | refine j_in rfl rfl ⟨by omega, by omega⟩ rfl rfl ?_))
      | refine j_nil ?_
      | (refine j_goO ?_; first
        | refine j_op0O rfl rfl rfl rfl ?_)
      | refine j_nilO ?_
      | (refine r_go ?_; first | refine run_region ?_)
      | refine seqQ_normal ?_ | refine blockQ_normal ?_)
      exact loopQ_next (j + 1, b', cap') (by dsimp only; omega) (by dsimp only; omega) rfl ⟨rfl, rfl, rfl, rfl, rfl, rfl, nx _, trivial⟩
    · repeat' (first
      | (refine j_go ?_; first
        | refine j_op0 rfl rfl rfl rfl ?_)
      | refine j_nil ?_
      | (refine r_go ?_; first | refine run_seq ?_ | refine run_region ?_ | (refine (run_if rfl (fun hb => ?_) (fun hb => ?_)) <;> first | (exfalso; omega) | skip) | refine run_ret ?_ | refine run_exit ?_)
      | refine seqQ_normal ?_ | refine seqQ_exit ?_ | refine blockQ_eq ?_ | refine loopQ_exit ?_)
      refine endD_view (view_freeze (g := encI) (z := 1) (ys := (P'.map (gainAt r ws)).take j) 0 6 rfl rfl rfl (fun _ => rfl) rfl rfl) ?_
      exact endD_ret (h1 := []) rfl (vs := [_]) (.cons (.tmp rfl) .nil) (Le.refl _) ⟨P', hP, by rw [List.take_of_length_le (by rw [List.length_map]; omega)]; rfl, rfl⟩ (.inl rfl)

def HoldsG (s : System) (ws : List (List Int)) (G : Int → Prop) (Pr : Int → Int → Prop) : Prop := (∀ i (h : i < s.rules.length), ∀ p ∈ places s s.rules[i], G (gainAt s.rules[i] ws p)) ∧ ∀ c : Nat, c < s.parents.length → Melts s c → ∀ p ∈ pars s c, ∀ k (h : k < (wt ws c).length), Pr (wt ws c)[k] ((wt ws p).getD k 0)

theorem c_holdsG (f1 f2 : FuncId) (G : Int → Prop) (Pr : Int → Int → Prop) (hf1 : ∀ n, Gives Tryz.prog f1 [.int n] (.raw (.bool (dec (G n))))) (hf2 : ∀ a b, Gives Tryz.prog f2 [.int a, .int b] (.raw (.bool (dec (Pr a b))))) (s : System) (ws : List (List Int)) (hv : s.Ok) (hw : s.Wts ws) : Gives Tryz.prog 46 [.agg (encSystem s), .sl (ws.map (encS encI)), .fn f1 [], .fn f2 []] (.raw (.bool (dec (HoldsG s ws G Pr)))) := by
  refine fn_of_run tyOk ztOk mix Tryz.func46 rfl (by decide) Tryz.ntmps46 (fun w0 h => ?_)
  have hf := hv.1
  have hl := hf.2.1
  have k8 := hf.1
  have h16 := hv.2.1
  have wlen := hw.2
  repeat' (first
      | (refine j_go ?_; first
        | refine j_op0 rfl rfl rfl rfl ?_ | (refine j_kLen rfl ?_; first | refine j_len rfl rfl rfl rfl rfl rfl ?_) | refine j_box rfl rfl rfl rfl rfl rfl ?_)
      | refine j_nil ?_
      | (refine r_go ?_; first | refine run_seq ?_ | refine run_region ?_ | refine run_block ?_)
      | refine seqQ_normal ?_)
  refine run_loop (fun k : Nat => [(1, .sl (ws.map (encS encI))), (2, .fn f1 []), (3, .fn f2 []), (4, .ip (encSystem s)), (19, .sl (s.rules.map encRule)), (20, .int s.rules.length), (21, .int (k : Int))]) (fun _ => _) (fun k => k ≤ s.rules.length ∧ (∀ i (h : i < s.rules.length), i < k → ∀ p ∈ places s s.rules[i], G (gainAt s.rules[i] ws p))) (fun k => s.rules.length - k) 0 ⟨rfl, rfl, rfl, rfl, rfl, rfl, rfl, trivial⟩ rfl ⟨Nat.zero_le _, by first | (intros; omega) | (simp; done) | rfl | trivial | exact ⟨by simp [sumF], by intros; omega⟩ | exact ⟨by omega, by simp⟩⟩ (fun k ⟨kl, kp⟩ => ?_)
  by_cases hk : k < s.rules.length
  · have hr := (hv.2.2 k hk).1
    repeat' (first
      | (refine j_go ?_; first
        | refine j_op0 rfl rfl rfl rfl ?_ | (refine j_kIdx rfl ?_; first | refine j_idx rfl rfl rfl rfl rfl (by omega) rfl rfl rfl ?_) | (refine j_kLoad rfl ?_; first | refine j_mload 0 rfl rfl rfl rfl rfl rfl rfl ?_) | (refine j_kStore rfl ?_; first | refine j_storeN 0 rfl rfl rfl rfl rfl rfl rfl rfl rfl rfl rfl ?_) | refine j_alloc rfl rfl rfl rfl rfl (fun _ => ?_))
      | refine j_nil ?_
      | (refine r_go ?_; first | refine run_seq ?_ | refine run_region ?_ | (refine (run_if rfl (fun hb => ?_) (fun hb => ?_)) <;> first | (exfalso; omega) | skip) | refine run_block ?_ | refine run_skip ?_)
      | refine seqQ_normal ?_)
    refine j_kCall rfl rfl rfl rfl ?_
    refine jcd 0 0 (c_gains s _ ws hv hr hw) rfl (LeL.refl _) rfl rfl (fun v h1 hR => ?_)
    obtain ⟨P', hq, rfl, rfl⟩ := hR
    have pl : P'.length ≤ 7 := by rw [hq.length_eq]; exact places_len
    repeat' (first
      | (refine j_go ?_; first
        | refine j_op0 rfl rfl rfl rfl ?_ | (refine j_kLen rfl ?_; first | refine j_len rfl rfl rfl rfl rfl rfl ?_))
      | refine j_nil ?_
      | (refine r_go ?_; first | refine run_block ?_)
      | refine seqQ_normal ?_)
    refine run_loop (fun j : Nat => [(1, .sl (ws.map (encS encI))), (2, .fn f1 []), (3, .fn f2 []), (4, .ip (encSystem s)), (19, .sl (s.rules.map encRule)), (20, .int s.rules.length), (21, .int (k : Int)), (28, .sl ((P'.map (gainAt s.rules[k] ws)).map encI)), (29, .int (P'.map (gainAt s.rules[k] ws)).length), (30, .int (j : Int))]) (fun _ => _) (fun j => j ≤ (P'.map (gainAt s.rules[k] ws)).length ∧ (∀ i (h : i < P'.length), i < j → G (gainAt s.rules[k] ws P'[i]))) (fun j => (P'.map (gainAt s.rules[k] ws)).length - j) 0 ⟨rfl, rfl, rfl, rfl, rfl, rfl, rfl, rfl, rfl, rfl, trivial⟩ rfl ⟨Nat.zero_le _, by first | (intros; omega) | (simp; done) | rfl | trivial | exact ⟨by simp [sumF], by intros; omega⟩ | exact ⟨by omega, by simp⟩⟩ (fun j ⟨jl, jp⟩ => ?_)
    have ml : (P'.map (gainAt s.rules[k] ws)).length = P'.length := List.length_map _
    repeat' (first
      | (refine j_go ?_; first
        | refine j_op0 rfl rfl rfl rfl ?_ | (refine j_kIdx rfl ?_; first | refine j_idx rfl rfl rfl rfl rfl (by omega) rfl rfl rfl ?_) | (refine j_kBin rfl ?_; first | refine j_in rfl rfl ⟨by omega, by omega⟩ rfl rfl ?_) | (refine j_kCall rfl rfl rfl rfl ?_; first | refine jc (hf1 _) (LeL.refl _) rfl rfl ?_))
      | refine j_nil ?_
      | (refine r_go ?_; first | refine run_seq ?_ | refine run_region ?_ | (refine (run_if rfl (fun hb => ?_) (fun hb => ?_)) <;> first | (exfalso; omega) | skip) | (refine (run_ifn rfl (fun hb => ?_) (fun hb => ?_)) <;> first | (exfalso; omega) | skip) | refine run_block ?_ | refine run_ret ?_ | refine run_exit ?_ | refine run_skip ?_)
      | refine seqQ_normal ?_ | refine seqQ_ret ?_ | refine seqQ_exit ?_ | refine blockQ_normal ?_ | refine blockQ_ret ?_ | refine blockQ_eq ?_ | refine loopQ_ret ?_ | refine loopQ_exit ?_)
    · rw [List.getElem_map] at hb
      exact end1 rfl (by first | exact List.Sublist.refl _ | exact sub1 | exact sub2 | exact sub3) (rbF (fun q => hb (q.1 k hk _ (hq.mem_iff.1 (List.getElem_mem _))))) (.inl rfl)
    · rw [List.getElem_map] at hb
      exact loopQ_nextD (j + 1) ⟨by omega, all_step jp (fun _ => hb)⟩ (by omega) (by first | exact List.Sublist.refl _ | exact sub1 | exact sub2 | exact sub3) ⟨rfl, rfl, rfl, rfl, rfl, rfl, rfl, rfl, rfl, nx _, trivial⟩
    · exact loopQ_nextD (k + 1) ⟨by omega, all_step kp (fun _ p hp => by obtain ⟨i, hi, rfl⟩ := List.getElem_of_mem (hq.mem_iff.2 hp); exact jp i hi (by omega))⟩ (by omega) (by first | exact List.Sublist.refl _ | exact sub1 | exact sub2 | exact sub3) ⟨rfl, rfl, rfl, rfl, rfl, rfl, nx _, trivial⟩
  repeat' (first
      | (refine j_go ?_; first
        | refine j_op0 rfl rfl rfl rfl ?_ | (refine j_kCall rfl rfl rfl rfl ?_; first | refine jc (c_sizeI _) (LeL.refl _) rfl rfl ?_))
      | refine j_nil ?_
      | (refine r_go ?_; first | refine run_seq ?_ | refine run_region ?_ | (refine (run_if rfl (fun hb => ?_) (fun hb => ?_)) <;> first | (exfalso; omega) | skip) | refine run_block ?_ | refine run_exit ?_)
      | refine seqQ_normal ?_ | refine seqQ_exit ?_ | refine blockQ_eq ?_ | refine loopQ_exit ?_)
  refine run_loop (fun c9 : Nat => [(1, .sl (ws.map (encS encI))), (3, .fn f2 []), (4, .ip (encSystem s)), (42, .int s.parents.length), (43, .int (c9 : Int))]) (fun _ => _) (fun c9 => c9 ≤ s.parents.length ∧ (∀ c : Nat, c < c9 → Melts s c → ∀ p ∈ pars s c, ∀ k (h : k < (wt ws c).length), Pr (wt ws c)[k] ((wt ws p).getD k 0))) (fun c9 => s.parents.length - c9) 0 ⟨rfl, rfl, rfl, rfl, rfl, trivial⟩ rfl ⟨Nat.zero_le _, by first | (intros; omega) | (simp; done) | rfl | trivial | exact ⟨by simp [sumF], by intros; omega⟩ | exact ⟨by omega, by simp⟩⟩ (fun c9 ⟨c9l, c9p⟩ => ?_)
  by_cases hc9 : c9 < s.parents.length
  · obtain ⟨wc, we, wl, ww⟩ := wt_ok hw (c := (c9 : Int)) (by omega)
    simp only [Int.toNat_natCast] at wc we wl ww
    repeat' (first
      | (refine j_go ?_; first
        | refine j_op0 rfl rfl rfl rfl ?_ | (refine j_kBin rfl ?_; first | refine j_in rfl rfl ⟨by omega, by omega⟩ rfl rfl ?_) | (refine j_kCall rfl rfl rfl rfl ?_; first | refine jc (c_canMelt _ _) (LeL.refl _) rfl rfl ?_))
      | refine j_nil ?_
      | (refine r_go ?_; first | refine run_seq ?_ | refine run_region ?_ | (refine (run_if rfl (fun hb => ?_) (fun hb => ?_)) <;> first | (exfalso; omega) | skip) | (refine (run_ifn rfl (fun hb => ?_) (fun hb => ?_)) <;> first | (exfalso; omega) | skip) | refine run_block ?_ | refine run_exit ?_ | refine run_skip ?_)
      | refine seqQ_normal ?_ | refine seqQ_exit ?_ | refine blockQ_eq ?_)
    · exact loopQ_nextD (c9 + 1) ⟨by omega, fun c h1 hm => by
        by_cases hc : c = c9
        · subst hc; exact absurd hm (by assumption)
        · exact c9p c (by omega) hm⟩ (by omega) (by first | exact List.Sublist.refl _ | exact sub1 | exact sub2 | exact sub3) ⟨rfl, rfl, rfl, rfl, nx _, trivial⟩
    have hme : Melts s (c9 : Int) := by assumption
    refine j_kCall rfl rfl rfl rfl ?_
    refine jcd 0 0 (c_possPar s (c9 : Int) hv (by omega)) rfl (LeL.refl _) rfl rfl (fun v h1 hR => ?_)
    obtain ⟨L', hq, rfl, rfl⟩ := hR
    have pm : ∀ x ∈ L', 0 ≤ x ∧ x ≤ (s.parents.length : Int) - 1 := fun x hx => pars_mem hf (by omega) x (hq.mem_iff.1 hx)
    have pl : L'.length ≤ 7 := by rw [hq.length_eq]; exact chainF_len s 7 _
    repeat' (first
      | (refine j_go ?_; first
        | refine j_op0 rfl rfl rfl rfl ?_ | (refine j_kLen rfl ?_; first | refine j_len rfl rfl rfl rfl rfl rfl ?_))
      | refine j_nil ?_
      | (refine r_go ?_; first | refine run_block ?_)
      | refine seqQ_normal ?_)
    refine run_loop (fun p9 : Nat => [(1, .sl (ws.map (encS encI))), (3, .fn f2 []), (4, .ip (encSystem s)), (13, .int (c9 : Int)), (42, .int s.parents.length), (43, .int (c9 : Int)), (52, .sl (L'.map encI)), (53, .int L'.length), (54, .int (p9 : Int))]) (fun _ => _) (fun p9 => p9 ≤ L'.length ∧ (∀ i (h : i < L'.length), i < p9 → ∀ k (h : k < (wt ws c9).length), Pr (wt ws c9)[k] ((wt ws L'[i]).getD k 0))) (fun p9 => L'.length - p9) 0 ⟨rfl, rfl, rfl, rfl, rfl, rfl, rfl, rfl, rfl, trivial⟩ rfl ⟨Nat.zero_le _, by first | (intros; omega) | (simp; done) | rfl | trivial | exact ⟨by simp [sumF], by intros; omega⟩ | exact ⟨by omega, by simp⟩⟩ (fun p9 ⟨p9l, p9p⟩ => ?_)
    by_cases hp9 : p9 < L'.length
    · have pj := pm _ (List.getElem_mem hp9)
      obtain ⟨yc, ye, yl, yw⟩ := wt_ok hw (c := L'[p9]) (by omega)
      repeat' (first
      | (refine j_go ?_; first
        | refine j_op0 rfl rfl rfl rfl ?_ | (refine j_kIdx rfl ?_; first | refine j_idx rfl rfl rfl rfl rfl (by omega) rfl rfl rfl ?_) | (refine j_kLen rfl ?_; first | refine j_len rfl rfl rfl rfl rfl rfl ?_))
      | refine j_nil ?_
      | (refine r_go ?_; first | refine run_seq ?_ | refine run_region ?_ | (refine (run_if rfl (fun hb => ?_) (fun hb => ?_)) <;> first | (exfalso; omega) | skip) | refine run_block ?_ | refine run_skip ?_)
      | refine seqQ_normal ?_)
      refine run_loop (fun k9 : Nat => [(1, .sl (ws.map (encS encI))), (3, .fn f2 []), (4, .ip (encSystem s)), (13, .int (c9 : Int)), (15, .int L'[p9]), (42, .int s.parents.length), (43, .int (c9 : Int)), (52, .sl (L'.map encI)), (53, .int L'.length), (54, .int (p9 : Int)), (61, .sl (ws[c9].map encI)), (62, .int ws[c9].length), (63, .int (k9 : Int))]) (fun _ => _) (fun k9 => k9 ≤ ws[c9].length ∧ (∀ k (h : k < ws[c9].length), k < k9 → Pr ws[c9][k] (ws[(L'[p9]).toNat].getD k 0))) (fun k9 => ws[c9].length - k9) 0 ⟨rfl, rfl, rfl, rfl, rfl, rfl, rfl, rfl, rfl, rfl, rfl, rfl, rfl, trivial⟩ rfl ⟨Nat.zero_le _, by first | (intros; omega) | (simp; done) | rfl | trivial | exact ⟨by simp [sumF], by intros; omega⟩ | exact ⟨by omega, by simp⟩⟩ (fun k9 ⟨k9l, k9p⟩ => ?_)
      by_cases hk9 : k9 < ws[c9].length
      · have ey : ws[(L'[p9]).toNat].getD k9 0 = ws[(L'[p9]).toNat][k9]'(by omega) := getD_get _
        repeat' (first
      | (refine j_go ?_; first
        | refine j_op0 rfl rfl rfl rfl ?_ | (refine j_kIdx rfl ?_; first | refine j_idx rfl rfl rfl rfl rfl (by omega) rfl rfl rfl ?_ | refine j_idxz rfl rfl rfl rfl rfl ⟨by omega, by omega⟩ rfl rfl rfl ?_) | (refine j_kBin rfl ?_; first | refine j_in rfl rfl ⟨by omega, by omega⟩ rfl rfl ?_) | (refine j_kCall rfl rfl rfl rfl ?_; first | refine jc (hf2 _ _) (LeL.refl _) rfl rfl ?_))
      | refine j_nil ?_
      | (refine r_go ?_; first | refine run_seq ?_ | refine run_region ?_ | (refine (run_if rfl (fun hb => ?_) (fun hb => ?_)) <;> first | (exfalso; omega) | skip) | (refine (run_ifn rfl (fun hb => ?_) (fun hb => ?_)) <;> first | (exfalso; omega) | skip) | refine run_block ?_ | refine run_ret ?_ | refine run_skip ?_)
      | refine seqQ_normal ?_ | refine seqQ_ret ?_ | refine blockQ_normal ?_ | refine blockQ_ret ?_ | refine loopQ_ret ?_)
        · exact end1 rfl (by first | exact List.Sublist.refl _ | exact sub1 | exact sub2 | exact sub3) (rbF (fun q => hb (by
            have := q.2 c9 hc9 hme _ (hq.mem_iff.1 (List.getElem_mem hp9)) k9 (by rw [we]; exact hk9)
            simp only [we, ye, ey] at this; exact this))) (.inl rfl)
        · exact loopQ_nextD (k9 + 1) ⟨by omega, all_step k9p (fun _ => by rw [ey]; exact hb)⟩ (by omega) (by first | exact List.Sublist.refl _ | exact sub1 | exact sub2 | exact sub3) ⟨rfl, rfl, rfl, rfl, rfl, rfl, rfl, rfl, rfl, rfl, rfl, rfl, nx _, trivial⟩
      · repeat' (first
      | (refine j_go ?_; first
        | refine j_op0 rfl rfl rfl rfl ?_ | (refine j_kBin rfl ?_; first | refine j_in rfl rfl ⟨by omega, by omega⟩ rfl rfl ?_))
      | refine j_nil ?_
      | (refine r_go ?_; first | refine run_seq ?_ | refine run_region ?_ | (refine (run_if rfl (fun hb => ?_) (fun hb => ?_)) <;> first | (exfalso; omega) | skip) | refine run_exit ?_)
      | refine seqQ_normal ?_ | refine seqQ_exit ?_ | refine blockQ_normal ?_ | refine blockQ_eq ?_ | refine loopQ_exit ?_)
        exact loopQ_nextD (p9 + 1) ⟨by omega, all_step p9p (fun _ k h => by simp only [we, ye]; exact k9p k (by rw [we] at h; exact h) (by rw [we] at h; omega))⟩ (by omega) (by first | exact List.Sublist.refl _ | exact sub1 | exact sub2 | exact sub3) ⟨rfl, rfl, rfl, rfl, rfl, rfl, rfl, rfl, nx _, trivial⟩
    · repeat' (first
      | (refine j_go ?_; first
        | refine j_op0 rfl rfl rfl rfl ?_ | (refine j_kBin rfl ?_; first | refine j_in rfl rfl ⟨by omega, by omega⟩ rfl rfl ?_))
      | refine j_nil ?_
      | (refine r_go ?_; first | refine run_seq ?_ | refine run_region ?_ | (refine (run_if rfl (fun hb => ?_) (fun hb => ?_)) <;> first | (exfalso; omega) | skip) | refine run_exit ?_)
      | refine seqQ_normal ?_ | refine seqQ_exit ?_ | refine blockQ_normal ?_ | refine blockQ_eq ?_ | refine loopQ_exit ?_)
      exact loopQ_nextD (c9 + 1) ⟨by omega, fun c h1 hm => by
        by_cases hc : c = c9
        · subst hc
          exact fun p hp => by obtain ⟨i, hi, rfl⟩ := List.getElem_of_mem (hq.mem_iff.2 hp); exact p9p i hi (by omega)
        · exact c9p c (by omega) hm⟩ (by omega) (by first | exact List.Sublist.refl _ | exact sub1 | exact sub2 | exact sub3) ⟨rfl, rfl, rfl, rfl, nx _, trivial⟩
  · repeat' (first
      | (refine j_go ?_; first
        | refine j_op0 rfl rfl rfl rfl ?_)
      | refine j_nil ?_
      | (refine r_go ?_; first | refine run_seq ?_ | refine run_region ?_ | (refine (run_if rfl (fun hb => ?_) (fun hb => ?_)) <;> first | (exfalso; omega) | skip) | refine run_ret ?_ | refine run_exit ?_)
      | refine seqQ_normal ?_ | refine seqQ_exit ?_ | refine blockQ_eq ?_ | refine loopQ_exit ?_)
    exact end1 rfl (by first | exact List.Sublist.refl _ | exact sub1 | exact sub2 | exact sub3) (rbT (⟨fun i h => kp i h (by omega), fun c h1 => c9p c (by omega)⟩)) (.inl rfl)

end Go.Proofs.YtbcplkmkdggpjaaGreat

/-
  Choices: IsChoice, IsMaximal of the reference and of the program. No condition.
-/
namespace Go.Proofs.YtbcplkmkdggpjaaGreat
open Go.AI
set_option maxRecDepth 8000
set_option maxHeartbeats 1600000





end Go.Proofs.YtbcplkmkdggpjaaGreat
