/-
  A step of a passing system: the reference's side. No condition.
-/
import Derived.Test.YtbpmmdecaonopaaGreatZPS6
import Derived.Test.YtbpmmdecaonopaaGreatZS5f
import Derived.Test.YtbpmmdecaonopaaGreatZJN
namespace Go.Proofs.YtbpmmdecaonopaaGreat
open Go.AI
set_option maxRecDepth 8000
set_option maxHeartbeats 1600000

theorem o_l06Give (p : Passing) (hv : p.Ok) (r : PassRule) (hr : r ∈ p.rules) (L : List (List Int)) (hL : Sh (p.parents.length + 1) p.kinds.toNat L 1000000000) (t : Int) (ht : 0 ≤ t ∧ t ≤ 1000) (b : Option Nat) (cap : Nat) :
    Does Tryz.prog 86 [.ip (encPassing p), .os b L.flatten.length cap, .ip (encPassRule r), .int t] [⟨b, 2, cap * 1, (L.flatten.map Go.AI.encI).flatten⟩]
      (fun _ h' => h' = [⟨b, 2, cap * 1, ((p.gv r t L).flatten.map Go.AI.encI).flatten⟩]) := by
  refine fn_of_runD tyOk ztOk mix Tryz.func86 rfl (by decide) Tryz.ntmps86 (fun w0 F => ?_)
  change Run _ _ _ _ _ (_ :: F)
  have R := ruF hv hr
  obtain ⟨K, own, up, f⟩ := flF hv hr hL
  have hK := f.k
  have k8 := f.k8
  have ol := f.ol
  have ul := f.ul
  have lb := f.b
  have oi := f.oi
  have rc := R.c0
  have hfr := hv.1.2.2.2.1
  have oK : r.out.length = K := by rw [R.o.1, f.kt]
  have iK : r.in_.length = K := by rw [R.i.1, f.kt]
  have fb := flat_bnd hL
  have hne : (L.flatten.map Go.AI.encI).flatten ≠ [] := fun q => by
    have h3 : ((L.flatten.map Go.AI.encI).flatten).length = 0 := by rw [q]; rfl
    rw [flat_len (f := Go.AI.encI) (z := 1) (fun _ => rfl)] at h3
    omega
  refine run_some 0 rfl hne (fun b2 hb2 => ?_)
  subst hb2
  have eAt := c_l06At p r.cell hv.1 ⟨rc, R.c⟩
  rw [f.kt, f.u] at eAt
  repeat' (first
      | (refine j_go ?_; first
        | refine j_op0 rfl rfl rfl rfl ?_ | (refine j_kBin rfl ?_; first | refine j_in rfl rfl ⟨by omega, by omega⟩ rfl rfl ?_) | (refine j_kCall rfl rfl rfl rfl ?_; first | refine jc (eAt) (LeL.refl _) rfl rfl ?_))
      | refine j_nil ?_
      | (refine r_go ?_; first | refine run_seq ?_ | refine run_region ?_ | refine run_block ?_ | refine run_regionD (by kernel_rfl) ?_)
      | refine seqQ_normal ?_)
  refine run_loop (fun k : Nat => [(0, .ip (encPassing p)), (1, .os (some b2) L.flatten.length cap), (2, .ip (encPassRule r)), (3, .int t), (8, .int (own : Int)), (9, .int (up : Int)), (10, .int (k : Int))])
    (fun k => ⟨some b2, 2, cap * 1, ((mixF own up (p.gk r.cell) r.in_ r.out t L.flatten k).map Go.AI.encI).flatten⟩ :: F) (fun k => k ≤ K) (fun k => K - k) 0 ⟨rfl, rfl, rfl, rfl, si oi, rfl, rfl, trivial⟩ (by simp only [mixF_zero]) (Nat.zero_le _) (fun k kl => ?_)
  have ml : (mixF own up (p.gk r.cell) r.in_ r.out t L.flatten k).length = L.flatten.length := mixF_len
  have hl : (mixH own up (p.gk r.cell) r.in_ r.out t L.flatten k).length = L.flatten.length := mixH_len
  have nl : (mixF own up (p.gk r.cell) r.in_ r.out t L.flatten (k + 1)).length = L.flatten.length := mixF_len
  by_cases hk : k < K
  · have mo := mul_b (R.o.2 _ (List.getElem_mem (n := k) (by omega))) (t := t) (by omega)
    have mi := mul_b (R.i.2 _ (List.getElem_mem (n := k) (by omega))) (t := t) (by omega)
    have vo : (mixF own up (p.gk r.cell) r.in_ r.out t L.flatten k)[own + k]'(by omega) = L.flatten[own + k]'(by omega) := mixF_own hk f.d _
    have vu : (mixH own up (p.gk r.cell) r.in_ r.out t L.flatten k)[up + k]'(by omega) = L.flatten[up + k]'(by omega) := mixH_up hk f.d _
    have bo := fb _ (List.getElem_mem (n := own + k) (by omega))
    have bu := fb _ (List.getElem_mem (n := up + k) (by omega))
    have kf : k < p.free.length := by omega
    have st1 : (mixF own up (p.gk r.cell) r.in_ r.out t L.flatten k).set (own + k) ((mixF own up (p.gk r.cell) r.in_ r.out t L.flatten k)[own + k]'(by omega) + r.in_[k]'(by omega) * t) = mixH own up (p.gk r.cell) r.in_ r.out t L.flatten k := by
      rw [vo]; unfold mixH; rw [getD_get (by omega), getD_get (by omega)]
    have st2 : p.gk r.cell k = true → (mixH own up (p.gk r.cell) r.in_ r.out t L.flatten k).set (up + k) ((mixH own up (p.gk r.cell) r.in_ r.out t L.flatten k)[up + k]'(by omega) + r.out[k]'(by omega) * t) = mixF own up (p.gk r.cell) r.in_ r.out t L.flatten (k + 1) := fun hg => by
      rw [vu, ← mixF_t hk f.d (by omega) (by omega) hg, getD_get (l := r.out) (by omega)]
    have m0 : p.gk r.cell k = false → mixH own up (p.gk r.cell) r.in_ r.out t L.flatten k = mixF own up (p.gk r.cell) r.in_ r.out t L.flatten (k + 1) := fun hg => mixF_f hk f.d (by omega) hg
    repeat' (first
      | (refine j_go ?_; first
        | refine j_op0 rfl rfl rfl rfl ?_)
      | refine j_nil ?_
      | (refine j_goO ?_; first
        | refine j_op0O rfl rfl rfl rfl ?_ | (refine j_kIdxO rfl ?_; first | refine j_midxO rfl rfl rfl rfl rfl (by first | omega | (simp only [List.length_append, List.length_cons, List.length_nil]; omega)) rfl rfl ?_) | (refine j_kBinO rfl ?_; first | refine j_inO rfl rfl ⟨by omega, by omega⟩ rfl rfl ?_))
      | (refine r_go ?_; first | refine run_seq ?_ | refine run_region ?_ | (refine (run_if rfl (fun hb => ?_) (fun hb => ?_)) <;> first | (exfalso; omega) | skip) | refine run_block ?_ | refine run_skip ?_ | refine run_opn 5 [⟨0, true, false, 0⟩, ⟨1, true, false, 0⟩, ⟨2, true, false, 0⟩, ⟨3, true, false, 0⟩, ⟨4, true, false, 0⟩, ⟨5, true, false, 0⟩, ⟨6, true, false, 0⟩, ⟨7, true, false, 0⟩, ⟨8, true, false, 0⟩, ⟨9, true, false, 0⟩, ⟨10, true, false, 0⟩, ⟨11, true, false, 0⟩, ⟨12, true, false, 0⟩, ⟨13, true, false, 0⟩, ⟨14, true, false, 0⟩, ⟨15, true, false, 0⟩, ⟨16, true, false, 0⟩, ⟨17, false, true, 0⟩] rfl rfl (by kernel_rfl) ?_)
      | refine seqQ_normal ?_)
    refine j_mloadEO 0 (own + k) (g := Go.AI.encI) (L := mixF own up (p.gk r.cell) r.in_ r.out t L.flatten k) (z := 1) rfl rfl rfl rfl rfl (fun _ => rfl) rfl (by omega) (fun _ => rfl) rfl rfl ?_
    repeat' (first
      | (refine j_goO ?_; first
        | refine j_op0O rfl rfl rfl rfl ?_ | (refine j_kIdxO rfl ?_; first | refine j_idxO rfl rfl rfl rfl rfl (by omega) rfl rfl rfl ?_ | refine j_midxO rfl rfl rfl rfl rfl (by first | omega | (simp only [List.length_append, List.length_cons, List.length_nil]; omega)) rfl rfl ?_) | (refine j_kBinO rfl ?_; first | refine j_inO rfl rfl ⟨by omega, by omega⟩ rfl rfl ?_)))
    refine j_storeEO 0 (own + k) (g := Go.AI.encI) ((mixF own up (p.gk r.cell) r.in_ r.out t L.flatten k)[own + k]'(by omega) + r.in_[k]'(by omega) * t) rfl rfl rfl rfl rfl rfl rfl rfl rfl rfl (fun _ => rfl) rfl (by omega) (fun _ hk => nomatch hk) ?_
    rw [st1]
    repeat' (first
      | (refine j_go ?_; first
        | refine j_op0 rfl rfl rfl rfl ?_ | refine j_off rfl rfl rfl ?_ | (refine j_kIdx rfl ?_; first | refine j_idx rfl rfl rfl rfl rfl (by omega) rfl rfl rfl ?_) | (refine j_kBin rfl ?_; first | refine j_in rfl rfl ⟨by omega, by omega⟩ rfl rfl ?_) | (refine j_kGuard rfl ?_; first | (refine (j_if rfl rfl rfl (fun hb => ?_) (fun hb => ?_)) <;> first | (exfalso; omega) | skip)))
      | refine j_nil ?_
      | (refine j_goO ?_; first
        | refine j_op0O rfl rfl rfl rfl ?_ | (refine j_kIdxO rfl ?_; first | refine j_midxO rfl rfl rfl rfl rfl (by first | omega | (simp only [List.length_append, List.length_cons, List.length_nil]; omega)) rfl rfl ?_) | (refine j_kBinO rfl ?_; first | refine j_inO rfl rfl ⟨by omega, by omega⟩ rfl rfl ?_))
      | refine j_nilO ?_
      | (refine r_go ?_; first | refine run_seq ?_ | refine run_region ?_ | refine run_cond_t rfl ?_ | refine run_skip ?_ | refine run_opn 7 [⟨0, true, false, 0⟩, ⟨1, true, false, 0⟩, ⟨2, true, false, 0⟩, ⟨3, true, false, 0⟩, ⟨4, true, false, 0⟩, ⟨5, true, false, 0⟩, ⟨6, true, false, 0⟩, ⟨7, true, false, 0⟩, ⟨8, true, false, 0⟩, ⟨9, true, false, 0⟩, ⟨10, true, false, 0⟩, ⟨11, true, false, 0⟩, ⟨12, true, false, 0⟩, ⟨13, true, false, 0⟩, ⟨14, true, false, 0⟩, ⟨15, true, false, 0⟩, ⟨16, true, false, 0⟩, ⟨17, false, true, 0⟩] rfl rfl (by kernel_rfl) ?_ | refine run_condn rfl (fun hb => ?_) (fun hb => ?_))
      | refine seqQ_normal ?_ | refine blockQ_normal ?_)
    all_goals first
      | (have hg : p.gk r.cell k = true := by first | exact gk_pos (by assumption) k | (rw [gk_zero (by omega) kf]; simp only [hb, Bool.not_false])
         refine j_mloadEO 0 (up + k) (g := Go.AI.encI) (L := mixH own up (p.gk r.cell) r.in_ r.out t L.flatten k) (z := 1) rfl rfl rfl rfl rfl (fun _ => rfl) rfl (by omega) (fun _ => rfl) rfl rfl ?_
         repeat' (first
      | (refine j_goO ?_; first
        | refine j_op0O rfl rfl rfl rfl ?_ | (refine j_kIdxO rfl ?_; first | refine j_idxO rfl rfl rfl rfl rfl (by omega) rfl rfl rfl ?_ | refine j_midxO rfl rfl rfl rfl rfl (by first | omega | (simp only [List.length_append, List.length_cons, List.length_nil]; omega)) rfl rfl ?_) | (refine j_kBinO rfl ?_; first | refine j_inO rfl rfl ⟨by omega, by omega⟩ rfl rfl ?_)))
         refine j_storeEO 0 (up + k) (g := Go.AI.encI) ((mixH own up (p.gk r.cell) r.in_ r.out t L.flatten k)[up + k]'(by omega) + r.out[k]'(by omega) * t) rfl rfl rfl rfl rfl rfl rfl rfl rfl rfl (fun _ => rfl) rfl (by omega) (fun _ hk => nomatch hk) ?_
         rw [st2 hg]
         repeat' (first
      | (refine j_go ?_; first
        | refine j_op0 rfl rfl rfl rfl ?_ | (refine j_kBin rfl ?_; first | refine j_in rfl rfl ⟨by omega, by omega⟩ rfl rfl ?_))
      | refine j_nil ?_
      | refine j_nilO ?_
      | (refine r_go ?_; first | refine run_region ?_)
      | refine seqQ_normal ?_ | refine blockQ_normal ?_)
         exact loopQ_next (k + 1) (by omega) (by omega) rfl ⟨rfl, rfl, rfl, rfl, rfl, rfl, nx _, trivial⟩)
      | (have hg : p.gk r.cell k = false := by rw [gk_zero (by omega) kf]; simp only [hb, Bool.not_true]
         rw [m0 hg]
         exact loopQ_next (k + 1) (by omega) (by omega) rfl ⟨rfl, rfl, rfl, rfl, rfl, rfl, nx _, trivial⟩)
      | trace_state
  · repeat' (first
      | (refine j_go ?_; first
        | refine j_op0 rfl rfl rfl rfl ?_)
      | refine j_nil ?_
      | (refine r_go ?_; first | refine run_seq ?_ | refine run_region ?_ | (refine (run_if rfl (fun hb => ?_) (fun hb => ?_)) <;> first | (exfalso; omega) | skip) | refine run_exit ?_)
      | refine seqQ_normal ?_ | refine seqQ_exit ?_ | refine blockQ_eq ?_ | refine loopQ_exit ?_)
    have hke : k = K := by omega
    subst hke
    rw [gv_flat f R hL t ⟨ht.1, by omega⟩]
    exact endD_ret (h1 := [_]) rfl .nil (Le.refl _) rfl (.inr rfl)

theorem flat_take_succ {L : List (List Int)} {k : Nat} (hk : k < L.length) : (L.take (k + 1)).flatten = (L.take k).flatten ++ L[k] := by
  rw [List.take_succ_eq_append_getElem hk, List.flatten_append]; simp
theorem flat_take_le {L : List (List Int)} {K : Nat} (h : ∀ x ∈ L, x.length ≤ K) : ∀ k, (L.take k).flatten.length ≤ k * K
  | 0 => by simp
  | k + 1 => by
    by_cases hk : k < L.length
    · rw [flat_take_succ hk, List.length_append]
      have := flat_take_le h k
      have := h _ (List.getElem_mem hk)
      rw [Nat.add_mul]; omega
    · rw [List.take_of_length_le (by omega)]
      have := flat_take_le h k
      rw [List.take_of_length_le (by omega)] at this
      rw [Nat.add_mul]; omega
theorem o_l06Flat (p : Passing) (s : Stock) (hv : p.Ok) (hs : p.StockOk s) : Does Tryz.prog 84 [.ip (encPassing p), .ip (encStock s)] [] (OwnL (plc s).flatten) := by
  refine fn_of_runD tyOk ztOk mix Tryz.func84 rfl (by decide) Tryz.ntmps84 (fun w0 F => ?_)
  change Run _ _ _ _ _ F
  have p4 := hv.1.2.1
  have hc := hs.1
  have al := hs.2.1.1.2.2
  have cl : ∀ x ∈ s.cells, x.length ≤ 8 := fun x hx => (hs.2.2.1 x hx).1.2.2
  repeat' (first
      | (refine j_go ?_; first
        | refine j_op0 rfl rfl rfl rfl ?_ | (refine j_kBsl rfl ?_; first | refine j_bs0 rfl rfl rfl rfl rfl rfl ?_))
      | refine j_nil ?_
      | (refine r_go ?_; first | refine run_seq ?_ | refine run_region ?_ | refine run_block ?_)
      | refine seqQ_normal ?_)
  refine run_view (view_none 2 0 rfl) ?_
  refine run_loop (fun x : Nat × Option Nat × Nat => [(1, .ip (encStock s)), (5, .os x.2.1 (s.cells.take x.1).flatten.length x.2.2), (6, .int (x.1 : Int))]) (fun x => ⟨x.2.1, 2, x.2.2 * 1, (((s.cells.take x.1).flatten).map Go.AI.encI).flatten⟩ :: F) (fun x => x.1 ≤ s.cells.length) (fun x => s.cells.length - x.1) (0, none, 0) ⟨rfl, rfl, rfl, trivial⟩ rfl (Nat.zero_le _) (fun ⟨k, ob, cp⟩ kl => ?_)
  dsimp only at kl ⊢
  have tl := flat_take_le cl k
  by_cases hk : k < s.cells.length
  · have ck := cl _ (List.getElem_mem hk)
    repeat' (first
      | (refine j_go ?_; first
        | refine j_op0 rfl rfl rfl rfl ?_ | (refine j_kIdx rfl ?_; first | refine j_idx rfl rfl rfl rfl rfl (by omega) rfl rfl rfl ?_) | (refine j_kLen rfl ?_; first | refine j_len rfl rfl rfl rfl rfl rfl ?_))
      | refine j_nil ?_
      | (refine r_go ?_; first | refine run_seq ?_ | refine run_region ?_ | (refine (run_if rfl (fun hb => ?_) (fun hb => ?_)) <;> first | (exfalso; omega) | skip) | refine run_block ?_ | refine run_skip ?_)
      | refine seqQ_normal ?_)
    refine j_append 0 (g := Go.AI.encI) (ys := (s.cells.take k).flatten) s.cells[k] rfl rfl rfl rfl rfl rfl rfl rfl rfl rfl rfl rfl (fun _ => rfl) (fun _ _ => rfl) ⟨by omega, by omega⟩ rfl rfl (fun b' cap' => ?_)
    rw [← flat_take_succ hk]
    repeat' (first
      | (refine j_go ?_; first
        | refine j_op0 rfl rfl rfl rfl ?_ | (refine j_kBin rfl ?_; first | refine j_in rfl rfl ⟨by omega, by omega⟩ rfl rfl ?_))
      | refine j_nil ?_
      | (refine r_go ?_; first | refine run_region ?_)
      | refine seqQ_normal ?_ | refine blockQ_normal ?_)
    exact loopQ_next (k + 1, b', cap') (by dsimp only; omega) (by dsimp only; omega) rfl ⟨rfl, rfl, nx _, trivial⟩
  · have hke : k = s.cells.length := by omega
    subst hke
    rw [List.take_length] at tl ⊢
    repeat' (first
      | (refine j_go ?_; first
        | refine j_op0 rfl rfl rfl rfl ?_ | (refine j_kLen rfl ?_; first | refine j_len rfl rfl rfl rfl rfl rfl ?_))
      | refine j_nil ?_
      | (refine r_go ?_; first | refine run_seq ?_ | refine run_region ?_ | (refine (run_if rfl (fun hb => ?_) (fun hb => ?_)) <;> first | (exfalso; omega) | skip) | refine run_exit ?_)
      | refine seqQ_normal ?_ | refine seqQ_exit ?_ | refine blockQ_eq ?_ | refine loopQ_exit ?_)
    refine j_append 0 (g := Go.AI.encI) (ys := s.cells.flatten) s.around rfl rfl rfl rfl rfl rfl rfl rfl rfl rfl rfl rfl (fun _ => rfl) (fun _ _ => rfl) ⟨by omega, by omega⟩ rfl rfl (fun b' cap' => ?_)
    rw [show s.cells.flatten ++ s.around = (plc s).flatten from by simp [plc]]
    repeat' (first
      | (refine j_go ?_; first
        | refine j_op0 rfl rfl rfl rfl ?_)
      | refine j_nil ?_
      | (refine r_go ?_; first | refine run_ret ?_)
      | refine seqQ_normal ?_)
    exact endD_ret (h1 := [_]) rfl (.cons (.tmp rfl) .nil) (Le.refl _) ⟨b', cap', rfl, rfl⟩ (.inl rfl)

theorem tks_sh' {p : Passing} (hv : p.Ok) {cs : List Int} (hc : p.Cntw cs) {s : Stock} (hs : p.StockOk s) {k : Nat} (hk : k ≤ p.rules.length) : Sh (p.parents.length + 1) p.kinds.toNat (p.tks cs (plc s) k) 1000000000 := by
  have h8 := hv.1.2.2.2.2.1
  exact (tks_sh hv hc (plc_sh hs) k hk).mono (by omega)
theorem chs_sh' {p : Passing} (hv : p.Ok) {cs : List Int} (hc : p.Cnts cs) {s : Stock} (hs : p.StockOk s) {k : Nat} (hk : k ≤ p.rules.length) : Sh (p.parents.length + 1) p.kinds.toNat (p.chs cs (plc s) k) 1000000000 := by
  have h8 := hv.1.2.2.2.2.1
  exact (chs_sh hv hc (plc_sh hs) k hk).mono (by omega)
theorem o_l06Left (p : Passing) (s : Stock) (cs : List Int) (hv : p.Ok) (hs : p.StockOk s) (hc : p.Cnts cs) : Does Tryz.prog 85 [.ip (encPassing p), .ip (encStock s), .sl (cs.map Go.AI.encI)] []
    (fun v h' => ∃ b cap j, j ≤ p.rules.length ∧ (Nn (p.left s cs) → j = p.rules.length) ∧ v = .tup [.os b (p.tks cs (plc s) j).flatten.length cap, .raw (.bool (dec (Nn (p.left s cs))))] ∧ h' = [⟨b, 2, cap * 1, ((p.tks cs (plc s) j).flatten.map Go.AI.encI).flatten⟩]) := by
  refine fn_of_runD tyOk ztOk mix Tryz.func85 rfl (by decide) Tryz.ntmps85 (fun w0 F => ?_)
  change Run _ _ _ _ _ F
  have h8 := hv.1.2.2.2.2.1
  have hcn := hc.2
  repeat' (first
      | (refine j_go ?_; first
        | refine j_op0 rfl rfl rfl rfl ?_)
      | refine j_nil ?_
      | (refine r_go ?_; first | refine run_seq ?_ | refine run_region ?_)
      | refine seqQ_normal ?_)
  refine j_kCall rfl rfl rfl rfl ?_
  refine jcp _ (o_l06Flat p s hv hs) (List.Perm.refl _) (LeL.refl _) rfl rfl (fun v h1 hR => ?_)
  obtain ⟨ob, cp, rfl, rfl⟩ := hR
  repeat' (first
      | (refine j_go ?_; first
        | refine j_op0 rfl rfl rfl rfl ?_)
      | refine j_nil ?_
      | (refine r_go ?_; first | refine run_seq ?_ | refine run_region ?_ | refine run_block ?_)
      | refine seqQ_normal ?_)
  refine run_loop (fun k : Nat => [(0, .ip (encPassing p)), (2, .sl (cs.map Go.AI.encI)), (8, .os ob (p.tks cs (plc s) k).flatten.length cp), (9, .raw (.bool (dec (Nn (p.tks cs (plc s) k))))), (10, .int (k : Int))])
    (fun k => ⟨ob, 2, cp * 1, ((p.tks cs (plc s) k).flatten.map Go.AI.encI).flatten⟩ :: F) (fun k => k ≤ cs.length) (fun k => cs.length - k) 0 ⟨rfl, rfl, rfl, raw_t (plc_nn hs), rfl, trivial⟩ rfl (Nat.zero_le _) (fun k kl => ?_)
  have sh := tks_sh' hv hc.w hs (k := k) (by omega)
  by_cases hN : Nn (p.tks cs (plc s) k)
  · by_cases hk : k < cs.length
    · have hkr : k < p.rules.length := by omega
      have hck := hc.1 _ (List.getElem_mem hk)
      have sh2 := tks_sh' hv hc.w hs (k := k + 1) (by omega)
      have e := tks_succ (p := p) (cs := cs) (L := plc s) hkr hk
      rw [dec_t hN]
      repeat' (first
      | (refine j_go ?_; first
        | refine j_op0 rfl rfl rfl rfl ?_ | (refine j_kLen rfl ?_; first | refine j_len rfl rfl rfl rfl rfl rfl ?_) | (refine j_kGuard rfl ?_; first | (refine (j_if rfl rfl rfl (fun hb => ?_) (fun hb => ?_)) <;> first | (exfalso; omega) | skip)))
      | refine j_nil ?_
      | (refine j_goO ?_; first
        | refine j_op0O rfl rfl rfl rfl ?_ | (refine j_kIdxO rfl ?_; first | refine j_idxO rfl rfl rfl rfl rfl (by omega) rfl rfl rfl ?_))
      | (refine r_go ?_; first | refine run_seq ?_ | refine run_region ?_ | refine run_cond_t rfl ?_ | refine run_block ?_ | refine run_skip ?_ | refine run_opn 6 [⟨0, true, false, 0⟩, ⟨1, true, false, 0⟩, ⟨2, true, false, 0⟩, ⟨3, true, false, 0⟩, ⟨4, true, false, 0⟩, ⟨5, true, false, 0⟩, ⟨6, true, false, 0⟩, ⟨7, true, false, 0⟩, ⟨8, true, false, 0⟩, ⟨9, true, false, 0⟩, ⟨10, true, false, 0⟩, ⟨11, true, false, 0⟩, ⟨12, false, true, 0⟩, ⟨13, true, false, 0⟩] rfl rfl (by kernel_rfl) ?_)
      | refine seqQ_normal ?_)
      refine j_kCallO rfl rfl rfl rfl ?_
      refine jcpO _ (o_l06Take p hv p.rules[k] (List.getElem_mem hkr) _ sh hN cs[k] hck ob cp) rfl (List.Perm.refl _) (LeL.refl _) rfl rfl (fun v h1 hR => ?_)
      obtain ⟨rfl, rfl⟩ := hR
      rw [← e]
      repeat' (first
      | (refine j_go ?_; first
        | refine j_op0 rfl rfl rfl rfl ?_ | (refine j_kBin rfl ?_; first | refine j_in rfl rfl ⟨by omega, by omega⟩ rfl rfl ?_))
      | refine j_nil ?_
      | (refine j_goO ?_; first
        | refine j_op0O rfl rfl rfl rfl ?_)
      | refine j_nilO ?_
      | (refine r_go ?_; first | refine run_region ?_)
      | refine seqQ_normal ?_ | refine blockQ_normal ?_)
      exact loopQ_next (k + 1) (by omega) (by omega) rfl ⟨rfl, rfl, (by rw [flat_length sh2, ← flat_length sh]; rfl), rfl, nx _, trivial⟩
    · have hke : k = p.rules.length := by omega
      subst hke
      repeat' (first
      | (refine j_go ?_; first
        | refine j_op0 rfl rfl rfl rfl ?_ | refine j_off rfl rfl rfl ?_ | (refine j_kLen rfl ?_; first | refine j_len rfl rfl rfl rfl rfl rfl ?_) | (refine j_kGuard rfl ?_; first | (refine (j_if rfl rfl rfl (fun hb => ?_) (fun hb => ?_)) <;> first | (exfalso; omega) | skip)))
      | refine j_nil ?_
      | (refine r_go ?_; first | refine run_seq ?_ | refine run_region ?_ | refine run_cond_f rfl ?_ | refine run_ret ?_ | refine run_exit ?_)
      | refine seqQ_normal ?_ | refine seqQ_exit ?_ | refine blockQ_eq ?_ | refine loopQ_exit ?_)
      exact endD_ret (h1 := [_]) rfl (vs := [_, _]) (.cons (.tmp rfl) (.cons (.tmp rfl) .nil)) (Le.refl _) ⟨ob, cp, _, Nat.le_refl _, fun _ => rfl, rfl, rfl⟩ (.inl rfl)
  · rw [dec_f hN]
    have hn : ¬ Nn (p.left s cs) := fun q => hN (tks_le hv hc.w hs (by omega) (Nat.le_refl _) q)
    repeat' (first
      | (refine j_go ?_; first
        | refine j_op0 rfl rfl rfl rfl ?_ | refine j_off rfl rfl rfl ?_ | (refine j_kLen rfl ?_; first | refine j_len rfl rfl rfl rfl rfl rfl ?_) | (refine j_kGuard rfl ?_; first | (refine (j_if rfl rfl rfl (fun hb => ?_) (fun hb => ?_)) <;> first | (exfalso; omega) | skip)))
      | refine j_nil ?_
      | (refine r_go ?_; first | refine run_seq ?_ | refine run_region ?_ | refine run_cond_f rfl ?_ | refine run_ret ?_ | refine run_exit ?_)
      | refine seqQ_normal ?_ | refine seqQ_exit ?_ | refine blockQ_eq ?_ | refine loopQ_exit ?_)
    all_goals exact endD_ret (h1 := [_]) rfl (vs := [_, _]) (.cons (.tmp rfl) (.cons (.tmp rfl) .nil)) (Le.refl _) ⟨ob, cp, k, by omega, fun q => absurd q hn, by rw [dec_f hn]; rfl, rfl⟩ (.inl rfl)

end Go.Proofs.YtbpmmdecaonopaaGreat

/-
  Passing systems: the counts that fit, one after the other; plain facts. No condition.
-/
namespace Go.Proofs.YtbpmmdecaonopaaGreat
open Go.AI
set_option maxRecDepth 8000
set_option maxHeartbeats 1600000

theorem Sh.ext {n K : Nat} {L L' : List (List Int)} {B B' : Int} (h : Sh n K L B) (h' : Sh n K L' B') (e : ∀ i k, i < n → k < K → val L i k = val L' i k) : L = L' := by
  apply List.ext_getElem (by rw [h.n, h'.n])
  intro i h1 h2
  have hi : i < n := by have := h.n; omega
  obtain ⟨_, r1⟩ := h.row hi
  obtain ⟨_, r2⟩ := h'.row hi
  apply List.ext_getElem (by rw [r1, r2])
  intro k q1 q2
  have := e i k hi (by omega)
  rw [val_eq h1 q1, val_eq h2 q2] at this; exact this
theorem tk_val {p : Passing} {r : PassRule} (R : RuF p r) {L : List (List Int)} {B : Int} (h : Sh (p.parents.length + 1) p.kinds.toNat L B) {t : Int} (ht : 0 ≤ t ∧ t ≤ 2000) {i k : Nat} (hi : i < p.parents.length + 1) (hk : k < p.kinds.toNat) :
    val (p.tk r t L) i k = val L i k + (if i = r.cell.toNat then r.out.getD k 0 * (0 - t) else 0) + (if i = p.up r.cell ∧ p.gk r.cell k = true then r.in_.getD k 0 * (0 - t) else 0) :=
  mixR_val h (by have := R.c; omega) R.u R.o R.i (by omega) hi hk
theorem mul_z (x a b : Int) : x * (0 - b) + x * (0 - a) = x * (0 - (a + b)) := by rw [← Int.mul_add]; congr 1; omega
theorem tk_add {p : Passing} {r : PassRule} (R : RuF p r) {L : List (List Int)} {B : Int} (h : Sh (p.parents.length + 1) p.kinds.toNat L B) {a b : Int} (ha : 0 ≤ a) (hb : 0 ≤ b) (hab : a + b ≤ 2000) : p.tk r a (p.tk r b L) = p.tk r (a + b) L := by
  have h1 := h.tk R (t := b) (by omega)
  refine Sh.ext (h1.tk R (t := a) (by omega)) (h.tk R (t := a + b) (by omega)) fun i k hi hk => ?_
  rw [tk_val R h1 (by omega) hi hk, tk_val R h (by omega) hi hk, tk_val R h (by omega) hi hk]
  have e1 := mul_z (r.out.getD k 0) a b
  have e2 := mul_z (r.in_.getD k 0) a b
  split <;> split <;> omega
theorem tk_zero {p : Passing} {r : PassRule} (R : RuF p r) {L : List (List Int)} {B : Int} (h : Sh (p.parents.length + 1) p.kinds.toNat L B) : p.tk r 0 L = L := by
  refine Sh.ext (h.tk R (t := 0) (by omega)) h fun i k hi hk => ?_
  rw [tk_val R h (by omega) hi hk]
  have e : ∀ x : Int, x * (0 - 0) = 0 := fun x => by rw [show (0 : Int) - 0 = 0 from rfl, Int.mul_zero]
  rw [e, e]
  split <;> split <;> omega
/-- No place has more than 1000 of a kind. -/
def Top (p : Passing) (L : List (List Int)) : Prop := ∀ i k, i < p.parents.length + 1 → k < p.kinds.toNat → val L i k ≤ 1000
theorem mul_np {x t : Int} (hx : 0 ≤ x) (ht : 0 ≤ t) : x * (0 - t) ≤ 0 := by
  have := Int.mul_nonneg hx ht
  rw [Int.mul_sub, Int.mul_zero]; omega
theorem bg_nn {K : Nat} {b : List Int} (h : Bg K b) (k : Nat) : 0 ≤ b.getD k 0 := by
  by_cases q : k < b.length
  · rw [getD_get q]; exact (h.2 _ (List.getElem_mem q)).1
  · rw [List.getD_eq_getElem?_getD, List.getElem?_eq_none (by omega)]; exact Int.le_refl _
theorem Top.tk {p : Passing} {r : PassRule} (R : RuF p r) {L : List (List Int)} {B : Int} (h : Sh (p.parents.length + 1) p.kinds.toNat L B) (hT : Top p L) {t : Int} (ht : 0 ≤ t ∧ t ≤ 2000) : Top p (p.tk r t L) := fun i k hi hk => by
  rw [tk_val R h ht hi hk]
  have h0 := hT i k hi hk
  have h1 := mul_np (bg_nn R.o k) ht.1
  have h2 := mul_np (bg_nn R.i k) ht.1
  split <;> split <;> omega
theorem pos_at : ∀ {b : List Int}, (∀ x ∈ b, 0 ≤ x) → 0 < tot b → ∃ k, ∃ h : k < b.length, 0 < b[k]
  | [], _, h => absurd h (by decide)
  | x :: b, hb, h => by
    by_cases q : 0 < x
    · exact ⟨0, by simp, q⟩
    · have e : tot (x :: b) = x + tot b := rfl
      have hx := hb x (by simp)
      obtain ⟨k, hk, r⟩ := pos_at (b := b) (fun y hy => hb y (by simp [hy])) (by omega)
      exact ⟨k + 1, by simpa using hk, r⟩
theorem tot_nn : ∀ {b : List Int}, (∀ x ∈ b, 0 ≤ x) → 0 ≤ tot b
  | [], _ => by decide
  | x :: b, hb => by
    have e : tot (x :: b) = x + tot b := rfl
    have := tot_nn (b := b) (fun y hy => hb y (by simp [hy]))
    have := hb x (by simp)
    omega
theorem cap_of {x v t : Int} (hx : 0 < x) (hv : v ≤ 1000) (ht : 0 ≤ t) (h : 0 ≤ v + x * (0 - t)) : t ≤ 1000 := by
  have h1 : 1 * t ≤ x * t := Int.mul_le_mul_of_nonneg_right (by omega) ht
  rw [Int.mul_sub, Int.mul_zero] at h
  omega
/-- A rule cannot pass more often than there are objects. -/
theorem tk_cap {p : Passing} (hv : p.Ok) {r : PassRule} (hr : r ∈ p.rules) {L : List (List Int)} {B : Int} (h : Sh (p.parents.length + 1) p.kinds.toNat L B) (hT : Top p L) {t : Int} (ht : 0 ≤ t ∧ t ≤ 2000) (hN : Nn (p.tk r t L)) : t ≤ 1000 := by
  have R := ruF hv hr
  obtain ⟨_, _, _, hne, hor⟩ := hv.2 r hr
  have hN' := (nn_val (h.tk R ht)).1 hN
  have hfl := hv.1.2.2.2.1
  have outc : ∀ k (hk : k < r.out.length), 0 < r.out[k] → t ≤ 1000 := fun k hk q => by
    have hk' : k < p.kinds.toNat := by have := R.o.1; omega
    have hc : r.cell.toNat < p.parents.length + 1 := by have := R.c; omega
    have h1 := hN' r.cell.toNat k hc hk'
    rw [tk_val R h ht hc hk', if_pos rfl, if_neg (fun z => R.cu z.1), getD_get hk] at h1
    exact cap_of q (hT _ _ hc hk') ht.1 (by omega)
  have inc : ∀ k (hk : k < r.in_.length), 0 < r.in_[k] → p.gk r.cell k = true → t ≤ 1000 := fun k hk q hg => by
    have hk' : k < p.kinds.toNat := by have := R.i.1; omega
    have h1 := hN' (p.up r.cell) k R.u hk'
    rw [tk_val R h ht R.u hk', if_neg (fun z => R.cu z.symm), if_pos ⟨rfl, hg⟩, getD_get hk] at h1
    exact cap_of q (hT _ _ R.u hk') ht.1 (by omega)
  have o0 := tot_nn (b := r.out) fun x hx => (R.o.2 x hx).1
  have i0 := tot_nn (b := r.in_) fun x hx => (R.i.2 x hx).1
  by_cases ho : 0 < tot r.out
  · obtain ⟨k, hk, q⟩ := pos_at (fun x hx => (R.o.2 x hx).1) ho
    exact outc k hk q
  · by_cases hc : 0 < r.cell
    · obtain ⟨k, hk, q⟩ := pos_at (b := r.in_) (fun x hx => (R.i.2 x hx).1) (by omega)
      exact inc k hk q (by unfold Passing.gk; rw [if_neg (by omega)])
    · have c0 := R.c0
      obtain ⟨k, hk, q, hf⟩ := (hor.resolve_left hc).resolve_left ho
      have il := R.i.1
      have hkf : k < p.free.length := by omega
      refine inc k hk q ?_
      unfold Passing.gk
      rw [if_pos (by omega), getD_get hkf]
      rw [List.getElem?_eq_getElem hkf] at hf
      cases hb : p.free[k] with
      | true => rw [hb] at hf; exact absurd rfl hf
      | false => rfl

/-! ### Counts from the front -/
theorem tks_pre (p : Passing) (cs ds : List Int) (L : List (List Int)) : ∀ m, m ≤ cs.length → p.tks (cs ++ ds) L m = p.tks cs L m
  | 0, _ => rfl
  | m + 1, h => by
    rw [Passing.tks, Passing.tks, tks_pre p cs ds L m (by omega)]
    congr 1
    simp only [List.getD_eq_getElem?_getD]
    rw [List.getElem?_append_left (by omega)]
/-- What the first counts leave. -/
def Passing.lft (p : Passing) (s : Stock) (cs : List Int) : List (List Int) := p.tks cs (plc s) cs.length
def Passing.fitK (p : Passing) (s : Stock) (cs : List Int) : Prop := Nn (p.lft s cs)
/-- .. with zeros behind. -/
def Passing.pad (p : Passing) (cs : List Int) : List Int := cs ++ List.replicate (p.rules.length - cs.length) 0
def Passing.Pfx (p : Passing) (cs : List Int) : Prop := (∀ x ∈ cs, 0 ≤ x ∧ x ≤ 2000) ∧ cs.length ≤ p.rules.length
theorem Passing.Pfx.nil (p : Passing) : p.Pfx [] := ⟨fun _ h => absurd h List.not_mem_nil, Nat.zero_le _⟩
theorem Passing.Pfx.snoc {p : Passing} {cs : List Int} (h : p.Pfx cs) (hl : cs.length < p.rules.length) {x : Int} (hx : 0 ≤ x ∧ x ≤ 2000) : p.Pfx (cs ++ [x]) := by
  refine ⟨fun y hy => ?_, by rw [List.length_append, List.length_singleton]; omega⟩
  rcases List.mem_append.1 hy with q | q
  · exact h.1 y q
  · rw [List.mem_singleton] at q; subst q; exact hx
theorem pad_len {p : Passing} {cs : List Int} (h : cs.length ≤ p.rules.length) : (p.pad cs).length = p.rules.length := by
  unfold Passing.pad; rw [List.length_append, List.length_replicate]; omega
theorem Passing.Pfx.w {p : Passing} {cs : List Int} (h : p.Pfx cs) : p.Cntw (p.pad cs) := by
  refine ⟨fun x hx => ?_, by rw [pad_len h.2]⟩
  rcases List.mem_append.1 hx with q | q
  · exact h.1 x q
  · rw [List.eq_of_mem_replicate q]; omega
theorem pad_all {p : Passing} {cs : List Int} (h : cs.length = p.rules.length) : p.pad cs = cs := by
  unfold Passing.pad; rw [h, Nat.sub_self]; exact List.append_nil _
theorem Passing.Pfx.sh {p : Passing} (hv : p.Ok) {s : Stock} (hs : p.StockOk s) {cs : List Int} (h : p.Pfx cs) : Sh (p.parents.length + 1) p.kinds.toNat (p.lft s cs) 1000000000 := by
  have := tks_sh' hv h.w hs (k := cs.length) h.2
  unfold Passing.pad at this
  rw [tks_pre p cs _ _ _ (Nat.le_refl _)] at this
  exact this
theorem lft_snoc {p : Passing} {s : Stock} {cs : List Int} (hl : cs.length < p.rules.length) (x : Int) : p.lft s (cs ++ [x]) = p.tk p.rules[cs.length] x (p.lft s cs) := by
  unfold Passing.lft
  rw [List.length_append, List.length_singleton, Passing.tks, tks_pre p cs _ _ _ (Nat.le_refl _), getD_get hl]
  congr 1
  simp
theorem tks_zeros {p : Passing} (hv : p.Ok) {s : Stock} (hs : p.StockOk s) {cs : List Int} (h : p.Pfx cs) : ∀ m, cs.length + m ≤ p.rules.length → p.tks (p.pad cs) (plc s) (cs.length + m) = p.lft s cs
  | 0, _ => by unfold Passing.pad; exact tks_pre p cs _ _ _ (Nat.le_refl _)
  | m + 1, hm => by
    have ih := tks_zeros hv hs h m (by omega)
    have e : cs.length + (m + 1) = cs.length + m + 1 := rfl
    have hk : cs.length + m < p.rules.length := by omega
    rw [e, Passing.tks, ih, getD_get hk]
    have z : (p.pad cs).getD (cs.length + m) 0 = 0 := by
      unfold Passing.pad
      rw [List.getD_eq_getElem?_getD, List.getElem?_append_right (by omega), Nat.add_sub_cancel_left, List.getElem?_replicate_of_lt (by omega)]; rfl
    rw [z]
    exact tk_zero (ruF hv (List.getElem_mem hk)) (h.sh hv hs)
theorem left_pad {p : Passing} (hv : p.Ok) {s : Stock} (hs : p.StockOk s) {cs : List Int} (h : p.Pfx cs) : p.left s (p.pad cs) = p.lft s cs := by
  have := tks_zeros hv hs h (p.rules.length - cs.length) (by have := h.2; omega)
  rw [show cs.length + (p.rules.length - cs.length) = p.rules.length from by have := h.2; omega] at this
  exact this
theorem top_plc {p : Passing} {s : Stock} (hs : p.StockOk s) : Top p (plc s) := fun i k hi hk => by
  have h := plc_sh hs
  obtain ⟨hl, hr⟩ := h.row hi
  rw [val_eq hl (by omega)]
  exact ((h.b _ (List.getElem_mem hl)).2 _ (List.getElem_mem (by omega))).2
theorem top_tks {p : Passing} (hv : p.Ok) {s : Stock} (hs : p.StockOk s) {cs : List Int} (hc : p.Cntw cs) : ∀ k, k ≤ p.rules.length → Top p (p.tks cs (plc s) k)
  | 0, _ => top_plc hs
  | k + 1, hk => by
    obtain ⟨h1, h2⟩ := Cnw hc (k := k) (by omega)
    rw [tks_succ (by omega) h1]
    exact (top_tks hv hs hc k (by omega)).tk (ruF hv (List.getElem_mem _)) (tks_sh' hv hc hs (by omega)) h2
theorem Passing.Pfx.top {p : Passing} (hv : p.Ok) {s : Stock} (hs : p.StockOk s) {cs : List Int} (h : p.Pfx cs) : Top p (p.lft s cs) := by
  have := top_tks hv hs h.w cs.length h.2
  unfold Passing.pad at this
  rw [tks_pre p cs _ _ _ (Nat.le_refl _)] at this
  exact this

/-! ### How often a rule can pass -/
open Classical in
noncomputable def mxK (f : Nat → Prop) : Nat → Nat
  | 0 => 0
  | k + 1 => if f (k + 1) then k + 1 else mxK f k
theorem mxK_le (f : Nat → Prop) : ∀ k, mxK f k ≤ k
  | 0 => Nat.le_refl _
  | k + 1 => by rw [mxK]; split; exact Nat.le_refl _; exact Nat.le_succ_of_le (mxK_le f k)
theorem mxK_dn {f : Nat → Prop} (hd : ∀ n, f (n + 1) → f n) {a : Nat} : ∀ b, a ≤ b → f b → f a
  | 0, h, q => by rw [Nat.le_zero.1 h]; exact q
  | b + 1, h, q => by
    rcases Nat.lt_or_eq_of_le h with r | rfl
    · exact mxK_dn hd b (by omega) (hd b q)
    · exact q
theorem mxK_iff {f : Nat → Prop} (h0 : f 0) (hd : ∀ n, f (n + 1) → f n) : ∀ F n, n ≤ F → (f n ↔ n ≤ mxK f F)
  | 0, n, h => by rw [Nat.le_zero.1 h]; exact ⟨fun _ => Nat.zero_le _, fun _ => h0⟩
  | F + 1, n, h => by
    rw [mxK]
    split
    · rename_i q; exact ⟨fun _ => h, fun _ => mxK_dn hd (F + 1) h q⟩
    · rename_i q
      rcases Nat.lt_or_eq_of_le h with r | rfl
      · exact mxK_iff h0 hd F n (by omega)
      · exact ⟨fun z => absurd z q, fun z => by have := mxK_le f F; omega⟩
noncomputable def Passing.mx (p : Passing) (s : Stock) (cs : List Int) : Nat := mxK (fun n => p.fitK s (cs ++ [(n : Int)])) 1001
theorem fit_dn {p : Passing} (hv : p.Ok) {s : Stock} (hs : p.StockOk s) {cs : List Int} (h : p.Pfx cs) (hl : cs.length < p.rules.length) {n : Nat} (hn : n + 1 ≤ 2000) (q : p.fitK s (cs ++ [((n + 1 : Nat) : Int)])) : p.fitK s (cs ++ [(n : Int)]) := by
  have R := ruF hv (List.getElem_mem hl)
  have hsh := h.sh hv hs
  unfold Passing.fitK at *
  rw [lft_snoc hl] at *
  have e := tk_add R hsh (a := 1) (b := (n : Int)) (by omega) (by omega) (by omega)
  rw [show (1 : Int) + (n : Int) = ((n + 1 : Nat) : Int) from by push_cast; omega] at e
  rw [← e] at q
  exact mix_le (hsh.tk R (t := (n : Int)) (by omega)) (by have := R.c; omega) R.u R.o R.i (by omega) q
theorem fit_zero {p : Passing} (hv : p.Ok) {s : Stock} (hs : p.StockOk s) {cs : List Int} (h : p.Pfx cs) (hl : cs.length < p.rules.length) : p.fitK s (cs ++ [0]) ↔ p.fitK s cs := by
  unfold Passing.fitK
  rw [lft_snoc hl, tk_zero (ruF hv (List.getElem_mem hl)) (h.sh hv hs)]
theorem fit_cap {p : Passing} (hv : p.Ok) {s : Stock} (hs : p.StockOk s) {cs : List Int} (h : p.Pfx cs) (hl : cs.length < p.rules.length) {x : Int} (hx : 0 ≤ x ∧ x ≤ 2000) (q : p.fitK s (cs ++ [x])) : x ≤ 1000 := by
  unfold Passing.fitK at q
  rw [lft_snoc hl] at q
  exact tk_cap hv (List.getElem_mem hl) (h.sh hv hs) (h.top hv hs) hx q
theorem mx_iff {p : Passing} (hv : p.Ok) {s : Stock} (hs : p.StockOk s) {cs : List Int} (h : p.Pfx cs) (hl : cs.length < p.rules.length) (h0 : p.fitK s cs) {n : Nat} (hn : n ≤ 1001) : p.fitK s (cs ++ [(n : Int)]) ↔ n ≤ p.mx s cs := by
  have key := mxK_iff (f := fun n => n ≤ 1001 ∧ p.fitK s (cs ++ [(n : Int)])) ⟨by omega, (fit_zero hv hs h hl).2 h0⟩ (fun n q => ⟨by omega, fit_dn hv hs h hl (by omega) q.2⟩) 1001 n hn
  have e : ∀ F, F ≤ 1001 → mxK (fun n => n ≤ 1001 ∧ p.fitK s (cs ++ [(n : Int)])) F = mxK (fun n => p.fitK s (cs ++ [(n : Int)])) F := by
    intro F
    induction F with
    | zero => intro _; rfl
    | succ F ih =>
      intro hF
      rw [mxK, mxK, ih (by omega)]
      by_cases q : p.fitK s (cs ++ [((F + 1 : Nat) : Int)])
      · rw [if_pos ⟨hF, q⟩, if_pos q]
      · rw [if_neg (fun z => q z.2), if_neg q]
  rw [e 1001 (Nat.le_refl _)] at key
  unfold Passing.mx
  rw [← key]
  exact ⟨fun q => ⟨hn, q⟩, fun q => q.2⟩
theorem mx_le {p : Passing} (hv : p.Ok) {s : Stock} (hs : p.StockOk s) {cs : List Int} (h : p.Pfx cs) (hl : cs.length < p.rules.length) (h0 : p.fitK s cs) : p.mx s cs ≤ 1000 := by
  have h1 : p.mx s cs ≤ 1001 := mxK_le _ _
  have := fit_cap hv hs h hl (x := (p.mx s cs : Int)) (by omega) ((mx_iff hv hs h hl h0 h1).2 (Nat.le_refl _))
  omega

/-! ### All counts that fit, in order -/
noncomputable def Passing.enumC (p : Passing) (s : Stock) : Nat → List Int → List (List Int)
  | 0, cs => [cs]
  | j + 1, cs => (List.range (p.mx s cs + 1)).flatMap fun (n : Nat) => p.enumC s j (cs ++ [(n : Int)])
/-- .. those among them whose next count is less than n. -/
noncomputable def Passing.enK (p : Passing) (s : Stock) (j : Nat) (cs : List Int) (n : Nat) : List (List Int) := (List.range n).flatMap fun (n : Nat) => p.enumC s j (cs ++ [(n : Int)])
theorem enK_zero (p : Passing) (s : Stock) (j : Nat) (cs : List Int) : p.enK s j cs 0 = [] := rfl
theorem enK_succ (p : Passing) (s : Stock) (j : Nat) (cs : List Int) (n : Nat) : p.enK s j cs (n + 1) = p.enK s j cs n ++ p.enumC s j (cs ++ [(n : Int)]) := by
  unfold Passing.enK
  rw [List.range_succ, List.flatMap_append]; simp
theorem enK_all (p : Passing) (s : Stock) (j : Nat) (cs : List Int) : p.enK s j cs (p.mx s cs + 1) = p.enumC s (j + 1) cs := rfl
theorem enK_pre (p : Passing) (s : Stock) (j : Nat) (cs : List Int) {a : Nat} : ∀ b, a ≤ b → ∃ E, p.enK s j cs b = p.enK s j cs a ++ E
  | 0, h => ⟨[], by rw [Nat.le_zero.1 h, List.append_nil]⟩
  | b + 1, h => by
    rcases Nat.lt_or_eq_of_le h with q | rfl
    · obtain ⟨E, e⟩ := enK_pre p s j cs (a := a) b (by omega)
      exact ⟨E ++ p.enumC s j (cs ++ [(b : Int)]), by rw [enK_succ, e, List.append_assoc]⟩
    · exact ⟨[], (List.append_nil _).symm⟩
theorem enumC_ok {p : Passing} (hv : p.Ok) {s : Stock} (hs : p.StockOk s) : ∀ j cs, p.Pfx cs → (∀ x ∈ cs, x ≤ 1000) → p.fitK s cs → cs.length + j = p.rules.length → ∀ x ∈ p.enumC s j cs, p.Cnts x ∧ p.fitK s x
  | 0, cs, h, h1, h2, hl, x, hx => by
    rw [Passing.enumC, List.mem_singleton] at hx
    subst hx
    exact ⟨⟨fun y hy => ⟨(h.1 y hy).1, h1 y hy⟩, by omega⟩, h2⟩
  | j + 1, cs, h, h1, h2, hl, x, hx => by
    rw [Passing.enumC, List.mem_flatMap] at hx
    obtain ⟨n, hn, hx⟩ := hx
    rw [List.mem_range] at hn
    have ml := mx_le hv hs h (by omega) h2
    refine enumC_ok hv hs j (cs ++ [(n : Int)]) (h.snoc (by omega) (by omega)) (fun y hy => ?_) ((mx_iff hv hs h (by omega) h2 (by omega)).2 (by omega)) (by rw [List.length_append, List.length_singleton]; omega) x hx
    rcases List.mem_append.1 hy with q | q
    · exact h1 y q
    · rw [List.mem_singleton] at q; omega
theorem fit_nil {p : Passing} {s : Stock} (hs : p.StockOk s) : p.fitK s [] := plc_nn hs
theorem fit_left {p : Passing} {s : Stock} {cs : List Int} (h : cs.length = p.rules.length) : p.fitK s cs ↔ Nn (p.left s cs) := by
  unfold Passing.fitK Passing.lft Passing.left; rw [h]

/-! ### Choices -/
theorem tks_set {p : Passing} (hv : p.Ok) {s : Stock} (hs : p.StockOk s) {cs : List Int} (hc : p.Cntw cs) {k : Nat} (hk : k < cs.length) {b : Int} (hb : 0 ≤ b ∧ cs[k] + b ≤ 2000) : ∀ m, m ≤ p.rules.length →
    p.tks (cs.set k (cs[k] + b)) (plc s) m = if k < m then p.tk (p.rules.getD k default) b (p.tks cs (plc s) m) else p.tks cs (plc s) m
  | 0, _ => by rw [if_neg (by omega)]; rfl
  | m + 1, hm => by
    have ih := tks_set hv hs hc hk hb m (by omega)
    have hmr : m < p.rules.length := by omega
    obtain ⟨h1, h2⟩ := Cnw hc hmr
    have sh := tks_sh' hv hc hs (k := m) (by omega)
    rw [Passing.tks, Passing.tks, ih]
    by_cases e : k = m
    · subst e
      rw [if_neg (by omega), if_pos (by omega), getD_get hmr, getD_get hk, getD_get (by rw [List.length_set]; exact hk), List.getElem_set_self]
      rw [tk_add (ruF hv (List.getElem_mem hmr)) sh hb.1 h2.1 (by omega), Int.add_comm]
    · have eg : (cs.set k (cs[k] + b)).getD m 0 = cs.getD m 0 := by
        simp only [List.getD_eq_getElem?_getD]
        rw [List.getElem?_set_ne e]
      rw [eg]
      by_cases q : k < m
      · rw [if_pos q, if_pos (by omega)]
        unfold Passing.tk; rw [mixR_comm]
      · rw [if_neg q, if_neg (by omega)]
/-- One more of a rule. -/
theorem left_more {p : Passing} (hv : p.Ok) {s : Stock} (hs : p.StockOk s) {cs : List Int} (hc : p.Cnts cs) {k : Nat} (hk : k < cs.length) : p.left s (cs.set k (cs[k] + 1)) = p.tk (p.rules.getD k default) 1 (p.left s cs) := by
  have hkr : k < p.rules.length := by have := hc.2; omega
  have := hc.1 _ (List.getElem_mem hk)
  have := tks_set hv hs hc.w hk (b := 1) (by omega) p.rules.length (Nat.le_refl _)
  rw [if_pos hkr] at this
  exact this
theorem more_cap {p : Passing} (hv : p.Ok) {s : Stock} (hs : p.StockOk s) {cs : List Int} (hc : p.Cnts cs) {k : Nat} (hk : k < cs.length) (hN : Nn (p.tk (p.rules.getD k default) 1 (p.left s cs))) : cs[k] < 1000 := by
  have hkr : k < p.rules.length := by have := hc.2; omega
  have h1 := hc.1 _ (List.getElem_mem hk)
  have hc0 : p.Cntw (cs.set k 0) := by
    refine ⟨fun x hx => ?_, by rw [List.length_set]; exact hc.2⟩
    rcases List.mem_or_eq_of_mem_set hx with q | q
    · have := hc.1 x q; omega
    · omega
  have hk0 : k < (cs.set k 0).length := by rw [List.length_set]; exact hk
  have e0 : (cs.set k 0)[k] = 0 := List.getElem_set_self _
  have e1 := tks_set hv hs hc0 hk0 (b := cs[k]) (by rw [e0]; omega) p.rules.length (Nat.le_refl _)
  rw [if_pos hkr, e0, Int.zero_add, List.set_set, List.set_getElem_self] at e1
  have e2 : p.left s cs = p.tk (p.rules.getD k default) cs[k] (p.tks (cs.set k 0) (plc s) p.rules.length) := e1
  rw [e2, getD_get hkr] at hN
  have R := ruF hv (List.getElem_mem hkr)
  have sh := tks_sh' hv hc0 hs (k := p.rules.length) (Nat.le_refl _)
  rw [tk_add R sh (by omega) h1.1 (by omega)] at hN
  have := tk_cap hv (List.getElem_mem hkr) sh (top_tks hv hs hc0 _ (Nat.le_refl _)) (t := 1 + cs[k]) (by omega) hN
  omega
/-- A rule of the same cell has a count. -/
def Passing.busyC (p : Passing) (cs : List Int) (c : Int) : Prop := ∃ i, ∃ h : i < p.rules.length, ∃ h2 : i < cs.length, 0 < cs[i] ∧ p.rules[i].cell = c
/-- Counts that fit are a choice of a mode. -/
def Passing.ChoP (p : Passing) (s : Stock) (m : Int) (cs : List Int) : Prop :=
  (tot cs = 0 ∨ m = 3 → tot cs = 1) ∧ (¬ (tot cs = 0 ∨ m = 3) → ∀ k (h : k < p.rules.length), ¬ (m = 2 ∧ p.busyC cs p.rules[k].cell) → ¬ Nn (p.tk p.rules[k] 1 (p.left s cs)))
end Go.Proofs.YtbpmmdecaonopaaGreat

/-
  A step of a passing system: the reference's step. No condition.
-/
namespace Go.AI
open Go.RowKit
end Go.AI
namespace Go.Proofs.YtbpmmdecaonopaaGreat
open Go.AI
set_option maxRecDepth 8000
set_option maxHeartbeats 1600000

theorem c_l00OwnE (l l' : List Int) (e : l = l') (hn : l'.length ≤ 1000000) : Gives Tryz.prog 82 [.sl (l.map Go.AI.encI)] (.sl (l'.map Go.AI.encI)) := by subst e; exact c_l00Own _ hn
def STs (x : Stock) (c : Int) : A → Heap → Prop := fun v h' => ∃ b cap, v = .tup [.agg [.os b x.cells.length cap, .sl (x.around.map Go.AI.encI)], .int c] ∧ h' = [⟨b, 24, cap * 1, (x.cells.map (encS Go.AI.encI)).flatten⟩]
theorem STs.frz {x : Stock} {c : Int} {v : A} {h1 : Heap} (q : STs x c v h1) : FrzF h1 v (.tup [.agg (encStock x), .int c]) := by
  obtain ⟨b, cap, rfl, rfl⟩ := q
  refine FrzF.tup2 ?_ (Clo.int _)
  intro F w v ho r
  obtain ⟨vs, rfl, rl⟩ := r.agg_inv
  obtain ⟨v1, us1, rfl, r1, rl1⟩ := rl.uncons
  obtain ⟨v2, us2, rfl, r2, rl2⟩ := rl1.uncons
  have p1 := FrzF.flat (g := encS Go.AI.encI) (ys := x.cells) (z := 1) rfl rfl (fun _ => rfl) rfl rfl F w v1 ho r1
  have p2 := r2.heap (List.sublist_cons_self _ F)
  have q := RelL.cons p1 (RelL.cons p2 (show RelL (Im w F) w [] us2 from ⟨rl2.1, fun j hj => absurd hj (Nat.not_lt_zero _)⟩))
  exact .agg _ _ q.1 q.2
theorem gvs_sh' {p : Passing} (hv : p.Ok) {cs : List Int} (hc : p.Cnts cs) {s : Stock} (hs : p.StockOk s) {k : Nat} (hk : k ≤ p.rules.length) : Sh (p.parents.length + 1) p.kinds.toNat (p.gvs cs (p.left s cs) k) 1000000000 := by
  have h8 := hv.1.2.2.2.2.1
  exact (gvs_sh hv hc (tks_sh hv hc.w (plc_sh hs) _ (Nat.le_refl _)) k hk).mono (by omega)
theorem row_eq {L : List (List Int)} {n K : Nat} {B : Int} (h : Sh n K L B) {k a : Nat} (hk : k < L.length) (ha : k * K = a) : (L.flatten.take (a + K)).drop a = L[k] := by
  rw [List.drop_take, show a + K - a = K by omega, ← ha]; exact flat_row h hk
theorem row_eq2 {L : List (List Int)} {n K : Nat} {B : Int} (h : Sh n K L B) {k a m : Nat} (hk : k < L.length) (ha : k * K = a) (hm : m = a + K) : (L.flatten.take m).drop a = L[k] := by subst hm; exact row_eq h hk ha
theorem stockOf_eq {n : Nat} {L : List (List Int)} (h : n < L.length) : stockOf n L = ⟨L.take n, L[n]⟩ := by unfold stockOf; rw [getD_get h]
end Go.Proofs.YtbpmmdecaonopaaGreat
