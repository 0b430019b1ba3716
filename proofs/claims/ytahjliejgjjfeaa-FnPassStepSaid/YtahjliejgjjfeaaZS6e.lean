/-
  A step of a passing system: the reference's side. No condition.
-/
import Derived.Test.YtahjliejgjjfeaaZPS6
import Derived.Test.YtahjliejgjjfeaaZS5f
namespace Go.Proofs.Ytahjliejgjjfeaa
open Go.AI
set_option maxRecDepth 8000
set_option maxHeartbeats 1600000

theorem o_l06Give (p : Passing) (hv : p.Ok) (r : PassRule) (hr : r ∈ p.rules) (L : List (List Int)) (hL : Sh (p.parents.length + 1) p.kinds.toNat L 1000000000) (t : Int) (ht : 0 ≤ t ∧ t ≤ 1000) (b : Option Nat) (cap : Nat) :
    Does Try.prog 130 [.ip (encPassing p), .os b L.flatten.length cap, .ip (encPassRule r), .int t] [⟨b, 2, cap * 1, (L.flatten.map Go.AI.encI).flatten⟩]
      (fun _ h' => h' = [⟨b, 2, cap * 1, ((p.gv r t L).flatten.map Go.AI.encI).flatten⟩]) := by
  refine fn_of_runD tyOk ztOk mix Try.func130 rfl (by decide) Try.ntmps130 (fun w0 F => ?_)
  change Run _ _ _ _ _ (_ :: F)
  have R := ruF hv hr
  obtain ⟨K, own, up, f⟩ := flF hv hr hL
  have hK := f.k
  have k8 := f.k8
  have ol := f.ol
  have ul := f.ul
  have lb := f.b
  have oi := f.oi
  have rc := R.c0
  have hfr := hv.1.2.2.2.1
  have oK : r.out.length = K := by rw [R.o.1, f.kt]
  have iK : r.in_.length = K := by rw [R.i.1, f.kt]
  have fb := flat_bnd hL
  have hne : (L.flatten.map Go.AI.encI).flatten ≠ [] := fun q => by
    have h3 : ((L.flatten.map Go.AI.encI).flatten).length = 0 := by rw [q]; rfl
    rw [flat_len (f := Go.AI.encI) (z := 1) (fun _ => rfl)] at h3
    omega
  refine run_some 0 rfl hne (fun b2 hb2 => ?_)
  subst hb2
  have eAt := c_l06At p r.cell hv.1 ⟨rc, R.c⟩
  rw [f.kt, f.u] at eAt
  repeat' (first
      | (refine j_go ?_; first
        | refine j_op0 rfl rfl rfl rfl ?_ | (refine j_kBin rfl ?_; first | refine j_in rfl rfl ⟨by omega, by omega⟩ rfl rfl ?_) | (refine j_kCall rfl rfl rfl rfl ?_; first | refine jc (eAt) (LeL.refl _) rfl rfl ?_))
      | refine j_nil ?_
      | (refine r_go ?_; first | refine run_seq ?_ | refine run_region ?_ | refine run_block ?_ | refine run_regionD (by kernel_rfl) ?_)
      | refine seqQ_normal ?_)
  refine run_loop (fun k : Nat => [(0, .ip (encPassing p)), (1, .os (some b2) L.flatten.length cap), (2, .ip (encPassRule r)), (3, .int t), (8, .int (own : Int)), (9, .int (up : Int)), (10, .int (k : Int))])
    (fun k => ⟨some b2, 2, cap * 1, ((mixF own up (p.gk r.cell) r.in_ r.out t L.flatten k).map Go.AI.encI).flatten⟩ :: F) (fun k => k ≤ K) (fun k => K - k) 0 ⟨rfl, rfl, rfl, rfl, si oi, rfl, rfl, trivial⟩ (by simp only [mixF_zero]) (Nat.zero_le _) (fun k kl => ?_)
  have ml : (mixF own up (p.gk r.cell) r.in_ r.out t L.flatten k).length = L.flatten.length := mixF_len
  have hl : (mixH own up (p.gk r.cell) r.in_ r.out t L.flatten k).length = L.flatten.length := mixH_len
  have nl : (mixF own up (p.gk r.cell) r.in_ r.out t L.flatten (k + 1)).length = L.flatten.length := mixF_len
  by_cases hk : k < K
  · have mo := mul_b (R.o.2 _ (List.getElem_mem (n := k) (by omega))) (t := t) (by omega)
    have mi := mul_b (R.i.2 _ (List.getElem_mem (n := k) (by omega))) (t := t) (by omega)
    have vo : (mixF own up (p.gk r.cell) r.in_ r.out t L.flatten k)[own + k]'(by omega) = L.flatten[own + k]'(by omega) := mixF_own hk f.d _
    have vu : (mixH own up (p.gk r.cell) r.in_ r.out t L.flatten k)[up + k]'(by omega) = L.flatten[up + k]'(by omega) := mixH_up hk f.d _
    have bo := fb _ (List.getElem_mem (n := own + k) (by omega))
    have bu := fb _ (List.getElem_mem (n := up + k) (by omega))
    have kf : k < p.free.length := by omega
    have st1 : (mixF own up (p.gk r.cell) r.in_ r.out t L.flatten k).set (own + k) ((mixF own up (p.gk r.cell) r.in_ r.out t L.flatten k)[own + k]'(by omega) + r.in_[k]'(by omega) * t) = mixH own up (p.gk r.cell) r.in_ r.out t L.flatten k := by
      rw [vo]; unfold mixH; rw [getD_get (by omega), getD_get (by omega)]
    have st2 : p.gk r.cell k = true → (mixH own up (p.gk r.cell) r.in_ r.out t L.flatten k).set (up + k) ((mixH own up (p.gk r.cell) r.in_ r.out t L.flatten k)[up + k]'(by omega) + r.out[k]'(by omega) * t) = mixF own up (p.gk r.cell) r.in_ r.out t L.flatten (k + 1) := fun hg => by
      rw [vu, ← mixF_t hk f.d (by omega) (by omega) hg, getD_get (l := r.out) (by omega)]
    have m0 : p.gk r.cell k = false → mixH own up (p.gk r.cell) r.in_ r.out t L.flatten k = mixF own up (p.gk r.cell) r.in_ r.out t L.flatten (k + 1) := fun hg => mixF_f hk f.d (by omega) hg
    repeat' (first
      | (refine j_go ?_; first
        | refine j_op0 rfl rfl rfl rfl ?_)
      | refine j_nil ?_
      | (refine j_goO ?_; first
        | refine j_op0O rfl rfl rfl rfl ?_ | (refine j_kIdxO rfl ?_; first | refine j_midxO rfl rfl rfl rfl rfl (by first | omega | (simp only [List.length_append, List.length_cons, List.length_nil]; omega)) rfl rfl ?_) | (refine j_kBinO rfl ?_; first | refine j_inO rfl rfl ⟨by omega, by omega⟩ rfl rfl ?_))
      | (refine r_go ?_; first | refine run_seq ?_ | refine run_region ?_ | (refine (run_if rfl (fun hb => ?_) (fun hb => ?_)) <;> first | (exfalso; omega) | skip) | refine run_block ?_ | refine run_skip ?_ | refine run_opn 5 [⟨0, true, false, false⟩, ⟨1, true, false, false⟩, ⟨2, true, false, false⟩, ⟨3, true, false, false⟩, ⟨4, true, false, false⟩, ⟨5, true, false, false⟩, ⟨6, true, false, false⟩, ⟨7, true, false, false⟩, ⟨8, true, false, false⟩, ⟨9, true, false, false⟩, ⟨10, true, false, false⟩, ⟨11, true, false, false⟩, ⟨12, true, false, false⟩, ⟨13, true, false, false⟩, ⟨14, true, false, false⟩, ⟨15, true, false, false⟩, ⟨16, true, false, false⟩, ⟨17, false, true, false⟩] rfl rfl (by kernel_rfl) ?_)
      | refine seqQ_normal ?_)
    refine j_mloadEO 0 (own + k) (g := Go.AI.encI) (L := mixF own up (p.gk r.cell) r.in_ r.out t L.flatten k) (z := 1) rfl rfl rfl rfl rfl (fun _ => rfl) rfl (by omega) (fun _ => rfl) rfl rfl ?_
    repeat' (first
      | (refine j_goO ?_; first
        | refine j_op0O rfl rfl rfl rfl ?_ | (refine j_kIdxO rfl ?_; first | refine j_idxO rfl rfl rfl rfl rfl (by omega) rfl rfl rfl ?_ | refine j_midxO rfl rfl rfl rfl rfl (by first | omega | (simp only [List.length_append, List.length_cons, List.length_nil]; omega)) rfl rfl ?_) | (refine j_kBinO rfl ?_; first | refine j_inO rfl rfl ⟨by omega, by omega⟩ rfl rfl ?_)))
    refine j_storeEO 0 (own + k) (g := Go.AI.encI) ((mixF own up (p.gk r.cell) r.in_ r.out t L.flatten k)[own + k]'(by omega) + r.in_[k]'(by omega) * t) rfl rfl rfl rfl rfl rfl rfl rfl rfl rfl (fun _ => rfl) rfl (by omega) (fun _ hk => nomatch hk) ?_
    rw [st1]
    repeat' (first
      | (refine j_go ?_; first
        | refine j_op0 rfl rfl rfl rfl ?_ | refine j_off rfl rfl rfl ?_ | (refine j_kIdx rfl ?_; first | refine j_idx rfl rfl rfl rfl rfl (by omega) rfl rfl rfl ?_) | (refine j_kBin rfl ?_; first | refine j_in rfl rfl ⟨by omega, by omega⟩ rfl rfl ?_) | (refine j_kGuard rfl ?_; first | (refine (j_if rfl rfl rfl (fun hb => ?_) (fun hb => ?_)) <;> first | (exfalso; omega) | skip)))
      | refine j_nil ?_
      | (refine j_goO ?_; first
        | refine j_op0O rfl rfl rfl rfl ?_ | (refine j_kIdxO rfl ?_; first | refine j_midxO rfl rfl rfl rfl rfl (by first | omega | (simp only [List.length_append, List.length_cons, List.length_nil]; omega)) rfl rfl ?_) | (refine j_kBinO rfl ?_; first | refine j_inO rfl rfl ⟨by omega, by omega⟩ rfl rfl ?_))
      | refine j_nilO ?_
      | (refine r_go ?_; first | refine run_seq ?_ | refine run_region ?_ | refine run_cond_t rfl ?_ | refine run_skip ?_ | refine run_opn 7 [⟨0, true, false, false⟩, ⟨1, true, false, false⟩, ⟨2, true, false, false⟩, ⟨3, true, false, false⟩, ⟨4, true, false, false⟩, ⟨5, true, false, false⟩, ⟨6, true, false, false⟩, ⟨7, true, false, false⟩, ⟨8, true, false, false⟩, ⟨9, true, false, false⟩, ⟨10, true, false, false⟩, ⟨11, true, false, false⟩, ⟨12, true, false, false⟩, ⟨13, true, false, false⟩, ⟨14, true, false, false⟩, ⟨15, true, false, false⟩, ⟨16, true, false, false⟩, ⟨17, false, true, false⟩] rfl rfl (by kernel_rfl) ?_ | refine run_condn rfl (fun hb => ?_) (fun hb => ?_))
      | refine seqQ_normal ?_ | refine blockQ_normal ?_)
    all_goals first
      | (have hg : p.gk r.cell k = true := by first | exact gk_pos (by assumption) k | (rw [gk_zero (by omega) kf]; simp only [hb, Bool.not_false])
         refine j_mloadEO 0 (up + k) (g := Go.AI.encI) (L := mixH own up (p.gk r.cell) r.in_ r.out t L.flatten k) (z := 1) rfl rfl rfl rfl rfl (fun _ => rfl) rfl (by omega) (fun _ => rfl) rfl rfl ?_
         repeat' (first
      | (refine j_goO ?_; first
        | refine j_op0O rfl rfl rfl rfl ?_ | (refine j_kIdxO rfl ?_; first | refine j_idxO rfl rfl rfl rfl rfl (by omega) rfl rfl rfl ?_ | refine j_midxO rfl rfl rfl rfl rfl (by first | omega | (simp only [List.length_append, List.length_cons, List.length_nil]; omega)) rfl rfl ?_) | (refine j_kBinO rfl ?_; first | refine j_inO rfl rfl ⟨by omega, by omega⟩ rfl rfl ?_)))
         refine j_storeEO 0 (up + k) (g := Go.AI.encI) ((mixH own up (p.gk r.cell) r.in_ r.out t L.flatten k)[up + k]'(by omega) + r.out[k]'(by omega) * t) rfl rfl rfl rfl rfl rfl rfl rfl rfl rfl (fun _ => rfl) rfl (by omega) (fun _ hk => nomatch hk) ?_
         rw [st2 hg]
         repeat' (first
      | (refine j_go ?_; first
        | refine j_op0 rfl rfl rfl rfl ?_ | (refine j_kBin rfl ?_; first | refine j_in rfl rfl ⟨by omega, by omega⟩ rfl rfl ?_))
      | refine j_nil ?_
      | refine j_nilO ?_
      | (refine r_go ?_; first | refine run_region ?_)
      | refine seqQ_normal ?_ | refine blockQ_normal ?_)
         exact loopQ_next (k + 1) (by omega) (by omega) rfl ⟨rfl, rfl, rfl, rfl, rfl, rfl, nx _, trivial⟩)
      | (have hg : p.gk r.cell k = false := by rw [gk_zero (by omega) kf]; simp only [hb, Bool.not_true]
         rw [m0 hg]
         exact loopQ_next (k + 1) (by omega) (by omega) rfl ⟨rfl, rfl, rfl, rfl, rfl, rfl, nx _, trivial⟩)
      | trace_state
  · repeat' (first
      | (refine j_go ?_; first
        | refine j_op0 rfl rfl rfl rfl ?_)
      | refine j_nil ?_
      | (refine r_go ?_; first | refine run_seq ?_ | refine run_region ?_ | (refine (run_if rfl (fun hb => ?_) (fun hb => ?_)) <;> first | (exfalso; omega) | skip) | refine run_exit ?_)
      | refine seqQ_normal ?_ | refine seqQ_exit ?_ | refine blockQ_eq ?_ | refine loopQ_exit ?_)
    have hke : k = K := by omega
    subst hke
    rw [gv_flat f R hL t ht]
    exact endD_ret (h1 := [_]) rfl .nil (Le.refl _) rfl (.inr rfl)

theorem flat_take_succ {L : List (List Int)} {k : Nat} (hk : k < L.length) : (L.take (k + 1)).flatten = (L.take k).flatten ++ L[k] := by
  rw [List.take_succ_eq_append_getElem hk, List.flatten_append]; simp
theorem flat_take_le {L : List (List Int)} {K : Nat} (h : ∀ x ∈ L, x.length ≤ K) : ∀ k, (L.take k).flatten.length ≤ k * K
  | 0 => by simp
  | k + 1 => by
    by_cases hk : k < L.length
    · rw [flat_take_succ hk, List.length_append]
      have := flat_take_le h k
      have := h _ (List.getElem_mem hk)
      rw [Nat.add_mul]; omega
    · rw [List.take_of_length_le (by omega)]
      have := flat_take_le h k
      rw [List.take_of_length_le (by omega)] at this
      rw [Nat.add_mul]; omega
theorem o_l06Flat (p : Passing) (s : Stock) (hv : p.Ok) (hs : p.StockOk s) : Does Try.prog 133 [.ip (encPassing p), .ip (encStock s)] [] (OwnL (plc s).flatten) := by
  refine fn_of_runD tyOk ztOk mix Try.func133 rfl (by decide) Try.ntmps133 (fun w0 F => ?_)
  change Run _ _ _ _ _ F
  have p4 := hv.1.2.1
  have hc := hs.1
  have al := hs.2.1.1.2.2
  have cl : ∀ x ∈ s.cells, x.length ≤ 8 := fun x hx => (hs.2.2.1 x hx).1.2.2
  repeat' (first
      | (refine j_go ?_; first
        | refine j_op0 rfl rfl rfl rfl ?_ | (refine j_kBsl rfl ?_; first | refine j_bs0 rfl rfl rfl rfl rfl rfl ?_))
      | refine j_nil ?_
      | (refine r_go ?_; first | refine run_seq ?_ | refine run_region ?_ | refine run_block ?_)
      | refine seqQ_normal ?_)
  refine run_view (view_none 2 0 rfl) ?_
  refine run_loop (fun x : Nat × Option Nat × Nat => [(1, .ip (encStock s)), (5, .os x.2.1 (s.cells.take x.1).flatten.length x.2.2), (6, .int (x.1 : Int))]) (fun x => ⟨x.2.1, 2, x.2.2 * 1, (((s.cells.take x.1).flatten).map Go.AI.encI).flatten⟩ :: F) (fun x => x.1 ≤ s.cells.length) (fun x => s.cells.length - x.1) (0, none, 0) ⟨rfl, rfl, rfl, trivial⟩ rfl (Nat.zero_le _) (fun ⟨k, ob, cp⟩ kl => ?_)
  dsimp only at kl ⊢
  have tl := flat_take_le cl k
  by_cases hk : k < s.cells.length
  · have ck := cl _ (List.getElem_mem hk)
    repeat' (first
      | (refine j_go ?_; first
        | refine j_op0 rfl rfl rfl rfl ?_ | (refine j_kIdx rfl ?_; first | refine j_idx rfl rfl rfl rfl rfl (by omega) rfl rfl rfl ?_) | (refine j_kLen rfl ?_; first | refine j_len rfl rfl rfl rfl rfl rfl ?_))
      | refine j_nil ?_
      | (refine r_go ?_; first | refine run_seq ?_ | refine run_region ?_ | (refine (run_if rfl (fun hb => ?_) (fun hb => ?_)) <;> first | (exfalso; omega) | skip) | refine run_block ?_ | refine run_skip ?_)
      | refine seqQ_normal ?_)
    refine j_append 0 (g := Go.AI.encI) (ys := (s.cells.take k).flatten) s.cells[k] rfl rfl rfl rfl rfl rfl rfl rfl rfl rfl rfl rfl (fun _ => rfl) (fun _ _ => rfl) ⟨by omega, by omega⟩ rfl rfl (fun b' cap' => ?_)
    rw [← flat_take_succ hk]
    repeat' (first
      | (refine j_go ?_; first
        | refine j_op0 rfl rfl rfl rfl ?_ | (refine j_kBin rfl ?_; first | refine j_in rfl rfl ⟨by omega, by omega⟩ rfl rfl ?_))
      | refine j_nil ?_
      | (refine r_go ?_; first | refine run_region ?_)
      | refine seqQ_normal ?_ | refine blockQ_normal ?_)
    exact loopQ_next (k + 1, b', cap') (by dsimp only; omega) (by dsimp only; omega) rfl ⟨rfl, rfl, nx _, trivial⟩
  · have hke : k = s.cells.length := by omega
    subst hke
    rw [List.take_length] at tl ⊢
    repeat' (first
      | (refine j_go ?_; first
        | refine j_op0 rfl rfl rfl rfl ?_ | (refine j_kLen rfl ?_; first | refine j_len rfl rfl rfl rfl rfl rfl ?_))
      | refine j_nil ?_
      | (refine r_go ?_; first | refine run_seq ?_ | refine run_region ?_ | (refine (run_if rfl (fun hb => ?_) (fun hb => ?_)) <;> first | (exfalso; omega) | skip) | refine run_exit ?_)
      | refine seqQ_normal ?_ | refine seqQ_exit ?_ | refine blockQ_eq ?_ | refine loopQ_exit ?_)
    refine j_append 0 (g := Go.AI.encI) (ys := s.cells.flatten) s.around rfl rfl rfl rfl rfl rfl rfl rfl rfl rfl rfl rfl (fun _ => rfl) (fun _ _ => rfl) ⟨by omega, by omega⟩ rfl rfl (fun b' cap' => ?_)
    rw [show s.cells.flatten ++ s.around = (plc s).flatten from by simp [plc]]
    repeat' (first
      | (refine j_go ?_; first
        | refine j_op0 rfl rfl rfl rfl ?_)
      | refine j_nil ?_
      | (refine r_go ?_; first | refine run_ret ?_)
      | refine seqQ_normal ?_)
    exact endD_ret (h1 := [_]) rfl (.cons (.tmp rfl) .nil) (Le.refl _) ⟨b', cap', rfl, rfl⟩ (.inl rfl)

theorem tks_sh' {p : Passing} (hv : p.Ok) {cs : List Int} (hc : p.Cnts cs) {s : Stock} (hs : p.StockOk s) {k : Nat} (hk : k ≤ p.rules.length) : Sh (p.parents.length + 1) p.kinds.toNat (p.tks cs (plc s) k) 1000000000 := by
  have h8 := hv.1.2.2.2.2.1
  exact (tks_sh hv hc (plc_sh hs) k hk).mono (by omega)
theorem chs_sh' {p : Passing} (hv : p.Ok) {cs : List Int} (hc : p.Cnts cs) {s : Stock} (hs : p.StockOk s) {k : Nat} (hk : k ≤ p.rules.length) : Sh (p.parents.length + 1) p.kinds.toNat (p.chs cs (plc s) k) 1000000000 := by
  have h8 := hv.1.2.2.2.2.1
  exact (chs_sh hv hc (plc_sh hs) k hk).mono (by omega)
theorem o_l06Left (p : Passing) (s : Stock) (cs : List Int) (hv : p.Ok) (hs : p.StockOk s) (hc : p.Cnts cs) : Does Try.prog 117 [.ip (encPassing p), .ip (encStock s), .sl (cs.map Go.AI.encI)] []
    (fun v h' => ∃ b cap j, j ≤ p.rules.length ∧ (Nn (p.left s cs) → j = p.rules.length) ∧ v = .tup [.os b (p.tks cs (plc s) j).flatten.length cap, .raw (.bool (dec (Nn (p.left s cs))))] ∧ h' = [⟨b, 2, cap * 1, ((p.tks cs (plc s) j).flatten.map Go.AI.encI).flatten⟩]) := by
  refine fn_of_runD tyOk ztOk mix Try.func117 rfl (by decide) Try.ntmps117 (fun w0 F => ?_)
  change Run _ _ _ _ _ F
  have h8 := hv.1.2.2.2.2.1
  have hcn := hc.2
  repeat' (first
      | (refine j_go ?_; first
        | refine j_op0 rfl rfl rfl rfl ?_)
      | refine j_nil ?_
      | (refine r_go ?_; first | refine run_seq ?_ | refine run_region ?_)
      | refine seqQ_normal ?_)
  refine j_kCall rfl rfl rfl rfl ?_
  refine jcp _ (o_l06Flat p s hv hs) (List.Perm.refl _) (LeL.refl _) rfl rfl (fun v h1 hR => ?_)
  obtain ⟨ob, cp, rfl, rfl⟩ := hR
  repeat' (first
      | (refine j_go ?_; first
        | refine j_op0 rfl rfl rfl rfl ?_)
      | refine j_nil ?_
      | (refine r_go ?_; first | refine run_seq ?_ | refine run_region ?_ | refine run_block ?_)
      | refine seqQ_normal ?_)
  refine run_loop (fun k : Nat => [(0, .ip (encPassing p)), (2, .sl (cs.map Go.AI.encI)), (8, .os ob (p.tks cs (plc s) k).flatten.length cp), (9, .raw (.bool (dec (Nn (p.tks cs (plc s) k))))), (10, .int (k : Int))])
    (fun k => ⟨ob, 2, cp * 1, ((p.tks cs (plc s) k).flatten.map Go.AI.encI).flatten⟩ :: F) (fun k => k ≤ cs.length) (fun k => cs.length - k) 0 ⟨rfl, rfl, rfl, raw_t (plc_nn hs), rfl, trivial⟩ rfl (Nat.zero_le _) (fun k kl => ?_)
  have sh := tks_sh' hv hc hs (k := k) (by omega)
  by_cases hN : Nn (p.tks cs (plc s) k)
  · by_cases hk : k < cs.length
    · have hkr : k < p.rules.length := by omega
      have hck := hc.1 _ (List.getElem_mem hk)
      have sh2 := tks_sh' hv hc hs (k := k + 1) (by omega)
      have e := tks_succ (p := p) (cs := cs) (L := plc s) hkr hk
      rw [dec_t hN]
      repeat' (first
      | (refine j_go ?_; first
        | refine j_op0 rfl rfl rfl rfl ?_ | (refine j_kLen rfl ?_; first | refine j_len rfl rfl rfl rfl rfl rfl ?_) | (refine j_kGuard rfl ?_; first | (refine (j_if rfl rfl rfl (fun hb => ?_) (fun hb => ?_)) <;> first | (exfalso; omega) | skip)))
      | refine j_nil ?_
      | (refine j_goO ?_; first
        | refine j_op0O rfl rfl rfl rfl ?_ | (refine j_kIdxO rfl ?_; first | refine j_idxO rfl rfl rfl rfl rfl (by omega) rfl rfl rfl ?_))
      | (refine r_go ?_; first | refine run_seq ?_ | refine run_region ?_ | refine run_cond_t rfl ?_ | refine run_block ?_ | refine run_skip ?_ | refine run_opn 6 [⟨0, true, false, false⟩, ⟨1, true, false, false⟩, ⟨2, true, false, false⟩, ⟨3, true, false, false⟩, ⟨4, true, false, false⟩, ⟨5, true, false, false⟩, ⟨6, true, false, false⟩, ⟨7, true, false, false⟩, ⟨8, true, false, false⟩, ⟨9, true, false, false⟩, ⟨10, true, false, false⟩, ⟨11, true, false, false⟩, ⟨12, false, true, false⟩, ⟨13, true, false, false⟩] rfl rfl (by kernel_rfl) ?_)
      | refine seqQ_normal ?_)
      refine j_kCallO rfl rfl rfl rfl ?_
      refine jcpO _ (o_l06Take p hv p.rules[k] (List.getElem_mem hkr) _ sh hN cs[k] hck ob cp) rfl (List.Perm.refl _) (LeL.refl _) rfl rfl (fun v h1 hR => ?_)
      obtain ⟨rfl, rfl⟩ := hR
      rw [← e]
      repeat' (first
      | (refine j_go ?_; first
        | refine j_op0 rfl rfl rfl rfl ?_ | (refine j_kBin rfl ?_; first | refine j_in rfl rfl ⟨by omega, by omega⟩ rfl rfl ?_))
      | refine j_nil ?_
      | (refine j_goO ?_; first
        | refine j_op0O rfl rfl rfl rfl ?_)
      | refine j_nilO ?_
      | (refine r_go ?_; first | refine run_region ?_)
      | refine seqQ_normal ?_ | refine blockQ_normal ?_)
      exact loopQ_next (k + 1) (by omega) (by omega) rfl ⟨rfl, rfl, (by rw [flat_length sh2, ← flat_length sh]; rfl), rfl, nx _, trivial⟩
    · have hke : k = p.rules.length := by omega
      subst hke
      repeat' (first
      | (refine j_go ?_; first
        | refine j_op0 rfl rfl rfl rfl ?_ | refine j_off rfl rfl rfl ?_ | (refine j_kLen rfl ?_; first | refine j_len rfl rfl rfl rfl rfl rfl ?_) | (refine j_kGuard rfl ?_; first | (refine (j_if rfl rfl rfl (fun hb => ?_) (fun hb => ?_)) <;> first | (exfalso; omega) | skip)))
      | refine j_nil ?_
      | (refine r_go ?_; first | refine run_seq ?_ | refine run_region ?_ | refine run_cond_f rfl ?_ | refine run_ret ?_ | refine run_exit ?_)
      | refine seqQ_normal ?_ | refine seqQ_exit ?_ | refine blockQ_eq ?_ | refine loopQ_exit ?_)
      exact endD_ret (h1 := [_]) rfl (vs := [_, _]) (.cons (.tmp rfl) (.cons (.tmp rfl) .nil)) (Le.refl _) ⟨ob, cp, _, Nat.le_refl _, fun _ => rfl, rfl, rfl⟩ (.inl rfl)
  · rw [dec_f hN]
    have hn : ¬ Nn (p.left s cs) := fun q => hN (tks_le hv hc hs (by omega) (Nat.le_refl _) q)
    repeat' (first
      | (refine j_go ?_; first
        | refine j_op0 rfl rfl rfl rfl ?_ | refine j_off rfl rfl rfl ?_ | (refine j_kLen rfl ?_; first | refine j_len rfl rfl rfl rfl rfl rfl ?_) | (refine j_kGuard rfl ?_; first | (refine (j_if rfl rfl rfl (fun hb => ?_) (fun hb => ?_)) <;> first | (exfalso; omega) | skip)))
      | refine j_nil ?_
      | (refine r_go ?_; first | refine run_seq ?_ | refine run_region ?_ | refine run_cond_f rfl ?_ | refine run_ret ?_ | refine run_exit ?_)
      | refine seqQ_normal ?_ | refine seqQ_exit ?_ | refine blockQ_eq ?_ | refine loopQ_exit ?_)
    all_goals exact endD_ret (h1 := [_]) rfl (vs := [_, _]) (.cons (.tmp rfl) (.cons (.tmp rfl) .nil)) (Le.refl _) ⟨ob, cp, k, by omega, fun q => absurd q hn, by rw [dec_f hn]; rfl, rfl⟩ (.inl rfl)

end Go.Proofs.Ytahjliejgjjfeaa

/-
  A step of a passing system: the reference's step. No condition.
-/
namespace Go.AI
open Go.RowKit
theorem Frz.ptr {hT : Heap} {b T room : Nat} {cs cs' : List A} (hm0 : (⟨some b, T, room, cs⟩ : Blk) ∈ hT) (hl : FrzL hT cs cs') : Frz hT (.op (some b) 0) (.ip cs') := fun F w v hm ho r => by
  have e := r.op_inv
  simp only [Option.map_some] at e
  rw [e]
  obtain ⟨vs, rest, hb, hr, hrm⟩ := ho.at (hm _ hm0)
  have hlt := ho.lt (mem_keys (hm _ hm0) rfl)
  have q := hl F w vs hm ho hr
  refine .ip cs' b 0 (fun j => vs.getD j undef) ⟨hlt, by simp [keys]⟩ (fun j hj => ?_) (fun j hj => ?_)
  · have hv : j < vs.length := by rw [q.1]; exact hj
    rw [Nat.zero_add, cell_of_vs hb _ hv]; simp [hv]
  · have hv : j < vs.length := by rw [q.1]; exact hj
    have := q.2 j hj hv
    simpa [hv] using this
end Go.AI
namespace Go.Proofs.Ytahjliejgjjfeaa
open Go.AI
set_option maxRecDepth 8000
set_option maxHeartbeats 1600000

theorem c_l00OwnE (l l' : List Int) (e : l = l') (hn : l'.length ≤ 1000000) : Gives Try.prog 115 [.sl (l.map Go.AI.encI)] (.sl (l'.map Go.AI.encI)) := by subst e; exact c_l00Own _ hn
def STs (x : Stock) (c : Int) : A → Heap → Prop := fun v h' => ∃ b cap, v = .tup [.agg [.os b x.cells.length cap, .sl (x.around.map Go.AI.encI)], .int c] ∧ h' = [⟨b, 25, cap * 1, (x.cells.map (encS Go.AI.encI)).flatten⟩]
theorem STs.frz {x : Stock} {c : Int} {v : A} {h1 : Heap} (q : STs x c v h1) : FrzF h1 v (.tup [.agg (encStock x), .int c]) := by
  obtain ⟨b, cap, rfl, rfl⟩ := q
  refine FrzF.tup2 ?_ (Clo.int _)
  intro F w v ho r
  obtain ⟨vs, rfl, rl⟩ := r.agg_inv
  obtain ⟨v1, us1, rfl, r1, rl1⟩ := rl.uncons
  obtain ⟨v2, us2, rfl, r2, rl2⟩ := rl1.uncons
  have p1 := FrzF.flat (g := encS Go.AI.encI) (ys := x.cells) (z := 1) rfl rfl (fun _ => rfl) rfl rfl F w v1 ho r1
  have p2 := r2.heap (List.sublist_cons_self _ F)
  have q := RelL.cons p1 (RelL.cons p2 (show RelL (Im w F) w [] us2 from ⟨rl2.1, fun j hj => absurd hj (Nat.not_lt_zero _)⟩))
  exact .agg _ _ q.1 q.2
theorem gvs_sh' {p : Passing} (hv : p.Ok) {cs : List Int} (hc : p.Cnts cs) {s : Stock} (hs : p.StockOk s) {k : Nat} (hk : k ≤ p.rules.length) : Sh (p.parents.length + 1) p.kinds.toNat (p.gvs cs (p.left s cs) k) 1000000000 := by
  have h8 := hv.1.2.2.2.2.1
  exact (gvs_sh hv hc (tks_sh hv hc (plc_sh hs) _ (Nat.le_refl _)) k hk).mono (by omega)
theorem row_eq {L : List (List Int)} {n K : Nat} {B : Int} (h : Sh n K L B) {k a : Nat} (hk : k < L.length) (ha : k * K = a) : (L.flatten.take (a + K)).drop a = L[k] := by
  rw [List.drop_take, show a + K - a = K by omega, ← ha]; exact flat_row h hk
theorem row_eq2 {L : List (List Int)} {n K : Nat} {B : Int} (h : Sh n K L B) {k a m : Nat} (hk : k < L.length) (ha : k * K = a) (hm : m = a + K) : (L.flatten.take m).drop a = L[k] := by subst hm; exact row_eq h hk ha
theorem stockOf_eq {n : Nat} {L : List (List Int)} (h : n < L.length) : stockOf n L = ⟨L.take n, L[n]⟩ := by unfold stockOf; rw [getD_get h]
theorem o_l06Step (p : Passing) (s : Stock) (cs : List Int) (hv : p.Ok) (hs : p.StockOk s) (hc : p.Cnts cs) : Does Try.prog 138 [.ip (encPassing p), .ip (encStock s), .sl (cs.map Go.AI.encI)] [] (STs (resPassStep p s cs) (codePassStep p s cs)) := by
  refine fn_of_runD tyOk ztOk mix Try.func138 rfl (by decide) Try.ntmps138 (fun w0 F => ?_)
  change Run _ _ _ _ _ F
  have k8 := hv.1.1
  have p4 := hv.1.2.1
  have h8 := hv.1.2.2.2.2.1
  have hcn := hc.2
  repeat' (first
      | (refine j_go ?_; first
        | refine j_op0 rfl rfl rfl rfl ?_ | refine j_alloc rfl rfl rfl rfl rfl (fun _ => ?_))
      | refine j_nil ?_
      | (refine r_go ?_; first | refine run_seq ?_ | refine run_region ?_)
      | refine seqQ_normal ?_)
  rename_i r6
  refine j_kCall rfl rfl rfl rfl ?_
  refine jcp (⟨some r6, 59, 2, [.os none 0 0, .os none 0 0]⟩ :: F) (o_l06Left p s cs hv hs hc) (List.Perm.refl _) (LeL.refl _) rfl rfl (fun v h1 hR => ?_)
  obtain ⟨ob, cp, j, hj1, hj2, rfl, rfl⟩ := hR
  by_cases hN : Nn (p.left s cs)
  · have hj := hj2 hN
    subst hj
    rw [dec_t hN]
    repeat' (first
      | (refine j_go ?_; first
        | refine j_op0 rfl rfl rfl rfl ?_)
      | refine j_nil ?_
      | (refine r_go ?_; first | refine run_seq ?_ | refine run_region ?_ | refine run_cond_f rfl ?_ | refine run_block ?_ | refine run_skip ?_)
      | refine seqQ_normal ?_)
    refine run_loop (fun k : Nat => [(0, .ip (encPassing p)), (2, .sl (cs.map Go.AI.encI)), (6, .op (some r6) 0), (8, .os ob (p.gvs cs (p.left s cs) k).flatten.length cp), (10, .int (k : Int))])
      (fun k => ⟨ob, 2, cp * 1, ((p.gvs cs (p.left s cs) k).flatten.map Go.AI.encI).flatten⟩ :: ⟨some r6, 59, 2, [.os none 0 0, .os none 0 0]⟩ :: F) (fun k => k ≤ cs.length) (fun k => cs.length - k) 0 ⟨rfl, rfl, rfl, rfl, rfl, trivial⟩ rfl (Nat.zero_le _) (fun k kl => ?_)
    have sh := gvs_sh' hv hc hs (k := k) (by omega)
    by_cases hk : k < cs.length
    · have hkr : k < p.rules.length := by omega
      have hck := hc.1 _ (List.getElem_mem hk)
      have sh2 := gvs_sh' hv hc hs (k := k + 1) (by omega)
      have e := gvs_succ (p := p) (cs := cs) (L := p.left s cs) hkr hk
      repeat' (first
      | (refine j_go ?_; first
        | refine j_op0 rfl rfl rfl rfl ?_ | (refine j_kLen rfl ?_; first | refine j_len rfl rfl rfl rfl rfl rfl ?_))
      | refine j_nil ?_
      | (refine j_goO ?_; first
        | refine j_op0O rfl rfl rfl rfl ?_ | (refine j_kIdxO rfl ?_; first | refine j_idxO rfl rfl rfl rfl rfl (by omega) rfl rfl rfl ?_))
      | (refine r_go ?_; first | refine run_seq ?_ | refine run_region ?_ | (refine (run_if rfl (fun hb => ?_) (fun hb => ?_)) <;> first | (exfalso; omega) | skip) | refine run_block ?_ | refine run_skip ?_ | refine run_opn 7 [⟨0, true, false, false⟩, ⟨1, true, false, false⟩, ⟨2, true, false, false⟩, ⟨3, true, false, false⟩, ⟨4, true, false, false⟩, ⟨5, true, false, false⟩, ⟨6, true, false, false⟩, ⟨7, true, false, false⟩, ⟨8, true, false, false⟩, ⟨9, true, false, false⟩, ⟨10, true, false, false⟩, ⟨11, true, false, false⟩, ⟨12, false, true, false⟩] rfl rfl (by kernel_rfl) ?_)
      | refine seqQ_normal ?_)
      refine j_kCallO rfl rfl rfl rfl ?_
      refine jcpO (⟨some r6, 59, 2, [.os none 0 0, .os none 0 0]⟩ :: F) (o_l06Give p hv p.rules[k] (List.getElem_mem hkr) _ sh cs[k] hck ob cp) rfl (List.Perm.refl _) (LeL.refl _) rfl rfl (fun v h1 hR => ?_)
      subst hR
      rw [← e]
      repeat' (first
      | (refine j_go ?_; first
        | refine j_op0 rfl rfl rfl rfl ?_ | (refine j_kBin rfl ?_; first | refine j_in rfl rfl ⟨by omega, by omega⟩ rfl rfl ?_))
      | refine j_nil ?_
      | refine j_nilO ?_
      | (refine r_go ?_; first | refine run_region ?_)
      | refine seqQ_normal ?_ | refine blockQ_normal ?_)
      exact loopQ_next (k + 1) (by omega) (by omega) rfl ⟨rfl, rfl, rfl, (by rw [flat_length sh2, ← flat_length sh]; rfl), nx _, trivial⟩
    have hke : k = p.rules.length := by omega
    subst hke
    have eG : p.gvs cs (p.left s cs) p.rules.length = p.chs cs (plc s) p.rules.length := (chs_eq p cs (plc s) _).symm
    have eA : p.after s cs = stockOf p.parents.length (p.gvs cs (p.left s cs) p.rules.length) := by rw [eG]; rfl
    generalize p.gvs cs (p.left s cs) p.rules.length = G at sh eA
    have gl := sh.n
    have fl := flat_length sh
    rw [stockOf_eq (by omega)] at eA
    obtain ⟨K, hK⟩ : ∃ K : Nat, p.kinds.toNat = K := ⟨_, rfl⟩
    have hK2 : p.kinds = (K : Int) := by omega
    rw [hK] at sh fl
    have g40 : G.flatten.length ≤ 40 := by rw [fl]; exact Nat.le_trans (Nat.mul_le_mul (show p.parents.length + 1 ≤ 5 by omega) (show K ≤ 8 by omega)) (by decide)
    repeat' (first
      | (refine j_go ?_; first
        | refine j_op0 rfl rfl rfl rfl ?_ | (refine j_kLen rfl ?_; first | refine j_len rfl rfl rfl rfl rfl rfl ?_) | (refine j_kStore rfl ?_; first | refine j_storeN 0 rfl rfl rfl rfl rfl rfl rfl rfl rfl rfl rfl ?_) | refine j_build rfl rfl rfl rfl rfl rfl rfl ?_ | refine j_alloc rfl rfl rfl rfl rfl (fun _ => ?_))
      | refine j_nil ?_
      | (refine r_go ?_; first | refine run_seq ?_ | refine run_region ?_ | (refine (run_if rfl (fun hb => ?_) (fun hb => ?_)) <;> first | (exfalso; omega) | skip) | refine run_block ?_ | refine run_exit ?_)
      | refine seqQ_normal ?_ | refine seqQ_exit ?_ | refine blockQ_eq ?_ | refine loopQ_exit ?_)
    rename_i st
    refine run_view (view_freeze (g := Go.AI.encI) (z := 1) (ys := G.flatten) 1 8 rfl rfl rfl (fun _ => rfl) rfl rfl) ?_
    refine run_view (view_none 25 0 rfl) ?_
    refine run_loop (fun x : Nat × Option Nat × Nat => [(0, .ip (encPassing p)), (6, .op (some r6) 0), (8, .sl (G.flatten.map Go.AI.encI)), (11, .op (some st) 0), (12, .int (x.1 : Int))])
      (fun x => ⟨x.2.1, 25, x.2.2 * 1, ((G.take x.1).map (encS Go.AI.encI)).flatten⟩ :: ⟨some st, 59, 2, [.os x.2.1 (G.take x.1).length x.2.2, .os none 0 0]⟩ :: ⟨some r6, 59, 2, [.os none 0 0, .os none 0 0]⟩ :: F) (fun x => x.1 ≤ p.parents.length) (fun x => p.parents.length - x.1) (0, none, 0) ⟨rfl, rfl, rfl, rfl, rfl, trivial⟩ rfl (Nat.zero_le _) (fun ⟨k, oc, cc⟩ kl => ?_)
    dsimp only at kl ⊢
    have tl : (G.take k).length = k := by rw [List.length_take]; omega
    obtain ⟨a, ha⟩ : ∃ a, k * K = a := ⟨_, rfl⟩
    have m1 : (k : Int) * p.kinds = (a : Int) := by rw [hK2, ← ha]; push_cast; rfl
    have m2 : ((k : Int) + 1) * p.kinds = (a : Int) + (K : Int) := by rw [Int.add_mul, m1, Int.one_mul, hK2]
    have hkg : k < G.length := by omega
    have hal : a + K ≤ G.flatten.length := by
      rw [fl, ← ha]
      have : (k + 1) * K ≤ (p.parents.length + 1) * K := Nat.mul_le_mul_right K (by omega)
      rw [Nat.add_mul, Nat.one_mul] at this; exact this
    have rl : G[k].length = K := (sh.b _ (List.getElem_mem hkg)).1
    by_cases hk : k < p.parents.length
    · repeat' (first
      | (refine j_go ?_; first
        | refine j_op0 rfl rfl rfl rfl ?_ | (refine j_kLen rfl ?_; first | refine j_len rfl rfl rfl rfl rfl rfl ?_))
      | refine j_nil ?_
      | (refine j_goO ?_; first
        | refine j_op0O rfl rfl rfl rfl ?_ | (refine j_kBinO rfl ?_; first | refine j_inO rfl rfl ⟨by omega, by omega⟩ rfl rfl ?_) | (refine j_kCallO rfl rfl rfl rfl ?_; first | refine jcO (c_l00OwnE _ G[k] (by rw [m1, m2]; exact row_eq sh hkg ha) (by omega)) (LeL.refl _) rfl rfl ?_) | (refine j_kLoadO rfl ?_; first | refine j_mloadO 1 rfl rfl rfl rfl rfl rfl rfl rfl ?_) | (refine j_kBslO rfl ?_; first | refine j_bslO rfl rfl rfl rfl rfl rfl rfl rfl rfl rfl rfl ?_) | (refine j_kSliceO rfl ?_; first | refine j_sliceO rfl rfl rfl rfl rfl rfl (by omega) (fun _ => rfl) rfl rfl ?_))
      | (refine r_go ?_; first | refine run_seq ?_ | refine run_region ?_ | (refine (run_if rfl (fun hb => ?_) (fun hb => ?_)) <;> first | (exfalso; omega) | skip) | refine run_block ?_ | refine run_skip ?_ | refine run_opn 12 [⟨0, true, false, false⟩, ⟨1, true, false, false⟩, ⟨2, true, false, false⟩, ⟨3, true, false, false⟩, ⟨4, true, false, false⟩, ⟨5, true, false, false⟩, ⟨6, true, false, false⟩, ⟨7, true, false, false⟩, ⟨8, true, false, false⟩, ⟨9, true, false, false⟩, ⟨10, true, false, false⟩, ⟨11, true, false, false⟩, ⟨12, true, false, false⟩, ⟨13, true, false, false⟩, ⟨14, true, false, false⟩, ⟨15, true, false, false⟩, ⟨16, true, false, false⟩, ⟨17, true, false, false⟩, ⟨18, true, false, false⟩, ⟨19, false, true, false⟩, ⟨20, true, false, false⟩, ⟨21, false, true, false⟩] rfl rfl (by kernel_rfl) ?_)
      | refine seqQ_normal ?_)
      refine j_appendO 0 (g := encS Go.AI.encI) (ys := G.take k) [G[k]] rfl (fun _ hk => nomatch hk) rfl rfl rfl rfl rfl rfl rfl rfl rfl rfl rfl rfl (fun _ => rfl) (fun _ hy => by simp only [List.mem_singleton] at hy; subst hy; rfl) ⟨by rw [tl]; simp only [List.length_cons, List.length_nil]; omega, by rw [tl]; simp only [List.length_cons, List.length_nil]; omega⟩ rfl rfl (fun oc' cc' => ?_)
      rw [← List.take_succ_eq_append_getElem hkg]
      repeat' (first
      | (refine j_go ?_; first
        | refine j_op0 rfl rfl rfl rfl ?_ | (refine j_kBin rfl ?_; first | refine j_in rfl rfl ⟨by omega, by omega⟩ rfl rfl ?_))
      | refine j_nil ?_
      | (refine j_goO ?_; first
        | refine j_op0O rfl rfl rfl rfl ?_ | (refine j_kStoreO rfl ?_; first | refine j_storeO 1 rfl rfl rfl rfl rfl rfl rfl rfl rfl rfl rfl rfl (by first | (intro _ hk; exact absurd hk List.not_mem_nil) | (intro k hk; simp at hk ⊢; try simp [hk])) ?_))
      | refine j_nilO ?_
      | (refine r_go ?_; first | refine run_region ?_)
      | refine seqQ_normal ?_ | refine blockQ_normal ?_)
      exact loopQ_next (k + 1, oc', cc') (by dsimp only; omega) (by dsimp only; omega) rfl ⟨rfl, rfl, rfl, rfl, nx _, trivial⟩
    · have hke : k = p.parents.length := by omega
      subst hke
      have hm : (((G.flatten.map Go.AI.encI).length : Nat) : Int).toNat = a + K := by
        rw [List.length_map, Int.toNat_natCast, fl, Nat.add_mul, Nat.one_mul, ha]
      repeat' (first
      | (refine j_go ?_; first
        | refine j_op0 rfl rfl rfl rfl ?_ | (refine j_kLen rfl ?_; first | refine j_len rfl rfl rfl rfl rfl rfl ?_))
      | refine j_nil ?_
      | (refine j_goO ?_; first
        | refine j_op0O rfl rfl rfl rfl ?_ | (refine j_kBinO rfl ?_; first | refine j_inO rfl rfl ⟨by omega, by omega⟩ rfl rfl ?_) | (refine j_kLenO rfl ?_; first | refine j_lenO rfl rfl rfl rfl rfl rfl ?_) | (refine j_kCallO rfl rfl rfl rfl ?_; first | refine jcO (c_l00OwnE _ G[p.parents.length] (by rw [m1]; exact row_eq2 sh hkg ha hm) (by omega)) (LeL.refl _) rfl rfl ?_) | (refine j_kStoreO rfl ?_; first | refine j_storeO 1 rfl rfl rfl rfl rfl rfl rfl rfl rfl rfl rfl rfl (by first | (intro _ hk; exact absurd hk List.not_mem_nil) | (intro k hk; simp at hk ⊢; try simp [hk])) ?_) | (refine j_kSliceO rfl ?_; first | refine j_sliceO rfl rfl rfl rfl rfl rfl (by omega) (fun _ => rfl) rfl rfl ?_))
      | refine j_nilO ?_
      | (refine r_go ?_; first | refine run_seq ?_ | refine run_region ?_ | (refine (run_if rfl (fun hb => ?_) (fun hb => ?_)) <;> first | (exfalso; omega) | skip) | refine run_exit ?_ | refine run_opn 13 [⟨0, true, false, false⟩, ⟨1, true, false, false⟩, ⟨2, true, false, false⟩, ⟨3, true, false, false⟩, ⟨4, true, false, false⟩, ⟨5, true, false, false⟩, ⟨6, true, false, false⟩, ⟨7, true, false, false⟩, ⟨8, true, false, false⟩, ⟨9, true, false, false⟩, ⟨10, true, false, false⟩, ⟨11, true, false, false⟩, ⟨12, true, false, false⟩, ⟨13, true, false, false⟩, ⟨14, false, true, false⟩] rfl rfl (by kernel_rfl) ?_)
      | refine seqQ_normal ?_ | refine seqQ_exit ?_ | refine blockQ_eq ?_ | refine loopQ_exit ?_)
      refine j_kCall rfl rfl rfl rfl ?_
      refine jctq [⟨oc, 25, cc * 1, ((G.take p.parents.length).map (encS Go.AI.encI)).flatten⟩, ⟨some st, 59, 2, [.os oc (G.take p.parents.length).length cc, .sl (G[p.parents.length].map Go.AI.encI)]⟩] (c_l06Stock p ⟨G.take p.parents.length, G[p.parents.length]⟩ hv) (Clo.raw _) (fun k hk => by simp only [List.mem_cons, List.not_mem_nil, or_false] at hk; rcases hk with rfl | rfl <;> simp)
        (FrzL.cons (Frz.same _ _) (FrzL.cons (Frz.ptr (b := st) (T := 59) (room := 2) (List.mem_cons_of_mem _ (List.mem_cons_self ..)) (FrzL.cons (Frz.mono (fun _ hk => by simp only [List.mem_singleton] at hk; subst hk; exact List.mem_cons_self ..) (Frz.flat (g := encS Go.AI.encI) (ys := G.take p.parents.length) (z := 1) rfl rfl (fun _ => rfl) rfl rfl)) (FrzL.cons (Frz.same _ _) (FrzL.nil _)))) (FrzL.nil _))) rfl rfl ?_
      repeat' (first
      | (refine j_go ?_; first
        | refine j_op0 rfl rfl rfl rfl ?_ | (refine j_kLoad rfl ?_; first | refine j_mload 1 rfl rfl rfl rfl rfl rfl rfl ?_) | (refine j_kStore rfl ?_; first | refine j_storeN 2 rfl rfl rfl rfl rfl rfl rfl rfl rfl rfl rfl ?_) | refine j_build rfl rfl rfl rfl rfl rfl rfl ?_)
      | refine j_nil ?_
      | (refine r_go ?_; first | refine run_seq ?_ | refine run_region ?_ | (refine (run_ifn rfl (fun hb => ?_) (fun hb => ?_)) <;> first | (exfalso; omega) | skip) | refine run_ret ?_ | refine run_skip ?_)
      | refine seqQ_normal ?_ | refine seqQ_ret ?_)
      · have hn : ¬ p.StockOk (p.after s cs) := by rw [eA]; exact hb
        rw [(ps_f3 hv hs hc hN hn).1, (ps_f3 hv hs hc hN hn).2]
        refine endD_view (view_freezeP 2 6 rfl rfl) ?_
        refine endD_view (view_erase 1) ?_
        refine endD_view (view_erase 0) ?_
        refine endD_view (view_none 25 0 rfl) ?_
        exact endD_ret (h1 := [_]) rfl (.cons (.cellI rfl rfl) (.cons (.tmp rfl) .nil)) (Le.tup2 (Le.agg (LeL.cons (Le.refl _) (LeL.cons (Le.nil 0) LeL.nil)))) ⟨none, 0, rfl, rfl⟩ (.inl rfl)
      · have hn : p.StockOk (p.after s cs) := by rw [eA]; assumption
        rw [(ps_t hv hs hc hN hn).1, (ps_t hv hs hc hN hn).2, eA]
        refine endD_view (view_freezeP 2 6 rfl rfl) ?_
        refine endD_view (view_erase 1) ?_
        exact endD_ret (h1 := [_]) rfl (.cons (.cellI rfl rfl) (.cons (.tmp rfl) .nil)) (Le.refl _) ⟨oc, cc, rfl, rfl⟩ (.inl rfl)
  · rw [dec_f hN]
    rw [(ps_f4 hv hs hc hN).1, (ps_f4 hv hs hc hN).2]
    repeat' (first
      | (refine j_go ?_; first
        | refine j_op0 rfl rfl rfl rfl ?_ | (refine j_kStore rfl ?_; first | refine j_storeN 1 rfl rfl rfl rfl rfl rfl rfl rfl rfl rfl rfl ?_) | refine j_build rfl rfl rfl rfl rfl rfl rfl ?_)
      | refine j_nil ?_
      | (refine r_go ?_; first | refine run_seq ?_ | refine run_region ?_ | refine run_cond_t rfl ?_ | refine run_ret ?_)
      | refine seqQ_normal ?_ | refine seqQ_ret ?_)
    refine endD_view (view_freezeP 1 6 rfl rfl) ?_
    refine endD_view (view_erase 0) ?_
    refine endD_view (view_none 25 0 rfl) ?_
    exact endD_ret (h1 := [_]) rfl (.cons (.cellI rfl rfl) (.cons (.tmp rfl) .nil)) (Le.tup2 (Le.agg (LeL.cons (Le.refl _) (LeL.cons (Le.nil 0) LeL.nil)))) ⟨none, 0, rfl, rfl⟩ (.inl rfl)
theorem c_l06Step (p : Passing) (s : Stock) (cs : List Int) (hv : p.Ok) (hs : p.StockOk s) (hc : p.Cnts cs) : Gives Try.prog 138 [.ip (encPassing p), .ip (encStock s), .sl (cs.map Go.AI.encI)] (.tup [.agg (encStock (resPassStep p s cs)), .int (codePassStep p s cs)]) := (o_l06Step p s cs hv hs hc).frozen fun _ _ q => q.frz

theorem c_sPassStep (p : Passing) (s : Stock) (cs : List Int) : Gives Try.prog 54 [.agg (encPassing p), .agg (encStock s), .sl (cs.map Go.AI.encI)] (.tup [.agg (encStock (resPassStep p s cs)), .int (codePassStep p s cs)]) := by
  refine fn_of_run tyOk ztOk mix Try.func54 rfl (by decide) Try.ntmps54 (fun w0 h => ?_)
  by_cases hv : p.Ok
  · by_cases hs : p.StockOk s
    · have cC := c_l06Code p s
      rw [cd2_o hv hs] at cC
      by_cases hc : p.Cnts cs
      · repeat' (first
      | (refine j_go ?_; first
        | refine j_op0 rfl rfl rfl rfl ?_ | (refine j_kCall rfl rfl rfl rfl ?_; first | refine jc (cC) (LeL.refl _) rfl rfl ?_ | refine jc (c_l06Counts _ _) (LeL.refl _) rfl rfl ?_ | refine jc (c_l06Step _ _ _ hv hs hc) (LeL.refl _) rfl rfl ?_) | (refine j_kStore rfl ?_; first | refine j_storeN 0 rfl rfl rfl rfl rfl rfl rfl rfl rfl rfl rfl ?_) | refine j_box rfl rfl rfl rfl rfl rfl ?_ | refine j_build rfl rfl rfl rfl rfl rfl rfl ?_ | refine j_alloc rfl rfl rfl rfl rfl (fun _ => ?_))
      | refine j_nil ?_
      | (refine r_go ?_; first | refine run_seq ?_ | refine run_region ?_ | (refine (run_ifn rfl (fun hb => ?_) (fun hb => ?_)) <;> first | (exfalso; omega) | skip) | refine run_ret ?_ | refine run_skip ?_)
      | refine seqQ_normal ?_ | refine seqQ_ret ?_)
        all_goals first
          | exact absurd hc (by assumption)
          | exact absurd rfl (by assumption)
          | exact end_view (view_freezeP 0 6 rfl rfl) (end_le (List.Sublist.refl _) (vs := [_, _]) (.cons (.cellI rfl rfl) (.cons (.tmp rfl) .nil)) (Le.refl _) (.inl rfl))
          | trace_state
      · repeat' (first
      | (refine j_go ?_; first
        | refine j_op0 rfl rfl rfl rfl ?_ | (refine j_kCall rfl rfl rfl rfl ?_; first | refine jc (cC) (LeL.refl _) rfl rfl ?_ | refine jc (c_l06Counts _ _) (LeL.refl _) rfl rfl ?_) | (refine j_kStore rfl ?_; first | refine j_storeN 0 rfl rfl rfl rfl rfl rfl rfl rfl rfl rfl rfl ?_) | refine j_box rfl rfl rfl rfl rfl rfl ?_ | refine j_build rfl rfl rfl rfl rfl rfl rfl ?_ | refine j_alloc rfl rfl rfl rfl rfl (fun _ => ?_))
      | refine j_nil ?_
      | (refine r_go ?_; first | refine run_seq ?_ | refine run_region ?_ | (refine (run_ifn rfl (fun hb => ?_) (fun hb => ?_)) <;> first | (exfalso; omega) | skip) | refine run_ret ?_ | refine run_skip ?_)
      | refine seqQ_normal ?_ | refine seqQ_ret ?_)
        all_goals first
          | exact absurd (by assumption) hc
          | exact absurd rfl (by assumption)
          | exact end_view (view_freezeP 0 6 rfl rfl) (end_le (List.Sublist.refl _) (vs := [_, _]) (.cons (.cellI rfl rfl) (.cons (.tmp rfl) .nil)) (by rw [(ps_f2 hv (fun q => hc q.2)).1, (ps_f2 hv (fun q => hc q.2)).2]; exact Le.tup2 (Le.agg (LeL.cons (Le.nil 0) (LeL.cons (Le.nil 0) LeL.nil)))) (.inl rfl))
          | trace_state
    · have cC := c_l06Code p s
      rw [cd2_t hv hs] at cC
      repeat' (first
      | (refine j_go ?_; first
        | refine j_op0 rfl rfl rfl rfl ?_ | (refine j_kCall rfl rfl rfl rfl ?_; first | refine jc (cC) (LeL.refl _) rfl rfl ?_) | (refine j_kStore rfl ?_; first | refine j_storeN 0 rfl rfl rfl rfl rfl rfl rfl rfl rfl rfl rfl ?_) | refine j_box rfl rfl rfl rfl rfl rfl ?_ | refine j_build rfl rfl rfl rfl rfl rfl rfl ?_ | refine j_alloc rfl rfl rfl rfl rfl (fun _ => ?_))
      | refine j_nil ?_
      | (refine r_go ?_; first | refine run_seq ?_ | refine run_region ?_ | (refine (run_ifn rfl (fun hb => ?_) (fun hb => ?_)) <;> first | (exfalso; omega) | skip) | refine run_ret ?_)
      | refine seqQ_normal ?_ | refine seqQ_ret ?_)
      all_goals first | exact end_view (view_freezeP 0 6 rfl rfl) (end_le (List.Sublist.refl _) (vs := [_, _]) (.cons (.cellI rfl rfl) (.cons (.tmp rfl) .nil)) (by rw [(ps_f2 hv (fun q => hs q.1)).1, (ps_f2 hv (fun q => hs q.1)).2]; exact Le.tup2 (Le.agg (LeL.cons (Le.nil 0) (LeL.cons (Le.nil 0) LeL.nil)))) (.inl rfl)) | (exfalso; omega) | trace_state
  · have cC := c_l06Code p s
    rw [cd2_f hv] at cC
    repeat' (first
      | (refine j_go ?_; first
        | refine j_op0 rfl rfl rfl rfl ?_ | (refine j_kCall rfl rfl rfl rfl ?_; first | refine jc (cC) (LeL.refl _) rfl rfl ?_) | (refine j_kStore rfl ?_; first | refine j_storeN 0 rfl rfl rfl rfl rfl rfl rfl rfl rfl rfl rfl ?_) | refine j_box rfl rfl rfl rfl rfl rfl ?_ | refine j_build rfl rfl rfl rfl rfl rfl rfl ?_ | refine j_alloc rfl rfl rfl rfl rfl (fun _ => ?_))
      | refine j_nil ?_
      | (refine r_go ?_; first | refine run_seq ?_ | refine run_region ?_ | (refine (run_ifn rfl (fun hb => ?_) (fun hb => ?_)) <;> first | (exfalso; omega) | skip) | refine run_ret ?_)
      | refine seqQ_normal ?_ | refine seqQ_ret ?_)
    all_goals first | exact end_view (view_freezeP 0 6 rfl rfl) (end_le (List.Sublist.refl _) (vs := [_, _]) (.cons (.cellI rfl rfl) (.cons (.tmp rfl) .nil)) (by rw [(ps_f1 hv).1, (ps_f1 hv).2]; exact Le.tup2 (Le.agg (LeL.cons (Le.nil 0) (LeL.cons (Le.nil 0) LeL.nil)))) (.inl rfl)) | (exfalso; omega) | trace_state

end Go.Proofs.Ytahjliejgjjfeaa
