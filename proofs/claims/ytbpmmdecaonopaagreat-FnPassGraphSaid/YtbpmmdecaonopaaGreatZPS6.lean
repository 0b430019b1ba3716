/-
  A step of a passing system: what is taken and given, in memory of the call's own; the reference's side. No condition.
-/
import Derived.Test.YtbpmmdecaonopaaGreatZS6b
import Derived.Test.YtbpmmdecaonopaaGreatZS5f
import Derived.Test.YtbpmmdecaonopaaGreatZG6
namespace Go.Proofs.YtbpmmdecaonopaaGreat
open Go.AI
set_option maxRecDepth 8000
set_option maxHeartbeats 1600000

theorem only_true {g : Nat → Bool} {b : List Int} (h : ∀ k, g k = true) : only g b = b := by
  apply List.ext_getElem only_len
  intro k h1 h2
  simp [only, h]
/-- The stock of all plc. -/
def stockOf (n : Nat) (L : List (List Int)) : Stock := ⟨L.take n, L.getD n []⟩
def Passing.left (p : Passing) (s : Stock) (cs : List Int) : List (List Int) := p.tks cs (plc s) p.rules.length
def Passing.after (p : Passing) (s : Stock) (cs : List Int) : Stock := stockOf p.parents.length (p.chs cs (plc s) p.rules.length)
open Classical in
noncomputable def resPassStep (p : Passing) (s : Stock) (cs : List Int) : Stock := if (p.Ok ∧ p.StockOk s) ∧ p.Cnts cs ∧ Nn (p.left s cs) ∧ p.StockOk (p.after s cs) then p.after s cs else ⟨[], []⟩
open Classical in
noncomputable def codePassStep (p : Passing) (s : Stock) (cs : List Int) : Int := if p.Ok then if p.StockOk s ∧ p.Cnts cs then if Nn (p.left s cs) then if p.StockOk (p.after s cs) then 0 else 3 else 4 else 2 else 1
theorem ps_t {p : Passing} {s : Stock} {cs : List Int} (h1 : p.Ok) (h2 : p.StockOk s) (h3 : p.Cnts cs) (h4 : Nn (p.left s cs)) (h5 : p.StockOk (p.after s cs)) : resPassStep p s cs = p.after s cs ∧ codePassStep p s cs = 0 := by
  unfold resPassStep codePassStep
  rw [if_pos ⟨⟨h1, h2⟩, h3, h4, h5⟩, if_pos h1, if_pos ⟨h2, h3⟩, if_pos h4, if_pos h5]; exact ⟨rfl, rfl⟩
theorem ps_f1 {p : Passing} {s : Stock} {cs : List Int} (h1 : ¬ p.Ok) : resPassStep p s cs = ⟨[], []⟩ ∧ codePassStep p s cs = 1 := by
  unfold resPassStep codePassStep
  rw [if_neg (fun q => h1 q.1.1), if_neg h1]; exact ⟨rfl, rfl⟩
theorem ps_f2 {p : Passing} {s : Stock} {cs : List Int} (h1 : p.Ok) (h2 : ¬ (p.StockOk s ∧ p.Cnts cs)) : resPassStep p s cs = ⟨[], []⟩ ∧ codePassStep p s cs = 2 := by
  unfold resPassStep codePassStep
  rw [if_neg (fun q => h2 ⟨q.1.2, q.2.1⟩), if_pos h1, if_neg h2]; exact ⟨rfl, rfl⟩
theorem ps_f4 {p : Passing} {s : Stock} {cs : List Int} (h1 : p.Ok) (h2 : p.StockOk s) (h3 : p.Cnts cs) (h4 : ¬ Nn (p.left s cs)) : resPassStep p s cs = ⟨[], []⟩ ∧ codePassStep p s cs = 4 := by
  unfold resPassStep codePassStep
  rw [if_neg (fun q => h4 q.2.2.1), if_pos h1, if_pos ⟨h2, h3⟩, if_neg h4]; exact ⟨rfl, rfl⟩
theorem ps_f3 {p : Passing} {s : Stock} {cs : List Int} (h1 : p.Ok) (h2 : p.StockOk s) (h3 : p.Cnts cs) (h4 : Nn (p.left s cs)) (h5 : ¬ p.StockOk (p.after s cs)) : resPassStep p s cs = ⟨[], []⟩ ∧ codePassStep p s cs = 3 := by
  unfold resPassStep codePassStep
  rw [if_neg (fun q => h5 q.2.2.2), if_pos h1, if_pos ⟨h2, h3⟩, if_pos h4, if_neg h5]; exact ⟨rfl, rfl⟩

theorem c_l06Code (p : Passing) (s : Stock) : Gives Tryz.prog 57 [.ip (encPassing p), .ip (encStock s)] (.int (cd2 p.Ok (p.StockOk s))) := by
  refine fn_of_run tyOk ztOk mix Tryz.func57 rfl (by decide) Tryz.ntmps57 (fun w0 h => ?_)
  repeat' (first
      | (refine j_go ?_; first
        | refine j_op0 rfl rfl rfl rfl ?_ | (refine j_kCall rfl rfl rfl rfl ?_; first | refine jc (c_l06Ok _) (LeL.refl _) rfl rfl ?_))
      | refine j_nil ?_
      | (refine r_go ?_; first | refine run_seq ?_ | refine run_region ?_ | (refine (run_ifn rfl (fun hb => ?_) (fun hb => ?_)) <;> first | (exfalso; omega) | skip) | refine run_ret ?_ | refine run_skip ?_)
      | refine seqQ_normal ?_ | refine seqQ_ret ?_)
  · exact end1 rfl (List.Sublist.refl _) (ai (cd2_f hb).symm) (.inl rfl)
  · have hv := hb
    repeat' (first
      | (refine j_go ?_; first
        | refine j_op0 rfl rfl rfl rfl ?_ | (refine j_kCall rfl rfl rfl rfl ?_; first | refine jc (c_l06Stock _ _ hv) (LeL.refl _) rfl rfl ?_))
      | refine j_nil ?_
      | (refine r_go ?_; first | refine run_seq ?_ | refine run_region ?_ | (refine (run_ifn rfl (fun hb => ?_) (fun hb => ?_)) <;> first | (exfalso; omega) | skip) | refine run_ret ?_ | refine run_skip ?_)
      | refine seqQ_normal ?_ | refine seqQ_ret ?_)
    · exact end1 rfl (List.Sublist.refl _) (ai (cd2_t hv hb).symm) (.inl rfl)
    · exact end1 rfl (List.Sublist.refl _) (ai (cd2_o hv hb).symm) (.inl rfl)
theorem c_l06At (p : Passing) (c : Int) (hv : p.Frame) (h0 : 0 ≤ c ∧ c.toNat < p.parents.length) : Gives Tryz.prog 109 [.ip (encPassing p), .int c] (.int ((p.up c * p.kinds.toNat : Nat) : Int)) := by
  refine fn_of_run tyOk ztOk mix Tryz.func109 rfl (by decide) Tryz.ntmps109 (fun w0 h => ?_)
  have k8 := hv.1
  have p4 := hv.2.1
  have hK : p.kinds = (p.kinds.toNat : Int) := by omega
  by_cases e : c = 0
  · have e0 : p.parents[c.toNat] = -1 := by
      have := hv.2.2.1
      rw [List.getElem?_eq_getElem (by omega)] at this
      subst e
      simpa using this
    have eu : ((p.up c * p.kinds.toNat : Nat) : Int) = (p.parents.length : Int) * p.kinds := by unfold Passing.up; rw [if_pos e]; push_cast; rw [← hK]
    have bd : (p.parents.length : Int) * p.kinds ≤ 32 := by
      have h1 := Int.mul_le_mul_of_nonneg_right (show (p.parents.length : Int) ≤ 4 by omega) (show 0 ≤ p.kinds by omega)
      omega
    have b0 : 0 ≤ (p.parents.length : Int) * p.kinds := Int.mul_nonneg (by omega) (by omega)
    repeat' (first
      | (refine j_go ?_; first
        | refine j_op0 rfl rfl rfl rfl ?_ | (refine j_kIdx rfl ?_; first | refine j_idxz rfl rfl rfl rfl rfl ⟨by omega, by omega⟩ rfl rfl rfl ?_) | (refine j_kBin rfl ?_; first | refine j_in rfl rfl ⟨by omega, by omega⟩ rfl rfl ?_) | (refine j_kLen rfl ?_; first | refine j_len rfl rfl rfl rfl rfl rfl ?_))
      | refine j_nil ?_
      | (refine r_go ?_; first | refine run_seq ?_ | refine run_region ?_ | (refine (run_if rfl (fun hb => ?_) (fun hb => ?_)) <;> first | (exfalso; omega) | skip) | refine run_ret ?_ | refine run_regionD (by kernel_rfl) ?_)
      | refine seqQ_normal ?_ | refine seqQ_ret ?_)
    all_goals first | exact end1 rfl (List.Sublist.refl _) (ai eu.symm) (.inl rfl) | (exfalso; omega) | trace_state
  · have q := hv.par (c := c) (by omega) h0.2
    have eu : ((p.up c * p.kinds.toNat : Nat) : Int) = p.parents[c.toNat] * p.kinds := by
      unfold Passing.up; rw [if_neg e, q.1]; push_cast; rw [← hK]; congr 1; omega
    have bd : p.parents[c.toNat] * p.kinds ≤ 32 := by
      have h1 := Int.mul_le_mul_of_nonneg_right (show p.parents[c.toNat] ≤ 4 by omega) (show 0 ≤ p.kinds by omega)
      omega
    have b0 : 0 ≤ p.parents[c.toNat] * p.kinds := Int.mul_nonneg (by omega) (by omega)
    repeat' (first
      | (refine j_go ?_; first
        | refine j_op0 rfl rfl rfl rfl ?_ | (refine j_kIdx rfl ?_; first | refine j_idxz rfl rfl rfl rfl rfl ⟨by omega, by omega⟩ rfl rfl rfl ?_) | (refine j_kBin rfl ?_; first | refine j_in rfl rfl ⟨by omega, by omega⟩ rfl rfl ?_))
      | refine j_nil ?_
      | (refine r_go ?_; first | refine run_seq ?_ | refine run_region ?_ | (refine (run_if rfl (fun hb => ?_) (fun hb => ?_)) <;> first | (exfalso; omega) | skip) | refine run_ret ?_ | refine run_skip ?_ | refine run_regionD (by kernel_rfl) ?_)
      | refine seqQ_normal ?_)
    all_goals first | exact end1 rfl (List.Sublist.refl _) (ai eu.symm) (.inl rfl) | (exfalso; omega) | trace_state

/-! What is taken from a flat list, and given to it. -/
def TkP (own up : Nat) (g : Nat → Bool) (a b : List Int) (t : Int) (f : List Int) (k : Nat) : Prop := ∀ j, j < k → 0 ≤ f.getD (own + j) 0 + a.getD j 0 * t ∧ (g j = true → 0 ≤ f.getD (up + j) 0 + b.getD j 0 * t)
theorem tkP_succ {own up : Nat} {g : Nat → Bool} {a b : List Int} {t : Int} {f : List Int} {k : Nat} : TkP own up g a b t f (k + 1) ↔ TkP own up g a b t f k ∧ 0 ≤ f.getD (own + k) 0 + a.getD k 0 * t ∧ (g k = true → 0 ≤ f.getD (up + k) 0 + b.getD k 0 * t) := by
  refine ⟨fun q => ⟨fun j hj => q j (by omega), q k (by omega)⟩, fun ⟨q1, q2⟩ j hj => ?_⟩
  rcases Nat.lt_or_eq_of_le (Nat.le_of_lt_succ hj) with z | rfl
  · exact q1 j z
  · exact q2
theorem mixF_upS {own up : Nat} {g : Nat → Bool} {a b : List Int} {t : Int} {f : List Int} {k K : Nat} (hk : k < K) (hd : own + K ≤ up ∨ up + K ≤ own) (hg : g k = true) (h : up + k < (mixF own up g a b t f (k + 1)).length) : (mixF own up g a b t f (k + 1))[up + k] = f.getD (up + k) 0 + b.getD k 0 * t := by
  have h' := h
  rw [mixF_len] at h'
  rw [mixF_at, getD_get (l := f) h', if_neg (by omega), if_pos ⟨by omega, by rw [Nat.add_sub_cancel_left]; exact hg⟩, Nat.add_sub_cancel_left]; omega
theorem sub_neg_mul (x y t : Int) : x - y * t = x + y * (0 - t) := by rw [Int.mul_sub, Int.mul_zero]; omega
structure FlF (p : Passing) (r : PassRule) (K own up : Nat) (L : List (List Int)) : Prop where
  k : p.kinds = (K : Int)
  kt : p.kinds.toNat = K
  k8 : 1 ≤ K ∧ K ≤ 8
  o : r.cell.toNat * K = own
  oi : r.cell * p.kinds = (own : Int)
  u : p.up r.cell * K = up
  l : L.flatten.length = (p.parents.length + 1) * K
  ol : own + K ≤ L.flatten.length
  ul : up + K ≤ L.flatten.length
  d : own + K ≤ up ∨ up + K ≤ own
  b : L.flatten.length ≤ 40
theorem flF {p : Passing} (hv : p.Ok) {r : PassRule} (hr : r ∈ p.rules) {L : List (List Int)} {B : Int} (hL : Sh (p.parents.length + 1) p.kinds.toNat L B) : ∃ K own up, FlF p r K own up L := by
  have R := ruF hv hr
  have k8 := hv.1.1
  have p4 := hv.1.2.1
  have rc := R.c0
  have rcl := R.c
  have ru := R.u
  have rcu := R.cu
  have fl := flat_length hL
  have hK : p.kinds = (p.kinds.toNat : Int) := by omega
  have key : ∀ {a b n K : Nat}, a < n → b < n → a ≠ b → a * K + K ≤ n * K ∧ b * K + K ≤ n * K ∧ (a * K + K ≤ b * K ∨ b * K + K ≤ a * K) := by
    intro a b n K h1 h2 h3
    have e : ∀ x, x * K + K = (x + 1) * K := fun x => by rw [Nat.add_mul, Nat.one_mul]
    rw [e, e]
    refine ⟨Nat.mul_le_mul_right K h1, Nat.mul_le_mul_right K h2, ?_⟩
    rcases Nat.lt_or_gt_of_ne h3 with q | q
    · exact .inl (Nat.mul_le_mul_right K q)
    · exact .inr (Nat.mul_le_mul_right K q)
  obtain ⟨q1, q2, q3⟩ := key (a := r.cell.toNat) (b := p.up r.cell) (n := p.parents.length + 1) (K := p.kinds.toNat) (by omega) ru rcu
  refine ⟨p.kinds.toNat, _, _, hK, rfl, by omega, rfl, ?_, rfl, fl, by rw [fl]; exact q1, by rw [fl]; exact q2, q3, ?_⟩
  · push_cast
    rw [← hK]
    congr 1; omega
  · rw [fl]
    exact Nat.le_trans (Nat.mul_le_mul (show p.parents.length + 1 ≤ 5 by omega) (show p.kinds.toNat ≤ 8 by omega)) (by decide)
theorem gk_pos {p : Passing} {c : Int} (h : 0 < c) (k : Nat) : p.gk c k = true := by unfold Passing.gk; rw [if_neg (by omega)]
theorem gk_zero {p : Passing} {c : Int} (h : c = 0) {k : Nat} (hk : k < p.free.length) : p.gk c k = !p.free[k] := by unfold Passing.gk; rw [if_pos h, getD_get hk]
theorem tk_flat {p : Passing} {r : PassRule} {K own up : Nat} {L : List (List Int)} {B : Int} (f : FlF p r K own up L) (R : RuF p r) (hL : Sh (p.parents.length + 1) p.kinds.toNat L B) (t : Int) (ht : 0 ≤ t ∧ t ≤ 2000) : mixF own up (p.gk r.cell) r.out r.in_ (0 - t) L.flatten K = (p.tk r t L).flatten := by
  have := mix_flat hL (c := r.cell.toNat) (u := p.up r.cell) (by have := R.c; omega) R.u (g := p.gk r.cell) R.o R.i (t := 0 - t) (by omega)
  rw [f.kt, f.o, f.u] at this; exact this
theorem gv_flat {p : Passing} {r : PassRule} {K own up : Nat} {L : List (List Int)} {B : Int} (f : FlF p r K own up L) (R : RuF p r) (hL : Sh (p.parents.length + 1) p.kinds.toNat L B) (t : Int) (ht : 0 ≤ t ∧ t ≤ 2000) : mixF own up (p.gk r.cell) r.in_ r.out t L.flatten K = (p.gv r t L).flatten := by
  have := mix_flat hL (c := r.cell.toNat) (u := p.up r.cell) (by have := R.c; omega) R.u (g := p.gk r.cell) R.i R.o (t := t) (by omega)
  rw [f.kt, f.o, f.u] at this; exact this
theorem tk_nn {p : Passing} {r : PassRule} {K own up : Nat} {L : List (List Int)} {B : Int} (f : FlF p r K own up L) (R : RuF p r) (hL : Sh (p.parents.length + 1) p.kinds.toNat L B) (h0 : Nn L) (t : Int) (ht : 0 ≤ t ∧ t ≤ 2000) : TkP own up (p.gk r.cell) r.out r.in_ (0 - t) L.flatten K ↔ Nn (p.tk r t L) := by
  have := mix_nn hL h0 (c := r.cell.toNat) (u := p.up r.cell) (by have := R.c; omega) R.u R.cu (g := p.gk r.cell) R.o R.i (t := 0 - t) (by omega)
  rw [f.kt, f.o, f.u] at this; exact this

theorem o_l06Take (p : Passing) (hv : p.Ok) (r : PassRule) (hr : r ∈ p.rules) (L : List (List Int)) (hL : Sh (p.parents.length + 1) p.kinds.toNat L 1000000000) (h0 : Nn L) (t : Int) (ht : 0 ≤ t ∧ t ≤ 1000) (b : Option Nat) (cap : Nat) :
    Does Tryz.prog 108 [.ip (encPassing p), .os b L.flatten.length cap, .ip (encPassRule r), .int t] [⟨b, 2, cap * 1, (L.flatten.map Go.AI.encI).flatten⟩]
      (fun v h' => v = .raw (.bool (dec (Nn (p.tk r t L)))) ∧ h' = [⟨b, 2, cap * 1, ((p.tk r t L).flatten.map Go.AI.encI).flatten⟩]) := by
  refine fn_of_runD tyOk ztOk mix Tryz.func108 rfl (by decide) Tryz.ntmps108 (fun w0 F => ?_)
  change Run _ _ _ _ _ (_ :: F)
  have R := ruF hv hr
  obtain ⟨K, own, up, f⟩ := flF hv hr hL
  have hK := f.k
  have k8 := f.k8
  have ol := f.ol
  have ul := f.ul
  have lb := f.b
  have oi := f.oi
  have rc := R.c0
  have hfr := hv.1.2.2.2.1
  have oK : r.out.length = K := by rw [R.o.1, f.kt]
  have iK : r.in_.length = K := by rw [R.i.1, f.kt]
  have fb := flat_bnd hL
  have hne : (L.flatten.map Go.AI.encI).flatten ≠ [] := fun q => by
    have h3 : ((L.flatten.map Go.AI.encI).flatten).length = 0 := by rw [q]; rfl
    rw [flat_len (f := Go.AI.encI) (z := 1) (fun _ => rfl)] at h3
    omega
  refine run_some 0 rfl hne (fun b2 hb2 => ?_)
  subst hb2
  have eAt := c_l06At p r.cell hv.1 ⟨rc, R.c⟩
  rw [f.kt, f.u] at eAt
  repeat' (first
      | (refine j_go ?_; first
        | refine j_op0 rfl rfl rfl rfl ?_ | (refine j_kBin rfl ?_; first | refine j_in rfl rfl ⟨by omega, by omega⟩ rfl rfl ?_) | (refine j_kCall rfl rfl rfl rfl ?_; first | refine jc (eAt) (LeL.refl _) rfl rfl ?_))
      | refine j_nil ?_
      | (refine r_go ?_; first | refine run_seq ?_ | refine run_region ?_ | refine run_block ?_ | refine run_regionD (by kernel_rfl) ?_)
      | refine seqQ_normal ?_)
  refine run_loop (fun k : Nat => [(0, .ip (encPassing p)), (1, .os (some b2) L.flatten.length cap), (2, .ip (encPassRule r)), (3, .int t), (9, .int (own : Int)), (10, .int (up : Int)), (11, .raw (.bool (dec (TkP own up (p.gk r.cell) r.out r.in_ (0 - t) L.flatten k)))), (12, .int (k : Int))])
    (fun k => ⟨some b2, 2, cap * 1, ((mixF own up (p.gk r.cell) r.out r.in_ (0 - t) L.flatten k).map Go.AI.encI).flatten⟩ :: F) (fun k => k ≤ K) (fun k => K - k) 0 ⟨rfl, rfl, rfl, rfl, si oi, rfl, raw_t (fun j hj => absurd hj (Nat.not_lt_zero _)), rfl, trivial⟩ (by simp only [mixF_zero]) (Nat.zero_le _) (fun k kl => ?_)
  have ml : (mixF own up (p.gk r.cell) r.out r.in_ (0 - t) L.flatten k).length = L.flatten.length := mixF_len
  have hl : (mixH own up (p.gk r.cell) r.out r.in_ (0 - t) L.flatten k).length = L.flatten.length := mixH_len
  have nl : (mixF own up (p.gk r.cell) r.out r.in_ (0 - t) L.flatten (k + 1)).length = L.flatten.length := mixF_len
  by_cases hk : k < K
  · have mo := mul_b (R.o.2 _ (List.getElem_mem (n := k) (by omega))) (t := t) (by omega)
    have mi := mul_b (R.i.2 _ (List.getElem_mem (n := k) (by omega))) (t := t) (by omega)
    have vo : (mixF own up (p.gk r.cell) r.out r.in_ (0 - t) L.flatten k)[own + k]'(by omega) = L.flatten[own + k]'(by omega) := mixF_own hk f.d _
    have vu : (mixH own up (p.gk r.cell) r.out r.in_ (0 - t) L.flatten k)[up + k]'(by omega) = L.flatten[up + k]'(by omega) := mixH_up hk f.d _
    have vs : (mixH own up (p.gk r.cell) r.out r.in_ (0 - t) L.flatten k)[own + k]'(by omega) = L.flatten.getD (own + k) 0 + r.out.getD k 0 * (0 - t) := mixH_self _
    have bo := fb _ (List.getElem_mem (n := own + k) (by omega))
    have bu := fb _ (List.getElem_mem (n := up + k) (by omega))
    have kf : k < p.free.length := by omega
    have st1 : (mixF own up (p.gk r.cell) r.out r.in_ (0 - t) L.flatten k).set (own + k) ((mixF own up (p.gk r.cell) r.out r.in_ (0 - t) L.flatten k)[own + k]'(by omega) - r.out[k]'(by omega) * t) = mixH own up (p.gk r.cell) r.out r.in_ (0 - t) L.flatten k := by
      rw [vo, sub_neg_mul]; unfold mixH; rw [getD_get (by omega), getD_get (by omega)]
    have st2 : p.gk r.cell k = true → (mixH own up (p.gk r.cell) r.out r.in_ (0 - t) L.flatten k).set (up + k) ((mixH own up (p.gk r.cell) r.out r.in_ (0 - t) L.flatten k)[up + k]'(by omega) - r.in_[k]'(by omega) * t) = mixF own up (p.gk r.cell) r.out r.in_ (0 - t) L.flatten (k + 1) := fun hg => by
      rw [vu, sub_neg_mul, ← mixF_t hk f.d (by omega) (by omega) hg, getD_get (l := r.in_) (by omega)]
    repeat' (first
      | (refine j_go ?_; first
        | refine j_op0 rfl rfl rfl rfl ?_)
      | refine j_nil ?_
      | (refine j_goO ?_; first
        | refine j_op0O rfl rfl rfl rfl ?_ | (refine j_kIdxO rfl ?_; first | refine j_midxO rfl rfl rfl rfl rfl (by first | omega | (simp only [List.length_append, List.length_cons, List.length_nil]; omega)) rfl rfl ?_) | (refine j_kBinO rfl ?_; first | refine j_inO rfl rfl ⟨by omega, by omega⟩ rfl rfl ?_))
      | (refine r_go ?_; first | refine run_seq ?_ | refine run_region ?_ | (refine (run_if rfl (fun hb => ?_) (fun hb => ?_)) <;> first | (exfalso; omega) | skip) | refine run_block ?_ | refine run_skip ?_ | refine run_opn 7 [⟨0, true, false, 0⟩, ⟨1, true, false, 0⟩, ⟨2, true, false, 0⟩, ⟨3, true, false, 0⟩, ⟨4, true, false, 0⟩, ⟨5, true, false, 0⟩, ⟨6, true, false, 0⟩, ⟨7, true, false, 0⟩, ⟨8, true, false, 0⟩, ⟨9, true, false, 0⟩, ⟨10, true, false, 0⟩, ⟨11, true, false, 0⟩, ⟨12, true, false, 0⟩, ⟨13, true, false, 0⟩, ⟨14, true, false, 0⟩, ⟨15, true, false, 0⟩, ⟨16, true, false, 0⟩, ⟨17, false, true, 0⟩] rfl rfl (by kernel_rfl) ?_)
      | refine seqQ_normal ?_)
    refine j_mloadEO 0 (own + k) (g := Go.AI.encI) (L := mixF own up (p.gk r.cell) r.out r.in_ (0 - t) L.flatten k) (z := 1) rfl rfl rfl rfl rfl (fun _ => rfl) rfl (by omega) (fun _ => rfl) rfl rfl ?_
    repeat' (first
      | (refine j_goO ?_; first
        | refine j_op0O rfl rfl rfl rfl ?_ | (refine j_kIdxO rfl ?_; first | refine j_idxO rfl rfl rfl rfl rfl (by omega) rfl rfl rfl ?_ | refine j_midxO rfl rfl rfl rfl rfl (by first | omega | (simp only [List.length_append, List.length_cons, List.length_nil]; omega)) rfl rfl ?_) | (refine j_kBinO rfl ?_; first | refine j_inO rfl rfl ⟨by omega, by omega⟩ rfl rfl ?_)))
    refine j_storeEO 0 (own + k) (g := Go.AI.encI) ((mixF own up (p.gk r.cell) r.out r.in_ (0 - t) L.flatten k)[own + k]'(by omega) - r.out[k]'(by omega) * t) rfl rfl rfl rfl rfl rfl rfl rfl rfl rfl (fun _ => rfl) rfl (by omega) (fun _ hk => nomatch hk) ?_
    rw [st1]
    have mk : p.gk r.cell k = true → (mixF own up (p.gk r.cell) r.out r.in_ (0 - t) L.flatten (k + 1))[up + k]'(by omega) = L.flatten.getD (up + k) 0 + r.in_.getD k 0 * (0 - t) := fun hg => mixF_upS hk f.d hg _
    have m0 : p.gk r.cell k = false → mixH own up (p.gk r.cell) r.out r.in_ (0 - t) L.flatten k = mixF own up (p.gk r.cell) r.out r.in_ (0 - t) L.flatten (k + 1) := fun hg => mixF_f hk f.d (by omega) hg
    by_cases hT : TkP own up (p.gk r.cell) r.out r.in_ (0 - t) L.flatten k
    · rw [dec_t hT]
      repeat' (first
      | (refine j_go ?_; first
        | refine j_op0 rfl rfl rfl rfl ?_ | (refine j_kIdx rfl ?_; first | refine j_midx rfl rfl rfl rfl rfl (by first | omega | (simp only [List.length_append, List.length_cons, List.length_nil]; omega)) rfl rfl ?_) | (refine j_kBin rfl ?_; first | refine j_in rfl rfl ⟨by omega, by omega⟩ rfl rfl ?_))
      | refine j_nilO ?_
      | (refine r_go ?_; first | refine run_seq ?_ | refine run_region ?_)
      | refine seqQ_normal ?_)
      refine j_mloadE 0 (own + k) (g := Go.AI.encI) (L := mixH own up (p.gk r.cell) r.out r.in_ (0 - t) L.flatten k) (z := 1) rfl rfl rfl rfl (fun _ => rfl) rfl (by omega) (fun _ => rfl) rfl rfl ?_
      rw [vs]
      by_cases hV : 0 ≤ L.flatten.getD (own + k) 0 + r.out.getD k 0 * (0 - t)
      · repeat' (first
      | (refine j_go ?_; first
        | refine j_op0 rfl rfl rfl rfl ?_ | refine j_off rfl rfl rfl ?_ | (refine j_kIdx rfl ?_; first | refine j_idx rfl rfl rfl rfl rfl (by omega) rfl rfl rfl ?_) | (refine j_kBin rfl ?_; first | refine j_in rfl rfl ⟨by omega, by omega⟩ rfl rfl ?_) | (refine j_kGuard rfl ?_; first | (refine (j_if rfl rfl rfl (fun hb => ?_) (fun hb => ?_)) <;> first | (exfalso; omega) | skip)))
      | refine j_nil ?_
      | (refine j_goO ?_; first
        | refine j_op0O rfl rfl rfl rfl ?_ | (refine j_kIdxO rfl ?_; first | refine j_midxO rfl rfl rfl rfl rfl (by first | omega | (simp only [List.length_append, List.length_cons, List.length_nil]; omega)) rfl rfl ?_) | (refine j_kBinO rfl ?_; first | refine j_inO rfl rfl ⟨by omega, by omega⟩ rfl rfl ?_))
      | (refine r_go ?_; first | refine run_seq ?_ | refine run_region ?_ | refine run_cond_t rfl ?_ | refine run_skip ?_ | refine run_opn 10 [⟨0, true, false, 0⟩, ⟨1, true, false, 0⟩, ⟨2, true, false, 0⟩, ⟨3, true, false, 0⟩, ⟨4, true, false, 0⟩, ⟨5, true, false, 0⟩, ⟨6, true, false, 0⟩, ⟨7, true, false, 0⟩, ⟨8, true, false, 0⟩, ⟨9, true, false, 0⟩, ⟨10, true, false, 0⟩, ⟨11, true, false, 0⟩, ⟨12, true, false, 0⟩, ⟨13, true, false, 0⟩, ⟨14, true, false, 0⟩, ⟨15, true, false, 0⟩, ⟨16, true, false, 0⟩, ⟨17, false, true, 0⟩] rfl rfl (by kernel_rfl) ?_ | refine run_condn rfl (fun hb => ?_) (fun hb => ?_))
      | refine seqQ_normal ?_ | refine blockQ_normal ?_)
        all_goals first
          | (have hg : p.gk r.cell k = true := by first | exact gk_pos (by assumption) k | (rw [gk_zero (by omega) kf]; simp only [hb, Bool.not_false])
             rw [dec_t hV]
             refine j_mloadEO 0 (up + k) (g := Go.AI.encI) (L := mixH own up (p.gk r.cell) r.out r.in_ (0 - t) L.flatten k) (z := 1) rfl rfl rfl rfl rfl (fun _ => rfl) rfl (by omega) (fun _ => rfl) rfl rfl ?_
             repeat' (first
      | (refine j_goO ?_; first
        | refine j_op0O rfl rfl rfl rfl ?_ | (refine j_kIdxO rfl ?_; first | refine j_idxO rfl rfl rfl rfl rfl (by omega) rfl rfl rfl ?_ | refine j_midxO rfl rfl rfl rfl rfl (by first | omega | (simp only [List.length_append, List.length_cons, List.length_nil]; omega)) rfl rfl ?_) | (refine j_kBinO rfl ?_; first | refine j_inO rfl rfl ⟨by omega, by omega⟩ rfl rfl ?_)))
             refine j_storeEO 0 (up + k) (g := Go.AI.encI) ((mixH own up (p.gk r.cell) r.out r.in_ (0 - t) L.flatten k)[up + k]'(by omega) - r.in_[k]'(by omega) * t) rfl rfl rfl rfl rfl rfl rfl rfl rfl rfl (fun _ => rfl) rfl (by omega) (fun _ hk => nomatch hk) ?_
             rw [st2 hg]
             repeat' (first
      | (refine j_go ?_; first
        | refine j_op0 rfl rfl rfl rfl ?_ | (refine j_kIdx rfl ?_; first | refine j_midx rfl rfl rfl rfl rfl (by first | omega | (simp only [List.length_append, List.length_cons, List.length_nil]; omega)) rfl rfl ?_) | (refine j_kBin rfl ?_; first | refine j_in rfl rfl ⟨by omega, by omega⟩ rfl rfl ?_))
      | refine j_nilO ?_
      | (refine r_go ?_; first | refine run_region ?_)
      | refine seqQ_normal ?_)
             refine j_mloadE 0 (up + k) (g := Go.AI.encI) (L := mixF own up (p.gk r.cell) r.out r.in_ (0 - t) L.flatten (k + 1)) (z := 1) rfl rfl rfl rfl (fun _ => rfl) rfl (by omega) (fun _ => rfl) rfl rfl ?_
             rw [mk hg]
             repeat' (first
      | (refine j_go ?_; first
        | refine j_op0 rfl rfl rfl rfl ?_ | (refine j_kBin rfl ?_; first | refine j_in rfl rfl ⟨by omega, by omega⟩ rfl rfl ?_))
      | refine j_nil ?_
      | (refine r_go ?_; first | refine run_region ?_)
      | refine seqQ_normal ?_ | refine blockQ_normal ?_)
             exact loopQ_next (k + 1) (by omega) (by omega) rfl ⟨rfl, rfl, rfl, rfl, rfl, rfl, raw_d ⟨fun q => tkP_succ.2 ⟨hT, hV, fun _ => q⟩, fun q => (tkP_succ.1 q).2.2 hg⟩, nx _, trivial⟩)
          | (have hg : p.gk r.cell k = false := by rw [gk_zero (by omega) kf]; simp only [hb, Bool.not_true]
             rw [m0 hg]
             exact loopQ_next (k + 1) (by omega) (by omega) rfl ⟨rfl, rfl, rfl, rfl, rfl, rfl, raw_d ⟨fun q => tkP_succ.2 ⟨hT, hV, fun z => by rw [hg] at z; cases z⟩, fun _ => hV⟩, nx _, trivial⟩)
          | trace_state
      · repeat' (first
      | (refine j_go ?_; first
        | refine j_op0 rfl rfl rfl rfl ?_ | refine j_off rfl rfl rfl ?_ | (refine j_kIdx rfl ?_; first | refine j_idx rfl rfl rfl rfl rfl (by omega) rfl rfl rfl ?_) | (refine j_kBin rfl ?_; first | refine j_in rfl rfl ⟨by omega, by omega⟩ rfl rfl ?_) | (refine j_kGuard rfl ?_; first | (refine (j_if rfl rfl rfl (fun hb => ?_) (fun hb => ?_)) <;> first | (exfalso; omega) | skip)))
      | refine j_nil ?_
      | (refine j_goO ?_; first
        | refine j_op0O rfl rfl rfl rfl ?_ | (refine j_kIdxO rfl ?_; first | refine j_midxO rfl rfl rfl rfl rfl (by first | omega | (simp only [List.length_append, List.length_cons, List.length_nil]; omega)) rfl rfl ?_) | (refine j_kBinO rfl ?_; first | refine j_inO rfl rfl ⟨by omega, by omega⟩ rfl rfl ?_))
      | (refine r_go ?_; first | refine run_seq ?_ | refine run_region ?_ | refine run_cond_t rfl ?_ | refine run_skip ?_ | refine run_opn 10 [⟨0, true, false, 0⟩, ⟨1, true, false, 0⟩, ⟨2, true, false, 0⟩, ⟨3, true, false, 0⟩, ⟨4, true, false, 0⟩, ⟨5, true, false, 0⟩, ⟨6, true, false, 0⟩, ⟨7, true, false, 0⟩, ⟨8, true, false, 0⟩, ⟨9, true, false, 0⟩, ⟨10, true, false, 0⟩, ⟨11, true, false, 0⟩, ⟨12, true, false, 0⟩, ⟨13, true, false, 0⟩, ⟨14, true, false, 0⟩, ⟨15, true, false, 0⟩, ⟨16, true, false, 0⟩, ⟨17, false, true, 0⟩] rfl rfl (by kernel_rfl) ?_ | refine run_condn rfl (fun hb => ?_) (fun hb => ?_))
      | refine seqQ_normal ?_ | refine blockQ_normal ?_)
        all_goals first
          | (have hg : p.gk r.cell k = true := by first | exact gk_pos (by assumption) k | (rw [gk_zero (by omega) kf]; simp only [hb, Bool.not_false])
             rw [dec_f hV]
             refine j_mloadEO 0 (up + k) (g := Go.AI.encI) (L := mixH own up (p.gk r.cell) r.out r.in_ (0 - t) L.flatten k) (z := 1) rfl rfl rfl rfl rfl (fun _ => rfl) rfl (by omega) (fun _ => rfl) rfl rfl ?_
             repeat' (first
      | (refine j_goO ?_; first
        | refine j_op0O rfl rfl rfl rfl ?_ | (refine j_kIdxO rfl ?_; first | refine j_idxO rfl rfl rfl rfl rfl (by omega) rfl rfl rfl ?_ | refine j_midxO rfl rfl rfl rfl rfl (by first | omega | (simp only [List.length_append, List.length_cons, List.length_nil]; omega)) rfl rfl ?_) | (refine j_kBinO rfl ?_; first | refine j_inO rfl rfl ⟨by omega, by omega⟩ rfl rfl ?_)))
             refine j_storeEO 0 (up + k) (g := Go.AI.encI) ((mixH own up (p.gk r.cell) r.out r.in_ (0 - t) L.flatten k)[up + k]'(by omega) - r.in_[k]'(by omega) * t) rfl rfl rfl rfl rfl rfl rfl rfl rfl rfl (fun _ => rfl) rfl (by omega) (fun _ hk => nomatch hk) ?_
             rw [st2 hg]
             repeat' (first
      | (refine j_go ?_; first
        | refine j_op0 rfl rfl rfl rfl ?_ | refine j_off rfl rfl rfl ?_ | (refine j_kBin rfl ?_; first | refine j_in rfl rfl ⟨by omega, by omega⟩ rfl rfl ?_))
      | refine j_nil ?_
      | refine j_nilO ?_
      | (refine r_go ?_; first | refine run_region ?_)
      | refine seqQ_normal ?_ | refine blockQ_normal ?_)
             exact loopQ_next (k + 1) (by omega) (by omega) rfl ⟨rfl, rfl, rfl, rfl, rfl, rfl, raw_f (fun q => hV (tkP_succ.1 q).2.1), nx _, trivial⟩)
          | (have hg : p.gk r.cell k = false := by rw [gk_zero (by omega) kf]; simp only [hb, Bool.not_true]
             rw [m0 hg]
             exact loopQ_next (k + 1) (by omega) (by omega) rfl ⟨rfl, rfl, rfl, rfl, rfl, rfl, (by rw [dec_f hV]; exact raw_f (fun q => hV (tkP_succ.1 q).2.1)), nx _, trivial⟩)
          | trace_state
    · rw [dec_f hT]
      repeat' (first
      | (refine j_go ?_; first
        | refine j_op0 rfl rfl rfl rfl ?_ | refine j_off rfl rfl rfl ?_ | (refine j_kIdx rfl ?_; first | refine j_idx rfl rfl rfl rfl rfl (by omega) rfl rfl rfl ?_) | (refine j_kBin rfl ?_; first | refine j_in rfl rfl ⟨by omega, by omega⟩ rfl rfl ?_) | (refine j_kGuard rfl ?_; first | (refine (j_if rfl rfl rfl (fun hb => ?_) (fun hb => ?_)) <;> first | (exfalso; omega) | skip)))
      | refine j_nil ?_
      | (refine j_goO ?_; first
        | refine j_op0O rfl rfl rfl rfl ?_ | (refine j_kIdxO rfl ?_; first | refine j_midxO rfl rfl rfl rfl rfl (by first | omega | (simp only [List.length_append, List.length_cons, List.length_nil]; omega)) rfl rfl ?_) | (refine j_kBinO rfl ?_; first | refine j_inO rfl rfl ⟨by omega, by omega⟩ rfl rfl ?_))
      | refine j_nilO ?_
      | (refine r_go ?_; first | refine run_seq ?_ | refine run_region ?_ | refine run_cond_t rfl ?_ | refine run_skip ?_ | refine run_opn 10 [⟨0, true, false, 0⟩, ⟨1, true, false, 0⟩, ⟨2, true, false, 0⟩, ⟨3, true, false, 0⟩, ⟨4, true, false, 0⟩, ⟨5, true, false, 0⟩, ⟨6, true, false, 0⟩, ⟨7, true, false, 0⟩, ⟨8, true, false, 0⟩, ⟨9, true, false, 0⟩, ⟨10, true, false, 0⟩, ⟨11, true, false, 0⟩, ⟨12, true, false, 0⟩, ⟨13, true, false, 0⟩, ⟨14, true, false, 0⟩, ⟨15, true, false, 0⟩, ⟨16, true, false, 0⟩, ⟨17, false, true, 0⟩] rfl rfl (by kernel_rfl) ?_ | refine run_condn rfl (fun hb => ?_) (fun hb => ?_))
      | refine seqQ_normal ?_ | refine blockQ_normal ?_)
      all_goals first
        | (have hg : p.gk r.cell k = true := by first | exact gk_pos (by assumption) k | (rw [gk_zero (by omega) kf]; simp only [hb, Bool.not_false])
           refine j_mloadEO 0 (up + k) (g := Go.AI.encI) (L := mixH own up (p.gk r.cell) r.out r.in_ (0 - t) L.flatten k) (z := 1) rfl rfl rfl rfl rfl (fun _ => rfl) rfl (by omega) (fun _ => rfl) rfl rfl ?_
           repeat' (first
      | (refine j_goO ?_; first
        | refine j_op0O rfl rfl rfl rfl ?_ | (refine j_kIdxO rfl ?_; first | refine j_idxO rfl rfl rfl rfl rfl (by omega) rfl rfl rfl ?_ | refine j_midxO rfl rfl rfl rfl rfl (by first | omega | (simp only [List.length_append, List.length_cons, List.length_nil]; omega)) rfl rfl ?_) | (refine j_kBinO rfl ?_; first | refine j_inO rfl rfl ⟨by omega, by omega⟩ rfl rfl ?_)))
           refine j_storeEO 0 (up + k) (g := Go.AI.encI) ((mixH own up (p.gk r.cell) r.out r.in_ (0 - t) L.flatten k)[up + k]'(by omega) - r.in_[k]'(by omega) * t) rfl rfl rfl rfl rfl rfl rfl rfl rfl rfl (fun _ => rfl) rfl (by omega) (fun _ hk => nomatch hk) ?_
           rw [st2 hg]
           repeat' (first
      | (refine j_go ?_; first
        | refine j_op0 rfl rfl rfl rfl ?_ | refine j_off rfl rfl rfl ?_ | (refine j_kBin rfl ?_; first | refine j_in rfl rfl ⟨by omega, by omega⟩ rfl rfl ?_))
      | refine j_nil ?_
      | refine j_nilO ?_
      | (refine r_go ?_; first | refine run_region ?_)
      | refine seqQ_normal ?_ | refine blockQ_normal ?_)
           exact loopQ_next (k + 1) (by omega) (by omega) rfl ⟨rfl, rfl, rfl, rfl, rfl, rfl, raw_f (fun q => hT (tkP_succ.1 q).1), nx _, trivial⟩)
        | (have hg : p.gk r.cell k = false := by rw [gk_zero (by omega) kf]; simp only [hb, Bool.not_true]
           rw [m0 hg]
           exact loopQ_next (k + 1) (by omega) (by omega) rfl ⟨rfl, rfl, rfl, rfl, rfl, rfl, raw_f (fun q => hT (tkP_succ.1 q).1), nx _, trivial⟩)
        | trace_state
  · repeat' (first
      | (refine j_go ?_; first
        | refine j_op0 rfl rfl rfl rfl ?_)
      | refine j_nil ?_
      | (refine r_go ?_; first | refine run_seq ?_ | refine run_region ?_ | (refine (run_if rfl (fun hb => ?_) (fun hb => ?_)) <;> first | (exfalso; omega) | skip) | refine run_ret ?_ | refine run_exit ?_)
      | refine seqQ_normal ?_ | refine seqQ_exit ?_ | refine blockQ_eq ?_ | refine loopQ_exit ?_)
    have hke : k = K := by omega
    subst hke
    rw [tk_flat f R hL t (by omega)]
    exact endD_ret (h1 := [_]) rfl (.cons (.tmp rfl) .nil) (Le.refl _) ⟨by rw [dec_congr (tk_nn f R hL h0 t (by omega))]; rfl, rfl⟩ (.inl rfl)

end Go.Proofs.YtbpmmdecaonopaaGreat

/-
  Copies of the data of theme 6 in memory of the call's own, and their marks. No condition but that the sizes are bounded.
-/
namespace Go.Proofs.YtbpmmdecaonopaaGreat
open Go.AI
set_option maxRecDepth 8000
set_option maxHeartbeats 1600000



end Go.Proofs.YtbpmmdecaonopaaGreat

/-
  Stocks in memory of the call's own: their marks, and what is held of them. No condition but that the sizes are bounded.
-/
namespace Go.Proofs.YtbpmmdecaonopaaGreat
open Go.AI
set_option maxRecDepth 8000
set_option maxHeartbeats 1600000
def ROStock (x : Stock) (a : A) (h : Heap) : Prop := ∃ (a1 : A) (h1 : Heap), ROII x.cells a1 h1 ∧ ∃ (a2 : A) (h2 : Heap), ROI x.around a2 h2 ∧ a = .agg [a1, a2] ∧ h = h1 ++ h2
theorem ROStock.frz {x : Stock} {a : A} {h : Heap} (o : ROStock x a h) : Frz h a (.agg (encStock x)) := by
  obtain ⟨a1, h1, o1, a2, h2, o2, rfl, rfl⟩ := o
  exact Frz.agg (FrzL.cons (Frz.mono (fun _ hk => by simp [hk]) o1.frz) (FrzL.cons (Frz.mono (fun _ hk => by simp [hk]) o2.frz) (FrzL.nil _)))
theorem ROStock.frzF {x : Stock} {a : A} {h : Heap} (o : ROStock x a h) : FrzF h a (.agg (encStock x)) := by
  obtain ⟨a1, h1, o1, a2, h2, o2, rfl, rfl⟩ := o
  have q := FrzLF.cons o1.frzF (FrzLF.cons o2.frzF (FrzLF.nil (h := [])))
  rw [List.append_nil] at q
  exact FrzF.agg q
theorem ROStock.clo {x : Stock} {a : A} {h : Heap} (o : ROStock x a h) : Clo a ∧ CloH h := by
  obtain ⟨a1, h1, o1, a2, h2, o2, rfl, rfl⟩ := o
  exact ⟨Clo.agg (CloL.cons o1.clo.1 (CloL.cons o2.clo.1 CloL.nil)), o1.clo.2.append o2.clo.2⟩
theorem ROStock.cells {x : Stock} {a : A} {h : Heap} (o : ROStock x a h) : ∃ a0 a1, a = .agg [a0, a1] ∧ [a0, a1].all okCell = true := by
  obtain ⟨a1, h1, o1, a2, h2, o2, rfl, rfl⟩ := o
  exact ⟨a1, a2, rfl, by simp only [List.all_cons, List.all_nil, OwnLL.okc o1, OwnF.okc o2]; rfl⟩
end Go.Proofs.YtbpmmdecaonopaaGreat
