/-
  Plain facts: small stocks stay stocks, and what weights that are an invariant say of a step. No program in sight.
-/
import Derived.Test.YtahjliejgjjfeaaZD3
import Derived.Test.YtahjliejgjjfeaaZPS6
import Derived.Test.YtahjliejgjjfeaaZS5f
namespace Go.Proofs.Ytahjliejgjjfeaa
open Go.AI
set_option maxRecDepth 8000

theorem dot_nil (b : List Int) : dot [] b = 0 := by simp [dot, tot, sumF]
theorem dot_nilr (a : List Int) : dot a [] = 0 := by cases a <;> simp [dot, tot, sumF]
theorem dot_cons (x y : Int) (a b : List Int) : dot (x :: a) (y :: b) = x * y + dot a b := rfl
theorem dot_app {c d : List Int} : ∀ {a b : List Int}, a.length = b.length → dot (a ++ c) (b ++ d) = dot a b + dot c d
  | [], [], _ => by simp [dot_nil]
  | x :: a, y :: b, h => by
    have h2 : a.length = b.length := by simpa using h
    rw [List.cons_append, List.cons_append, dot_cons, dot_cons, dot_app h2]; omega
theorem dot_plus {m : Int} : ∀ {a b w : List Int}, a.length = b.length → dot (plusL a b m) w = dot a w + m * dot b w
  | [], [], w, _ => by simp [plusL, dot_nil]
  | x :: a, y :: b, [], _ => by simp [dot_nilr]
  | x :: a, y :: b, z :: w, h => by
    have h2 : a.length = b.length := by simpa using h
    have := dot_plus (m := m) (w := w) h2
    unfold plusL at this ⊢
    rw [List.zipWith_cons_cons, dot_cons, dot_cons, dot_cons, this, Int.add_mul, Int.mul_add]
    have e : y * m * z = m * (y * z) := by rw [Int.mul_comm y m, Int.mul_assoc]
    omega
theorem dot_only : ∀ {b w : List Int} {g : Nat → Bool}, (∀ k, k < b.length → g k = false → w.getD k 0 = 0) → dot (only g b) w = dot b w
  | [], w, g, _ => by simp [only]
  | x :: b, [], g, _ => by simp [dot_nilr]
  | x :: b, z :: w, g, h => by
    have h2 := dot_only (b := b) (w := w) (g := fun k => g (k + 1)) (fun k hk hg => by have := h (k + 1) (by simp; omega) hg; simpa using this)
    unfold only at h2 ⊢
    rw [List.mapIdx_cons, dot_cons, dot_cons, h2]
    by_cases q : g 0 = true
    · rw [if_pos q]
    · have := h 0 (by simp) (by simpa using q)
      simp at this
      rw [if_neg q, this]; simp
/-- A sum of products, row by row. -/
def md (L W : List (List Int)) : Int := tot (List.zipWith dot L W)
theorem md_cons (x y : List Int) (L W : List (List Int)) : md (x :: L) (y :: W) = dot x y + md L W := rfl
theorem md_nil (W : List (List Int)) : md [] W = 0 := by simp [md, tot, sumF]
theorem md_flat {K : Nat} : ∀ {L W : List (List Int)}, (∀ x ∈ L, x.length = K) → (∀ x ∈ W, x.length = K) → L.length = W.length → dot L.flatten W.flatten = md L W
  | [], [], _, _, _ => rfl
  | x :: L, y :: W, h1, h2, h3 => by
    rw [List.flatten_cons, List.flatten_cons, dot_app (by rw [h1 x (by simp), h2 y (by simp)]), md_flat (fun z hz => h1 z (by simp [hz])) (fun z hz => h2 z (by simp [hz])) (by simpa using h3)]
    rfl
theorem md_set {r : List Int} : ∀ {L W : List (List Int)} {c : Nat}, c < L.length → c < W.length → md (L.set c r) W = md L W - dot (L.getD c []) (W.getD c []) + dot r (W.getD c [])
  | x :: L, y :: W, 0, _, _ => by
    rw [List.set_cons_zero, md_cons, md_cons]; simp; omega
  | x :: L, y :: W, c + 1, h1, h2 => by
    have := md_set (r := r) (L := L) (W := W) (c := c) (by simpa using h1) (by simpa using h2)
    rw [List.set_cons_succ, md_cons, md_cons, this]; simp; omega
theorem md_add {n K : Nat} {L W : List (List Int)} {B : Int} (h : Sh n K L B) {c : Nat} (hc : c < n) (hw : c < W.length) {b : List Int} (hb : b.length = K) (t : Int) : md (addL L c b t) W = md L W + t * dot b (W.getD c []) := by
  obtain ⟨h1, h2⟩ := h.row hc
  unfold addL
  rw [md_set h1 hw, dot_plus (by rw [getD_get h1, h2, hb])]; omega
theorem md_app {a b c d : List (List Int)} (h : a.length = c.length) : md (a ++ b) (c ++ d) = md a c + md b d := by
  induction a generalizing c with
  | nil => cases c with
    | nil => simp [md_nil]
    | cons _ _ => simp at h
  | cons x a ih => cases c with
    | nil => simp at h
    | cons y c => rw [List.cons_append, List.cons_append, md_cons, md_cons, ih (by simpa using h)]; omega

/-! #### weights of a system -/
/-- Weights, of any size. -/
def Passing.LZ (p : Passing) (W : List (List Int)) : Prop := ∀ k, k < p.free.length → p.free.getD k false = true → (W.getD p.parents.length []).getD k 0 = 0
def Passing.chg (p : Passing) (W : List (List Int)) (r : PassRule) : Int := dot r.in_ (W.getD r.cell.toNat []) - dot r.out (W.getD r.cell.toNat []) + dot r.out (W.getD (p.up r.cell) []) - dot r.in_ (W.getD (p.up r.cell) [])
def Passing.Inv (p : Passing) (W : List (List Int)) : Prop := p.LZ W ∧ ∀ r ∈ p.rules, p.chg W r = 0
theorem up_last {p : Passing} (hv : p.Frame) {c : Int} (h0 : 0 ≤ c) (hc : c.toNat < p.parents.length) : p.up c = p.parents.length → c = 0 := by
  intro q
  by_cases e : c = 0
  · exact e
  · have := hv.par (c := c) (by omega) hc
    unfold Passing.up at q
    rw [if_neg e, this.1] at q; omega
theorem dot_gk {p : Passing} {W : List (List Int)} (hz : p.LZ W) {c : Int} {b : List Int} (hb : b.length ≤ p.free.length) : dot (only (p.gk c) b) (W.getD (p.up c) []) = dot b (W.getD (p.up c) []) := by
  refine dot_only (fun k hk hg => ?_)
  unfold Passing.gk at hg
  by_cases e : c = 0
  · rw [if_pos e] at hg
    unfold Passing.up
    rw [if_pos e]
    exact hz k (by omega) (by simpa using hg)
  · rw [if_neg e] at hg; cases hg
theorem md_mix {p : Passing} (hv : p.Frame) {W : List (List Int)} (hW : W.length = p.parents.length + 1) (hz : p.LZ W) {c : Int} (hc : c.toNat < p.parents.length) (hu : p.up c < p.parents.length + 1) {L : List (List Int)} {B : Int} (hL : Sh (p.parents.length + 1) p.kinds.toNat L B) {a b : List Int} (ha : Bg p.kinds.toNat a) (hb : Bg p.kinds.toNat b) {t : Int} (ht : -1000 ≤ t ∧ t ≤ 1000) :
    md (mixR c.toNat (p.up c) (p.gk c) a b t L) W = md L W + t * dot a (W.getD c.toNat []) + t * dot b (W.getD (p.up c) []) := by
  unfold mixR
  rw [md_add (hL.add (M := 1000000) (by omega) ha.1 (ha.mul ht)) hu (by omega) (by rw [only_len]; exact hb.1), md_add hL (by omega) (by omega) ha.1, dot_gk hz (by have := hb.1; have := hv.2.2.2.1; have := hv.1; omega)]
theorem md_step {p : Passing} (hv : p.Ok) {W : List (List Int)} (hW : W.length = p.parents.length + 1) (hz : p.LZ W) {r : PassRule} (hr : r ∈ p.rules) {L : List (List Int)} {B : Int} (hL : Sh (p.parents.length + 1) p.kinds.toNat L B) {t : Int} (ht : 0 ≤ t ∧ t ≤ 1000) :
    md (p.gv r t (p.tk r t L)) W = md L W + t * p.chg W r := by
  have R := ruF hv hr
  unfold Passing.gv
  rw [md_mix hv.1 hW hz R.c R.u (hL.tk R ht) R.i R.o (by omega)]
  unfold Passing.tk
  rw [md_mix hv.1 hW hz R.c R.u hL R.o R.i (by omega)]
  unfold Passing.chg
  rw [Int.mul_sub, Int.mul_add, Int.mul_sub, Int.sub_mul, Int.sub_mul]
  omega
theorem md_chs {p : Passing} (hv : p.Ok) {W : List (List Int)} (hW : W.length = p.parents.length + 1) (hi : p.Inv W) {cs : List Int} (hc : p.Cnts cs) {L : List (List Int)} {B : Int} (hL : Sh (p.parents.length + 1) p.kinds.toNat L B) : ∀ k, k ≤ p.rules.length → md (p.chs cs L k) W = md L W
  | 0, _ => rfl
  | k + 1, hk => by
    obtain ⟨h1, h2⟩ := Cn hc (k := k) (by omega)
    rw [chs_succ (by omega) h1, md_step hv hW hi.1 (List.getElem_mem _) (chs_sh hv hc hL k (by omega)) h2, hi.2 _ (List.getElem_mem _), md_chs hv hW hi hc hL k (by omega)]; omega

/-! #### small stocks -/
theorem mul10 {y t : Int} (hy : 0 ≤ y ∧ y ≤ 2) (ht : -5 ≤ t ∧ t ≤ 5) : -10 ≤ y * t ∧ y * t ≤ 10 := by
  obtain rfl | rfl | rfl : y = 0 ∨ y = 1 ∨ y = 2 := by omega
  all_goals omega
theorem Sh.mixS {n K : Nat} {L : List (List Int)} {B : Int} (h : Sh n K L B) {c u : Nat} {g : Nat → Bool} {a b : List Int} (ha : a.length = K ∧ ∀ y ∈ a, 0 ≤ y ∧ y ≤ 2) (hb : b.length = K ∧ ∀ y ∈ b, 0 ≤ y ∧ y ≤ 2) {t : Int} (ht : -5 ≤ t ∧ t ≤ 5) : Sh n K (mixR c u g a b t L) (B + 20) :=
  ((h.add (M := 10) (by omega) ha.1 (fun y hy => mul10 (ha.2 y hy) ht)).add (M := 10) (by omega) (by rw [only_len]; exact hb.1) (fun y hy => by
    unfold only at hy
    obtain ⟨i, hi, rfl⟩ := List.getElem_of_mem hy
    rw [List.getElem_mapIdx]
    split
    · exact mul10 (hb.2 _ (List.getElem_mem _)) ht
    · omega)).mono (by omega)
theorem chs_small {p : Passing} (hv : PasSm p) {cs : List Int} (hc : p.Cnts cs) (hc5 : ∀ x ∈ cs, 0 ≤ x ∧ x ≤ 5) {n : Nat} {L : List (List Int)} {B : Int} (h : Sh n p.kinds.toNat L B) : ∀ k, k ≤ p.rules.length → Sh n p.kinds.toNat (p.chs cs L k) (B + 40 * k)
  | 0, _ => h.mono (by omega)
  | k + 1, hk => by
    obtain ⟨h1, _⟩ := Cn hc (k := k) (by omega)
    have h2 := hc5 _ (List.getElem_mem h1)
    have R := ruF hv.1 (List.getElem_mem (show k < p.rules.length by omega))
    have q := hv.2.2.2.2 _ (List.getElem_mem (show k < p.rules.length by omega))
    rw [chs_succ (by omega) h1]
    exact (((chs_small hv hc hc5 h k (by omega)).mixS ⟨R.o.1, q.1⟩ ⟨R.i.1, q.2⟩ (by omega)).mixS ⟨R.i.1, q.2⟩ ⟨R.o.1, q.1⟩ (by omega)).mono (by push_cast; omega)
theorem gvs_nn {p : Passing} (hv : p.Ok) {cs : List Int} (hc : p.Cnts cs) {L : List (List Int)} {B : Int} (h : Sh (p.parents.length + 1) p.kinds.toNat L B) (h0 : Nn L) : ∀ k, k ≤ p.rules.length → Nn (p.gvs cs L k)
  | 0, _ => h0
  | k + 1, hk => by
    obtain ⟨h1, h2⟩ := Cn hc (k := k) (by omega)
    have R := ruF hv (List.getElem_mem (show k < p.rules.length by omega))
    have H := gvs_sh hv hc h k (by omega)
    have hN := gvs_nn hv hc h h0 k (by omega)
    rw [gvs_succ (by omega) h1]
    have hN2 := (nn_val H).1 hN
    refine (nn_val (H.gv R h2)).2 (fun i j hi hj => ?_)
    unfold Passing.gv
    have hRc := R.c
    rw [mixR_val H (by omega) R.u R.i R.o (by omega) hi hj]
    have e0 := hN2 i j hi hj
    have e1 : 0 ≤ (if i = p.rules[k].cell.toNat then p.rules[k].in_.getD j 0 * cs[k] else 0) := by
      split
      · rw [getD_get (by rw [R.i.1]; exact hj)]
        exact Int.mul_nonneg (R.i.2 _ (List.getElem_mem _)).1 h2.1
      · omega
    have e2 : 0 ≤ (if i = p.up p.rules[k].cell ∧ p.gk p.rules[k].cell j = true then p.rules[k].out.getD j 0 * cs[k] else 0) := by
      split
      · rw [getD_get (by rw [R.o.1]; exact hj)]
        exact Int.mul_nonneg (R.o.2 _ (List.getElem_mem _)).1 h2.1
      · omega
    omega
/-- What is free around stays away. -/
theorem mix_free {p : Passing} (hv : p.Ok) {r : PassRule} (hr : r ∈ p.rules) {L : List (List Int)} {B : Int} (hL : Sh (p.parents.length + 1) p.kinds.toNat L B) {a b : List Int} (ha : Bg p.kinds.toNat a) (hb : Bg p.kinds.toNat b) {t : Int} (ht : -1000 ≤ t ∧ t ≤ 1000) {k : Nat} (hk : k < p.kinds.toNat) (hf : p.free.getD k false = true) :
    val (mixR r.cell.toNat (p.up r.cell) (p.gk r.cell) a b t L) p.parents.length k = val L p.parents.length k := by
  have R := ruF hv hr
  have hRc := R.c
  rw [mixR_val hL (by omega) R.u ha hb ht (by omega) hk, if_neg (by omega), if_neg (fun q => ?_)]
  · omega
  · have := up_last hv.1 R.c0 R.c q.1.symm
    have h2 := q.2
    unfold Passing.gk at h2
    rw [if_pos this, hf] at h2
    cases h2
theorem chs_free {p : Passing} (hv : p.Ok) {cs : List Int} (hc : p.Cnts cs) {L : List (List Int)} {B : Int} (hL : Sh (p.parents.length + 1) p.kinds.toNat L B) {j : Nat} (hj : j < p.kinds.toNat) (hf : p.free.getD j false = true) : ∀ k, k ≤ p.rules.length → val (p.chs cs L k) p.parents.length j = val L p.parents.length j
  | 0, _ => rfl
  | k + 1, hk => by
    obtain ⟨h1, h2⟩ := Cn hc (k := k) (by omega)
    have hm := List.getElem_mem (show k < p.rules.length by omega)
    have R := ruF hv hm
    have H := chs_sh hv hc hL k (by omega)
    rw [chs_succ (by omega) h1]
    unfold Passing.gv
    rw [mix_free hv hm (H.tk R h2) R.i R.o (by omega) hj hf]
    unfold Passing.tk
    rw [mix_free hv hm H R.o R.i (by omega) hj hf, chs_free hv hc hL hj hf k (by omega)]
theorem plc_stockOf {n : Nat} {L : List (List Int)} (h : L.length = n + 1) : plc (stockOf n L) = L := by
  rw [stockOf_eq (by omega)]
  unfold plc
  dsimp only
  have : L.drop n = [L[n]'(by omega)] := by
    rw [List.drop_eq_getElem_cons (by omega), List.drop_of_length_le (by omega)]
  rw [← this, List.take_append_drop]
theorem plc_small {p : Passing} {s : Stock} (hs : StkSm p s) : Sh (p.parents.length + 1) p.kinds.toNat (plc s) 3 := by
  have h := plc_sh hs.1
  refine ⟨h.n, fun x hx => ⟨(h.b x hx).1, fun y hy => ?_⟩⟩
  rcases List.mem_append.1 hx with q | q
  · have := hs.2.1 x q y hy; omega
  · rw [List.mem_singleton] at q; subst q; have := hs.2.2 y hy; omega
theorem after_ok {p : Passing} {s : Stock} (hv : PasSm p) (hs : StkSm p s) {cs : List Int} (hc : p.Cnts cs) (hc5 : ∀ x ∈ cs, 0 ≤ x ∧ x ≤ 5) (hN : Nn (p.left s cs)) : p.StockOk (p.after s cs) := by
  have hf := hv.1.1
  have H := chs_small hv hc hc5 (plc_small hs) p.rules.length (Nat.le_refl _)
  have N : Nn (p.chs cs (plc s) p.rules.length) := by
    rw [chs_eq]
    exact gvs_nn hv.1 hc (tks_sh hv.1 hc (plc_sh hs.1) p.rules.length (Nat.le_refl _)) hN _ (Nat.le_refl _)
  have Fr := fun j (hj : j < p.kinds.toNat) hfj => chs_free hv.1 hc (plc_sh hs.1) hj hfj p.rules.length (Nat.le_refl _)
  unfold Passing.after
  generalize p.chs cs (plc s) p.rules.length = C at H N Fr
  have hn := H.n
  have bag : ∀ x ∈ C, BagK p.kinds x := fun x hx => by
    have h1 := (H.b x hx).1
    have := hf.1
    have := hv.2.2.2.1
    exact ⟨⟨fun y hy => ⟨N x hx y hy, by have := (H.b x hx).2 y hy; omega⟩, by omega⟩, by omega⟩
  rw [stockOf_eq (by omega)]
  refine ⟨by simp; omega, bag _ (List.getElem_mem _), fun b hb => bag b (List.mem_of_mem_take hb), fun i hi ⟨q1, q2⟩ => ?_⟩
  dsimp only at hi q1
  have hk : i < p.kinds.toNat := by have := (H.b _ (List.getElem_mem (show p.parents.length < C.length by omega))).1; omega
  have hfi : p.free.getD i false = true := by rw [List.getD_eq_getElem?_getD, q2]; rfl
  have e := Fr i hk hfi
  rw [val_eq (by omega) hi] at e
  obtain ⟨a1, a2, a3, a4⟩ := hs.1
  have hpl : (plc s).length = p.parents.length + 1 := (plc_sh hs.1).n
  have hla : (plc s)[p.parents.length]'(by omega) = s.around := by
    unfold plc
    rw [List.getElem_append_right (by omega)]; simp [a1]
  have hai : i < s.around.length := by have := a2.2; omega
  rw [val_eq (by omega) (by rw [hla]; exact hai)] at e
  simp only [hla] at e
  have := a4 i hai
  have := (a2.1.1 _ (List.getElem_mem hai)).1
  have : ¬ 0 < s.around[i] := fun q => a4 i hai ⟨q, q2⟩
  omega
end Go.Proofs.Ytahjliejgjjfeaa

/-
  Choices: IsChoice, IsMaximal of the reference and of the program. No condition.
-/
namespace Go.Proofs.Ytahjliejgjjfeaa
open Go.AI
set_option maxRecDepth 8000
set_option maxHeartbeats 1600000





end Go.Proofs.Ytahjliejgjjfeaa
