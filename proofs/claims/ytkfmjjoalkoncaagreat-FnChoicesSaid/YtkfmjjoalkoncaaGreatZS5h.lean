/-
  Small functions of the laws over systems. No condition.
-/
import Derived.Test.YtkfmjjoalkoncaaGreatZS3a
import Derived.Test.YtkfmjjoalkoncaaGreatZS3f
import Derived.Test.YtkfmjjoalkoncaaGreatZJO
namespace Go.Proofs.YtkfmjjoalkoncaaGreat
open Go.AI
set_option maxRecDepth 8000
set_option maxHeartbeats 1600000

theorem c_a2Long (a b : List UInt8) : Gives Tryz.prog 4 [.sl (a.map encY), .sl (b.map encY)] (.raw (.bool (dec (3000 < (a.length : Int) ∨ 3000 < (b.length : Int))))) := by
  refine fn_of_run tyOk ztOk mix Tryz.func4 rfl (by decide) Tryz.ntmps4 (fun w0 h => ?_)
  repeat' (first
      | (refine j_go ?_; first
        | refine j_op0 rfl rfl rfl rfl ?_ | refine j_off rfl rfl rfl ?_ | (refine j_kLen rfl ?_; first | refine j_len rfl rfl rfl rfl rfl rfl ?_) | (refine j_kGuard rfl ?_; first | (refine (j_if rfl rfl rfl (fun hb => ?_) (fun hb => ?_)) <;> first | (exfalso; omega) | skip)))
      | refine j_nil ?_
      | (refine r_go ?_; first | refine run_seq ?_ | refine run_region ?_ | refine run_ret ?_)
      | refine seqQ_normal ?_)
  all_goals first
    | exact end1 rfl (by first | exact List.Sublist.refl _ | exact sub1 | exact sub2 | exact sub3) (rbT (.inl (by assumption))) (.inl rfl)
    | exact end1 rfl (List.Sublist.refl _) (rbD ⟨fun q => .inr q, fun q => q.resolve_left (by assumption)⟩) (.inl rfl)
    | trace_state
end Go.Proofs.YtkfmjjoalkoncaaGreat

/-
  The choice that takes rules in order, on both sides: FirstChoice. No condition.
-/
namespace Go.Proofs.YtkfmjjoalkoncaaGreat
open Go.AI
set_option maxRecDepth 8000
set_option maxHeartbeats 1600000

/-- How often a list of numbers can be taken from another one, by the first k numbers; at most 1000. -/
def tmsK (a b : List Int) : Nat → Int
  | 0 => 1000
  | k + 1 => if 0 < a.getD k 0 then min (tmsK a b k) (b.getD k 0 / a.getD k 0) else tmsK a b k
def bestK (a b : List Int) : Nat → Int
  | 0 => -1
  | k + 1 => if 0 < a.getD k 0 ∧ (bestK a b k < 0 ∨ b.getD k 0 / a.getD k 0 < bestK a b k) then b.getD k 0 / a.getD k 0 else bestK a b k
def tms (a b : List Int) : Int := tmsK a b a.length
theorem div_bnd {x y : Int} (hx : 0 ≤ x ∧ x ≤ 1000) (hy : 0 < y) : 0 ≤ x / y ∧ x / y ≤ 1000 ∧ x / y * y ≤ x := by
  have h1 : 0 ≤ x / y := Int.ediv_nonneg hx.1 (by omega)
  have h2 : x / y ≤ x := Int.ediv_le_self _ hx.1
  have h3 : x / y * y ≤ x := Int.ediv_mul_le _ (by omega)
  exact ⟨h1, by omega, h3⟩
theorem tmsK_bnd {a b : List Int} (hb : ∀ x ∈ b, 0 ≤ x ∧ x ≤ 1000) (hl : a.length ≤ b.length) : ∀ k, k ≤ a.length → 0 ≤ tmsK a b k ∧ tmsK a b k ≤ 1000
  | 0, _ => by simp [tmsK]
  | k + 1, hk => by
    have ih := tmsK_bnd hb hl k (by omega)
    rw [tmsK, getD_get (by omega : k < a.length), getD_get (by omega : k < b.length)]
    by_cases h : 0 < a[k]
    · rw [if_pos h]
      have := div_bnd (hb _ (List.getElem_mem (by omega : k < b.length))) h
      omega
    · rw [if_neg h]; exact ih
theorem tmsK_le {a b : List Int} (hl : a.length ≤ b.length) {i : Nat} (hi : i < a.length) (h : 0 < a[i]) : ∀ k, k ≤ a.length → i < k → tmsK a b k ≤ b[i] / a[i]
  | 0, _, q => absurd q (by omega)
  | k + 1, hk, q => by
    rw [tmsK, getD_get (by omega : k < a.length), getD_get (by omega : k < b.length)]
    by_cases e : i = k
    · subst e; rw [if_pos h]; omega
    · have ih := tmsK_le hl hi h k (by omega) (by omega)
      split <;> omega
theorem best_tms {a b : List Int} (hb : ∀ x ∈ b, 0 ≤ x ∧ x ≤ 1000) (hl : a.length ≤ b.length) : ∀ k, k ≤ a.length → (bestK a b k = -1 ∧ tmsK a b k = 1000 ∧ ∀ i (h : i < a.length), i < k → ¬ 0 < a[i]) ∨ (bestK a b k = tmsK a b k ∧ 0 ≤ bestK a b k)
  | 0, _ => .inl ⟨rfl, rfl, fun _ _ q => absurd q (by omega)⟩
  | k + 1, hk => by
    have ih := best_tms hb hl k (by omega)
    have t1 := tmsK_bnd hb hl k (by omega)
    rw [bestK, tmsK, getD_get (by omega : k < a.length), getD_get (by omega : k < b.length)]
    by_cases h : 0 < a[k]
    · have d := div_bnd (hb _ (List.getElem_mem (by omega : k < b.length))) h
      rw [if_pos h]
      right
      rcases ih with ⟨i1, i2, _⟩ | ⟨i1, i2⟩
      · rw [if_pos ⟨h, .inl (by omega)⟩, i2]; omega
      · by_cases q : b[k] / a[k] < bestK a b k
        · rw [if_pos ⟨h, .inr q⟩]; omega
        · rw [if_neg (fun p => by rcases p.2 with p | p <;> omega)]; omega
    · rw [if_neg h, if_neg (fun p => h p.1)]
      rcases ih with ⟨i1, i2, i3⟩ | ih
      · exact .inl ⟨i1, i2, fun i hi q => by
          by_cases e : i = k
          · subst e; exact h
          · exact i3 i hi (by omega)⟩
      · exact .inr ih
theorem tot_zero : ∀ {l : List Int}, (∀ x ∈ l, x = 0) → tot l = 0
  | [], _ => rfl
  | x :: l, h => by
    have := tot_zero (l := l) (fun y hy => h y (by simp [hy]))
    have := h x (by simp)
    unfold tot at *
    simp only [sumF]; omega
theorem best_eq {a b : List Int} (hb : ∀ x ∈ b, 0 ≤ x ∧ x ≤ 1000) (hl : a.length ≤ b.length) (ha : ∀ x ∈ a, 0 ≤ x ∧ x ≤ 1000) (ht : ¬ tot a = 0) : bestK a b a.length = tms a b := by
  rcases best_tms hb hl a.length (Nat.le_refl _) with ⟨_, _, h⟩ | ⟨h, _⟩
  · exfalso
    apply ht
    have : ∀ x ∈ a, x = 0 := fun x hx => by
      obtain ⟨i, hi, rfl⟩ := List.getElem_of_mem hx
      have := h i hi hi; have := ha _ (List.getElem_mem hi); omega
    exact tot_zero this
  · exact h
theorem tms_succ {a b : List Int} {k : Nat} (hk : k < a.length) (hkb : k < b.length) : tmsK a b (k + 1) = if 0 < a[k] then min (tmsK a b k) (b[k] / a[k]) else tmsK a b k := by
  rw [tmsK, getD_get hk, getD_get hkb]
theorem best_succ {a b : List Int} {k : Nat} (hk : k < a.length) (hkb : k < b.length) : bestK a b (k + 1) = if 0 < a[k] ∧ (bestK a b k < 0 ∨ b[k] / a[k] < bestK a b k) then b[k] / a[k] else bestK a b k := by
  rw [bestK, getD_get hk, getD_get hkb]

structure TmOk (a b : List Int) : Prop where
  l : a.length = b.length
  n : a.length ≤ 1000000
  a : ∀ x ∈ a, 0 ≤ x ∧ x ≤ 1000
  b : ∀ x ∈ b, 0 ≤ x ∧ x ≤ 1000

theorem c_l01Times (a b : List Int) (hh : TmOk a b) : Gives Tryz.prog 112 [.sl (a.map Go.AI.encI), .sl (b.map Go.AI.encI)] (.int (bestK a b a.length)) := by
  refine fn_of_run tyOk ztOk mix Tryz.func112 rfl (by decide) Tryz.ntmps112 (fun w0 h => ?_)
  have hl := hh.l
  have hn := hh.n
  repeat' (first
      | (refine j_go ?_; first
        | refine j_op0 rfl rfl rfl rfl ?_)
      | refine j_nil ?_
      | (refine r_go ?_; first | refine run_seq ?_ | refine run_region ?_ | refine run_block ?_)
      | refine seqQ_normal ?_)
  refine run_loop (fun k : Nat => [(0, .sl (a.map Go.AI.encI)), (1, .sl (b.map Go.AI.encI)), (5, .int (bestK a b k)), (6, .int (k : Int))]) (fun _ => _) (fun k => k ≤ a.length ∧ (True)) (fun k => a.length - k) 0 ⟨rfl, rfl, (by first | rfl | exact si (by first | omega | (simp; done) | (simp [sumF]; done) | (simp; omega)) | exact raw_f (by simp) | exact raw_t (by simp) | exact sa (by first | (rw [catK_zero]; rfl) | (rw [catK_zero, List.append_nil]; rfl) | (rw [catK_zero, List.append_nil]) | (rw [joinK_zero, List.append_nil]; rfl) | (rw [joinK_zero, List.append_nil]) | (simp [catK]; done))), rfl, trivial⟩ rfl ⟨Nat.zero_le _, by first | (intros; omega) | (simp; done) | rfl | trivial | exact ⟨by simp [sumF], by intros; omega⟩ | exact ⟨by omega, by simp⟩⟩ (fun k ⟨kl, kp⟩ => ?_)
  by_cases hk : k < a.length
  · have hkb : k < b.length := by omega
    have ha := hh.a _ (List.getElem_mem hk)
    have hb' := hh.b _ (List.getElem_mem hkb)
    have es := best_succ (a := a) (b := b) hk hkb
    repeat' (first
      | (refine j_go ?_; first
        | refine j_op0 rfl rfl rfl rfl ?_ | refine j_off rfl rfl rfl ?_ | (refine j_kIdx rfl ?_; first | refine j_idx rfl rfl rfl rfl rfl (by omega) rfl rfl rfl ?_) | (refine j_kBin rfl ?_; first | refine j_in rfl rfl ⟨by omega, by omega⟩ rfl rfl ?_ | refine j_quo rfl rfl rfl rfl (by omega) rfl rfl ?_) | (refine j_kLen rfl ?_; first | refine j_len rfl rfl rfl rfl rfl rfl ?_) | (refine j_kGuard rfl ?_; first | (refine (j_if rfl rfl rfl (fun hb => ?_) (fun hb => ?_)) <;> first | (exfalso; omega) | skip)))
      | refine j_nil ?_
      | (refine r_go ?_; first | refine run_seq ?_ | refine run_region ?_ | refine run_cond_t rfl ?_ | refine run_cond_f rfl ?_ | (refine (run_if rfl (fun hb => ?_) (fun hb => ?_)) <;> first | (exfalso; omega) | skip) | refine run_block ?_ | refine run_skip ?_ | refine run_regionD (by kernel_rfl) ?_)
      | refine seqQ_normal ?_ | refine blockQ_normal ?_)
    all_goals first
      | exact loopQ_nextD (k + 1) ⟨by omega, trivial⟩ (by omega) (by first | exact List.Sublist.refl _ | exact sub1 | exact sub2 | exact sub3) ⟨rfl, rfl, (by first | rfl | (rw [es, if_pos ⟨by assumption, by omega⟩]; rfl) | exact si (by omega)), nx _, trivial⟩
      | exact loopQ_nextD (k + 1) ⟨by omega, trivial⟩ (by omega) (by first | exact List.Sublist.refl _ | exact sub1 | exact sub2 | exact sub3) ⟨rfl, rfl, (by first | rfl | (rw [es, if_neg (fun q => by omega)]; rfl) | exact si (by omega)), nx _, trivial⟩
      | trace_state
  · have hke : k = a.length := by omega
    subst hke
    repeat' (first
      | (refine j_go ?_; first
        | refine j_op0 rfl rfl rfl rfl ?_ | (refine j_kLen rfl ?_; first | refine j_len rfl rfl rfl rfl rfl rfl ?_))
      | refine j_nil ?_
      | (refine r_go ?_; first | refine run_seq ?_ | refine run_region ?_ | (refine (run_if rfl (fun hb => ?_) (fun hb => ?_)) <;> first | (exfalso; omega) | skip) | refine run_ret ?_ | refine run_exit ?_)
      | refine seqQ_normal ?_ | refine seqQ_exit ?_ | refine blockQ_eq ?_ | refine loopQ_exit ?_)
    exact end1 rfl (List.Sublist.refl _) (rfl) (.inl rfl)

theorem c_timesIn (a b : List Int) (hh : TmOk a b) : Gives Tryz.prog 51 [.sl (a.map Go.AI.encI), .sl (b.map Go.AI.encI)] (.int (tms a b)) := by
  refine fn_of_run tyOk ztOk mix Tryz.func51 rfl (by decide) Tryz.ntmps51 (fun w0 h => ?_)
  have hl := hh.l
  have hn := hh.n
  repeat' (first
      | (refine j_go ?_; first
        | refine j_op0 rfl rfl rfl rfl ?_ | (refine j_kLen rfl ?_; first | refine j_len rfl rfl rfl rfl rfl rfl ?_))
      | refine j_nil ?_
      | (refine r_go ?_; first | refine run_seq ?_ | refine run_region ?_ | refine run_block ?_)
      | refine seqQ_normal ?_)
  refine run_loop (fun k : Nat => [(1, .sl (b.map Go.AI.encI)), (8, .sl (a.map Go.AI.encI)), (9, .int a.length), (5, .int (tmsK a b k)), (10, .int (k : Int))]) (fun _ => _) (fun k => k ≤ a.length ∧ (True)) (fun k => a.length - k) 0 ⟨rfl, rfl, rfl, (by first | rfl | exact si (by first | omega | (simp; done) | (simp [sumF]; done) | (simp; omega)) | exact raw_f (by simp) | exact raw_t (by simp) | exact sa (by first | (rw [catK_zero]; rfl) | (rw [catK_zero, List.append_nil]; rfl) | (rw [catK_zero, List.append_nil]) | (rw [joinK_zero, List.append_nil]; rfl) | (rw [joinK_zero, List.append_nil]) | (simp [catK]; done))), rfl, trivial⟩ rfl ⟨Nat.zero_le _, by first | (intros; omega) | (simp; done) | rfl | trivial | exact ⟨by simp [sumF], by intros; omega⟩ | exact ⟨by omega, by simp⟩⟩ (fun k ⟨kl, kp⟩ => ?_)
  by_cases hk : k < a.length
  · have hkb : k < b.length := by omega
    have ha := hh.a _ (List.getElem_mem hk)
    have hb' := hh.b _ (List.getElem_mem hkb)
    have es := tms_succ (a := a) (b := b) hk hkb
    repeat' (first
      | (refine j_go ?_; first
        | refine j_op0 rfl rfl rfl rfl ?_ | (refine j_kIdx rfl ?_; first | refine j_idx rfl rfl rfl rfl rfl (by omega) rfl rfl rfl ?_) | (refine j_kBin rfl ?_; first | refine j_in rfl rfl ⟨by omega, by omega⟩ rfl rfl ?_ | refine j_quo rfl rfl rfl rfl (by omega) rfl rfl ?_))
      | refine j_nil ?_
      | (refine r_go ?_; first | refine run_seq ?_ | refine run_region ?_ | (refine (run_if rfl (fun hb => ?_) (fun hb => ?_)) <;> first | (exfalso; omega) | skip) | refine run_block ?_ | refine run_skip ?_)
      | refine seqQ_normal ?_ | refine blockQ_normal ?_)
    all_goals first
      | exact loopQ_nextD (k + 1) ⟨by omega, trivial⟩ (by omega) (by first | exact List.Sublist.refl _ | exact sub1 | exact sub2 | exact sub3) ⟨rfl, rfl, rfl, (by first | rfl | (rw [es, if_pos (by assumption)]; rfl) | exact si (by omega)), nx _, trivial⟩
      | exact loopQ_nextD (k + 1) ⟨by omega, trivial⟩ (by omega) (by first | exact List.Sublist.refl _ | exact sub1 | exact sub2 | exact sub3) ⟨rfl, rfl, rfl, (by first | rfl | (rw [es, if_neg (by assumption)]; rfl) | exact si (by omega)), nx _, trivial⟩
      | trace_state
  · have hke : k = a.length := by omega
    subst hke
    repeat' (first
      | (refine j_go ?_; first
        | refine j_op0 rfl rfl rfl rfl ?_)
      | refine j_nil ?_
      | (refine r_go ?_; first | refine run_seq ?_ | refine run_region ?_ | (refine (run_if rfl (fun hb => ?_) (fun hb => ?_)) <;> first | (exfalso; omega) | skip) | refine run_ret ?_ | refine run_exit ?_)
      | refine seqQ_normal ?_ | refine seqQ_exit ?_ | refine blockQ_eq ?_ | refine loopQ_exit ?_)
    exact end1 rfl (List.Sublist.refl _) (rfl) (.inl rfl)

/-- One rule taken as often as it can be. -/
def fcS (s : System) (q : List Int × List (List Int)) (x : Int) : List Int × List (List Int) :=
  (q.1.set x.toNat (tms (s.rules.getD x.toNat default).need (q.2.getD (s.rules.getD x.toNat default).cell.toNat [])),
   q.2.set (s.rules.getD x.toNat default).cell.toNat (plusL (q.2.getD (s.rules.getD x.toNat default).cell.toNat []) (s.rules.getD x.toNat default).need (0 - tms (s.rules.getD x.toNat default).need (q.2.getD (s.rules.getD x.toNat default).cell.toNat []))))
def fcF (s : System) (t : State) (l : List Int) : List Int × List (List Int) := l.foldl (fcS s) (List.replicate s.rules.length 0, t.bags)
structure FcOk (s : System) (t : State) (q : List Int × List (List Int)) : Prop where
  o : q.1.length = s.rules.length
  r : q.2.length = t.bags.length
  b : ∀ b ∈ q.2, (b.length : Int) = s.kinds ∧ ∀ x ∈ b, 0 ≤ x ∧ x ≤ 1000
theorem fc_tm {s : System} {t : State} {q : List Int × List (List Int)} (hv : s.Ok) (hq : FcOk s t q) {k : Nat} (hk : k < s.rules.length) (hcl : s.rules[k].cell.toNat < q.2.length) : TmOk s.rules[k].need q.2[s.rules[k].cell.toNat] := by
  have hn := (hv.2.2 k hk).1.2.2.2.2.1
  have hb := hq.b _ (List.getElem_mem hcl)
  have k8 := hv.1.1
  exact ⟨by have := hb.1; have := hn.2; omega, by have := hn.2; omega, fun x hx => hn.1.1 x hx, hb.2⟩
theorem fc_cell {s : System} {t : State} {q : List Int × List (List Int)} (hv : s.Ok) (ht : s.StateOk t) (hq : FcOk s t q) {k : Nat} (hk : k < s.rules.length) : s.rules[k].cell.toNat < q.2.length := by
  have := (hv.2.2 k hk).1.1
  have := ht.2.1
  have := hq.r
  omega
theorem fcS_get {s : System} {q : List Int × List (List Int)} {k : Nat} (hk : k < s.rules.length) (hcl : s.rules[k].cell.toNat < q.2.length) : fcS s q (k : Int) = (q.1.set k (tms s.rules[k].need q.2[s.rules[k].cell.toNat]), q.2.set s.rules[k].cell.toNat (plusL q.2[s.rules[k].cell.toNat] s.rules[k].need (0 - tms s.rules[k].need q.2[s.rules[k].cell.toNat]))) := by
  unfold fcS
  rw [Int.toNat_natCast, getD_get hk, getD_get hcl]
theorem tms_bnd {a b : List Int} (hh : TmOk a b) : 0 ≤ tms a b ∧ tms a b ≤ 1000 := tmsK_bnd hh.b (by have := hh.l; omega) _ (Nat.le_refl _)
theorem left_bnd {a b : List Int} (hh : TmOk a b) : ∀ x ∈ plusL b a (0 - tms a b), 0 ≤ x ∧ x ≤ 1000 := by
  intro x hx
  unfold plusL at hx
  obtain ⟨i, hi, rfl⟩ := List.getElem_of_mem hx
  rw [List.length_zipWith] at hi
  rw [List.getElem_zipWith]
  have h1 := hh.a _ (List.getElem_mem (n := i) (by omega))
  have h2 := hh.b _ (List.getElem_mem (n := i) (by omega))
  have h3 := tms_bnd hh
  by_cases q : 0 < a[i]'(by omega)
  · have h4 := tmsK_le (b := b) (by have := hh.l; omega) (by omega : i < a.length) q a.length (Nat.le_refl _) (by omega)
    have h5 := div_bnd h2 q
    have h6 : tms a b * a[i]'(by omega) ≤ b[i]'(by omega) / a[i]'(by omega) * a[i]'(by omega) := Int.mul_le_mul_of_nonneg_right h4 (by omega)
    have h7 : 0 ≤ tms a b * a[i]'(by omega) := Int.mul_nonneg h3.1 (by omega)
    have h8 : a[i]'(by omega) * (0 - tms a b) = - (tms a b * a[i]'(by omega)) := by rw [Int.mul_sub, Int.mul_zero, Int.mul_comm]; omega
    omega
  · have : a[i]'(by omega) = 0 := by omega
    rw [this]; omega
theorem fcS_ok {s : System} {t : State} {q : List Int × List (List Int)} (hv : s.Ok) (ht : s.StateOk t) (hq : FcOk s t q) {k : Nat} (hk : k < s.rules.length) : FcOk s t (fcS s q (k : Int)) := by
  have hcl := fc_cell hv ht hq hk
  have tm := fc_tm hv hq hk hcl
  rw [fcS_get hk hcl]
  refine ⟨by rw [List.length_set]; exact hq.o, by rw [List.length_set]; exact hq.r, fun b hb => ?_⟩
  rcases List.mem_or_eq_of_mem_set hb with h | h
  · exact hq.b b h
  · subst h
    have h1 := hq.b _ (List.getElem_mem hcl)
    exact ⟨by unfold plusL; rw [List.length_zipWith]; have := h1.1; have := tm.l; omega, left_bnd tm⟩
theorem fcF_app (s : System) (t : State) (l : List Int) (x : Int) : fcF s t (l ++ [x]) = fcS s (fcF s t l) x := by
  unfold fcF; rw [List.foldl_append]; rfl
theorem fcF_ok0 {s : System} {t : State} (ht : s.StateOk t) : FcOk s t (List.replicate s.rules.length 0, t.bags) := ⟨by simp, rfl, fun b hb => by
    obtain ⟨i, hi, rfl⟩ := List.getElem_of_mem hb
    have := (ht.2.2.2.2 i hi).1
    exact ⟨this.2, fun x hx => this.1.1 x hx⟩⟩
theorem fold_ok {s : System} {t : State} (hv : s.Ok) (ht : s.StateOk t) : ∀ (l : List Int) (q : List Int × List (List Int)), FcOk s t q → (∀ x ∈ l, ∃ i : Nat, x = (i : Int) ∧ i < s.rules.length) → FcOk s t (l.foldl (fcS s) q)
  | [], _, hq, _ => hq
  | x :: l, q, hq, hx => by
    obtain ⟨i, rfl, hi⟩ := hx x (by simp)
    exact fold_ok hv ht l _ (fcS_ok hv ht hq hi) (fun y hy => hx y (by simp [hy]))
theorem fcF_ok {s : System} {t : State} (hv : s.Ok) (ht : s.StateOk t) {l : List Int} (hl : ∀ x ∈ l, ∃ i : Nat, x = (i : Int) ∧ i < s.rules.length) : FcOk s t (fcF s t l) := fold_ok hv ht l _ (fcF_ok0 ht) hl
theorem idx_ok {s : System} {t : State} {k : Nat} : ∀ x ∈ idxL s t k, ∃ i : Nat, x = (i : Int) ∧ i < s.rules.length := fun x hx => by
  obtain ⟨i, e, _, hi, _⟩ := idxL_mem.1 hx
  exact ⟨i, e, hi⟩
/-- What the reference has behind k rules. -/
noncomputable def fcK (s : System) (t : State) (k : Nat) : List Int × List (List Int) := fcF s t (idxL s t k)
theorem fcK_ok {s : System} {t : State} (hv : s.Ok) (ht : s.StateOk t) (k : Nat) : FcOk s t (fcK s t k) := fcF_ok hv ht idx_ok
theorem fcK_yes {s : System} {t : State} {k : Nat} (hv : s.Ok) (ht : s.StateOk t) (hk : k < s.rules.length) (ha : App s t s.rules[k]) (hcl : s.rules[k].cell.toNat < (fcK s t k).2.length) : fcK s t (k + 1) = ((fcK s t k).1.set k (tms s.rules[k].need (fcK s t k).2[s.rules[k].cell.toNat]), (fcK s t k).2.set s.rules[k].cell.toNat (plusL (fcK s t k).2[s.rules[k].cell.toNat] s.rules[k].need (0 - tms s.rules[k].need (fcK s t k).2[s.rules[k].cell.toNat]))) := by
  rw [← fcS_get hk hcl]
  unfold fcK
  rw [← idxL_yes hk ha, fcF_app]
theorem fcK_no {s : System} {t : State} {k : Nat} (hk : k < s.rules.length) (ha : ¬ App s t s.rules[k]) : fcK s t (k + 1) = fcK s t k := by
  unfold fcK
  rw [← idxL_no hk ha]
theorem fcK_hi {s : System} {t : State} (hv : s.Ok) (ht : s.StateOk t) : ∀ k, k ≤ s.rules.length → ∀ i (h : i < (fcK s t k).1.length), k ≤ i → (fcK s t k).1[i] = 0
  | 0, _, i, h, _ => by
    have e : (fcK s t 0).1 = List.replicate s.rules.length 0 := rfl
    simp only [e, List.getElem_replicate]
  | k + 1, hk, i, h, hi => by
    have hk' : k < s.rules.length := by omega
    by_cases ha : App s t s.rules[k]
    · have hcl := fc_cell hv ht (fcK_ok hv ht k) hk'
      have e := congrArg Prod.fst (fcK_yes hv ht hk' ha hcl)
      simp only at e
      simp only [e]
      rw [List.getElem_set_ne (by omega)]
      exact fcK_hi hv ht k (by omega) i (by have := (fcK_ok hv ht k).o; have := (fcK_ok hv ht (k + 1)).o; omega) (by omega)
    · simp only [fcK_no hk' ha]
      exact fcK_hi hv ht k (by omega) i (by have := (fcK_ok hv ht k).o; have := (fcK_ok hv ht (k + 1)).o; omega) (by omega)
theorem out_yes {s : System} {t : State} {k : Nat} (hv : s.Ok) (ht : s.StateOk t) (hk : k < s.rules.length) (ha : App s t s.rules[k]) (hcl : s.rules[k].cell.toNat < (fcK s t k).2.length) : (fcK s t k).1.take k ++ [tms s.rules[k].need (fcK s t k).2[s.rules[k].cell.toNat]] = (fcK s t (k + 1)).1.take (k + 1) := by
  have o := (fcK_ok hv ht k).o
  rw [fcK_yes hv ht hk ha hcl]
  simp only
  rw [List.take_succ_eq_append_getElem (by rw [List.length_set]; omega), List.getElem_set_self, List.take_set_of_le (Nat.le_refl _)]
theorem out_no {s : System} {t : State} {k : Nat} (hv : s.Ok) (ht : s.StateOk t) (hk : k < s.rules.length) (ha : ¬ App s t s.rules[k]) : (fcK s t k).1.take k ++ [0] = (fcK s t (k + 1)).1.take (k + 1) := by
  have o := (fcK_ok hv ht k).o
  rw [fcK_no hk ha, List.take_succ_eq_append_getElem (by omega), fcK_hi hv ht k (by omega) k (by omega) (Nat.le_refl _)]


theorem idx_get {s : System} {t : State} {j : Nat} (hj : j < (idxL s t s.rules.length).length) : (idxL s t s.rules.length)[j] = (((idxL s t s.rules.length)[j].toNat : Nat) : Int) ∧ (idxL s t s.rules.length)[j].toNat < s.rules.length := by
  obtain ⟨i, e, _, hi, _⟩ := idxL_mem.1 (List.getElem_mem hj)
  exact ⟨by omega, by omega⟩
theorem tk_ok {s : System} {t : State} (hv : s.Ok) (ht : s.StateOk t) (j : Nat) : FcOk s t (fcF s t ((idxL s t s.rules.length).take j)) := fcF_ok hv ht fun x hx => idx_ok x (List.mem_of_mem_take hx)
theorem tk_succ {s : System} {t : State} {j : Nat} (hj : j < (idxL s t s.rules.length).length) (hm : (idxL s t s.rules.length)[j].toNat < s.rules.length) (hcl : s.rules[(idxL s t s.rules.length)[j].toNat].cell.toNat < (fcF s t ((idxL s t s.rules.length).take j)).2.length) : fcF s t ((idxL s t s.rules.length).take (j + 1)) = ((fcF s t ((idxL s t s.rules.length).take j)).1.set (idxL s t s.rules.length)[j].toNat (tms s.rules[(idxL s t s.rules.length)[j].toNat].need (fcF s t ((idxL s t s.rules.length).take j)).2[s.rules[(idxL s t s.rules.length)[j].toNat].cell.toNat]), (fcF s t ((idxL s t s.rules.length).take j)).2.set s.rules[(idxL s t s.rules.length)[j].toNat].cell.toNat (plusL (fcF s t ((idxL s t s.rules.length).take j)).2[s.rules[(idxL s t s.rules.length)[j].toNat].cell.toNat] s.rules[(idxL s t s.rules.length)[j].toNat].need (0 - tms s.rules[(idxL s t s.rules.length)[j].toNat].need (fcF s t ((idxL s t s.rules.length).take j)).2[s.rules[(idxL s t s.rules.length)[j].toNat].cell.toNat]))) := by
  rw [List.take_succ_eq_append_getElem hj, fcF_app]
  exact (congrArg (fcS s (fcF s t ((idxL s t s.rules.length).take j))) (idx_get hj).1).trans (fcS_get hm hcl)
theorem rep0 (n : Nat) : (List.replicate n (List.map ZK.i [ZK.int])).flatten = ((List.replicate n (0 : Int)).map Go.AI.encI).flatten := by rw [List.map_replicate]; rfl

theorem o_firstChoice (s : System) (t : State) (hv : s.Ok) (ht : s.StateOk t) : Does Tryz.prog 23 [.agg (encSystem s), .agg (encState t)] [] (fun v h' => ∃ b cap, v = .os b (fcF s t (idxL s t s.rules.length)).1.length cap ∧ h' = [⟨b, 2, cap * 1, ((fcF s t (idxL s t s.rules.length)).1.map Go.AI.encI).flatten⟩]) := by
  refine fn_of_runD tyOk ztOk mix Tryz.func23 rfl (by decide) Tryz.ntmps23 (fun w0 F => ?_)
  change Run _ _ _ _ _ F
  have hl := hv.1.2.1
  have h16 := hv.2.1
  have k8 := hv.1.1
  have h2 := ht.2.1
  have hbne : t.bags ≠ [] := fun q => by rw [q] at h2; simp at h2; omega
  repeat' (first
      | (refine j_go ?_; first
        | refine j_op0 rfl rfl rfl rfl ?_ | refine j_box rfl rfl rfl rfl rfl rfl ?_)
      | refine j_nil ?_
      | (refine j_goO ?_; first
        | refine j_op0O rfl rfl rfl rfl ?_ | (refine j_kLenO rfl ?_; first | refine j_lenO rfl rfl rfl rfl rfl rfl ?_))
      | (refine r_go ?_; first | refine run_seq ?_ | refine run_region ?_ | refine run_opn 1 [⟨0, false, false, 0⟩, ⟨1, false, false, 0⟩, ⟨2, false, false, 0⟩, ⟨4, false, false, 0⟩, ⟨5, false, false, 0⟩, ⟨3, false, true, 1⟩, ⟨6, false, true, 0⟩, ⟨7, true, false, 0⟩, ⟨8, true, false, 0⟩] rfl rfl (by kernel_rfl) ?_)
      | refine seqQ_normal ?_)
  refine j_twoO rfl rfl rfl rfl (make_at rfl rfl rfl rfl rfl rfl rfl (by omega)) rfl rfl rfl (call_part 0 0 rfl rfl rfl (c_cloneSS t.bags hbne (by omega)) rfl (LeL.refl _)) rfl rfl (fun v h1 hR => ?_) (fun v h1 hR => ?_)
  rotate_left
  obtain ⟨h2, ⟨ob, cp, rfl, rfl⟩, rfl⟩ := hR
  skip
  refine j_makeO rfl (fun _ hk => nomatch hk) rfl rfl rfl rfl rfl rfl rfl rfl (by omega) rfl rfl (fun bo => ?_)
  repeat' (first
      | (refine j_go ?_; first
        | refine j_op0 rfl rfl rfl rfl ?_)
      | (refine j_goO ?_; first
        | refine j_op0O rfl rfl rfl rfl ?_)
      | refine j_nilO ?_
      | (refine r_go ?_; first | refine run_seq ?_ | refine run_region ?_)
      | refine seqQ_normal ?_)
  refine j_view (view_perm (List.Perm.swap _ _ _)) ?_
  rotate_left
  obtain ⟨bo, rfl, rfl⟩ := hR
  skip
  refine j_kCallO rfl rfl rfl rfl ?_
  refine jcdO 0 0 rfl (fun _ hk => nomatch hk) (c_cloneSS t.bags hbne (by omega)) rfl (LeL.refl _) rfl rfl (fun v h1 hR => ?_)
  obtain ⟨ob, cp, rfl, rfl⟩ := hR
  repeat' (first
      | (refine j_go ?_; first
        | refine j_op0 rfl rfl rfl rfl ?_)
      | (refine j_goO ?_; first
        | refine j_op0O rfl rfl rfl rfl ?_)
      | refine j_nilO ?_
      | (refine r_go ?_; first | refine run_seq ?_ | refine run_region ?_)
      | refine seqQ_normal ?_)
  all_goals refine j_view (view_cast 1 rfl (zk_le_rep _ _) rfl) ?_
  all_goals rw [rep0]
  all_goals
    repeat' (first
      | (refine j_go ?_; first
        | refine j_op0 rfl rfl rfl rfl ?_ | (refine j_kLen rfl ?_; first | refine j_len rfl rfl rfl rfl rfl rfl ?_) | (refine j_kCall rfl rfl rfl rfl ?_; first | refine jc (c_applicable _ _ hv ht) (LeL.refl _) rfl rfl ?_))
      | refine j_nil ?_
      | (refine r_go ?_; first | refine run_block ?_)
      | refine seqQ_normal ?_)
  all_goals
    refine run_loop (fun j : Nat => [(2, .ip (encSystem s)), (5, .os (some bo) s.rules.length s.rules.length), (6, .os ob (fcF s t ((idxL s t s.rules.length).take j)).2.length cp), (19, .sl ((idxL s t s.rules.length).map Go.AI.encI)), (20, .int (idxL s t s.rules.length).length), (21, .int (j : Int))]) (fun j => ⟨ob, 24, cp * 1, ((fcF s t ((idxL s t s.rules.length).take j)).2.map (encS Go.AI.encI)).flatten⟩ :: ⟨some bo, 2, s.rules.length * 1, ((fcF s t ((idxL s t s.rules.length).take j)).1.map Go.AI.encI).flatten⟩ :: F)
      (fun j => j ≤ (idxL s t s.rules.length).length) (fun j => (idxL s t s.rules.length).length - j) 0 ⟨rfl, rfl, rfl, rfl, rfl, rfl, trivial⟩ rfl (Nat.zero_le _) (fun j jl => ?_)
    have fok := tk_ok hv ht j
    have ro := fok.o
    have rl := fok.r
    by_cases hj : j < (idxL s t s.rules.length).length
    · have ⟨hx, hm⟩ := idx_get hj
      have il := idxL_len s t s.rules.length
      have hcl := fc_cell hv ht fok hm
      have hcc := (hv.2.2 (idxL s t s.rules.length)[j].toNat hm).1.1
      have tm := fc_tm hv fok hm hcl
      have tb := tms_bnd tm
      have hmo : (idxL s t s.rules.length)[j].toNat < (fcF s t ((idxL s t s.rules.length).take j)).1.length := by omega
      have hfit : Fits (fcF s t ((idxL s t s.rules.length).take j)).2[s.rules[(idxL s t s.rules.length)[j].toNat].cell.toNat] s.rules[(idxL s t s.rules.length)[j].toNat].need (0 - tms s.rules[(idxL s t s.rules.length)[j].toNat].need (fcF s t ((idxL s t s.rules.length).take j)).2[s.rules[(idxL s t s.rules.length)[j].toNat].cell.toNat]) := ⟨by have := tm.l; omega, by have := tm.l; have := tm.n; omega, fun x hx => by have := tm.b x hx; omega, fun y hy => by have := neg_mul_bnd (tm.a y hy) tb; omega⟩
      have rl2 := (tk_ok hv ht (j + 1)).r
      have hne : ((fcF s t ((idxL s t s.rules.length).take j)).2.map (encS Go.AI.encI)).flatten ≠ [] := fun q => by
        have h3 : (((fcF s t ((idxL s t s.rules.length).take j)).2.map (encS Go.AI.encI)).flatten).length = 0 := by rw [q]; rfl
        rw [flat_len (f := encS Go.AI.encI) (z := 1) (fun _ => rfl), rl] at h3
        omega
      refine run_some 0 rfl hne (fun b2 hb2 => ?_)
      subst hb2
      repeat' (first
      | (refine j_go ?_; first
        | refine j_op0 rfl rfl rfl rfl ?_ | (refine j_kIdx rfl ?_; first | refine j_idx rfl rfl rfl rfl rfl (by omega) rfl rfl rfl ?_ | refine j_idxz rfl rfl rfl rfl rfl ⟨by omega, by omega⟩ rfl rfl rfl ?_) | (refine j_kStore rfl ?_; first | refine j_storeN 0 rfl rfl rfl rfl rfl rfl rfl rfl rfl rfl rfl ?_) | refine j_alloc rfl rfl rfl rfl rfl (fun _ => ?_))
      | refine j_nil ?_
      | (refine j_goO ?_; first
        | refine j_op0O rfl rfl rfl rfl ?_ | (refine j_kIdxO rfl ?_; first | refine j_midxzO rfl rfl rfl rfl rfl (by first | omega | (simp only [List.length_append, List.length_cons, List.length_nil]; omega)) rfl rfl ?_) | (refine j_kLoadO rfl ?_; first | refine j_mloadO 0 rfl rfl rfl rfl rfl rfl rfl rfl ?_))
      | (refine r_go ?_; first | refine run_seq ?_ | refine run_region ?_ | (refine (run_if rfl (fun hb => ?_) (fun hb => ?_)) <;> first | (exfalso; omega) | skip) | refine run_block ?_ | refine run_skip ?_ | refine run_opn 6 [⟨0, true, false, 0⟩, ⟨1, true, false, 0⟩, ⟨2, true, false, 0⟩, ⟨3, true, false, 0⟩, ⟨4, true, false, 0⟩, ⟨5, true, false, 0⟩, ⟨6, true, false, 0⟩, ⟨7, true, false, 0⟩, ⟨8, true, false, 0⟩, ⟨9, true, false, 0⟩, ⟨10, true, false, 0⟩, ⟨11, false, true, 0⟩] rfl rfl (by kernel_rfl) ?_)
      | refine seqQ_normal ?_)
      refine j_mloadEO 1 s.rules[(idxL s t s.rules.length)[j].toNat].cell.toNat (g := encS Go.AI.encI) (L := (fcF s t ((idxL s t s.rules.length).take j)).2) (z := 1) rfl rfl rfl rfl rfl (fun _ => rfl) rfl hcl (fun _ => rfl) rfl rfl ?_
      repeat' (first
      | (refine j_goO ?_; first
        | (refine j_kIdxO rfl ?_; first | refine j_midxzO rfl rfl rfl rfl rfl (by first | omega | (simp only [List.length_append, List.length_cons, List.length_nil]; omega)) rfl rfl ?_) | (refine j_kCallO rfl rfl rfl rfl ?_; first | refine jcO (c_timesIn _ _ tm) (LeL.refl _) rfl rfl ?_)))
      refine j_storeEO 2 (idxL s t s.rules.length)[j].toNat (g := Go.AI.encI) (tms s.rules[(idxL s t s.rules.length)[j].toNat].need (fcF s t ((idxL s t s.rules.length).take j)).2[s.rules[(idxL s t s.rules.length)[j].toNat].cell.toNat]) rfl rfl rfl rfl rfl rfl rfl rfl rfl rfl (fun _ => rfl) rfl hmo (fun _ hk => nomatch hk) ?_
      repeat' (first
      | (refine j_goO ?_; first
        | refine j_op0O rfl rfl rfl rfl ?_ | (refine j_kIdxO rfl ?_; first | refine j_midxzO rfl rfl rfl rfl rfl (by first | omega | (simp only [List.length_append, List.length_cons, List.length_nil]; omega)) rfl rfl ?_) | (refine j_kLoadO rfl ?_; first | refine j_mloadO 0 rfl rfl rfl rfl rfl rfl rfl rfl ?_))
      | refine j_nilO ?_
      | (refine r_go ?_; first | refine run_opn 7 [⟨0, true, false, 0⟩, ⟨1, true, false, 0⟩, ⟨2, true, false, 0⟩, ⟨3, true, false, 0⟩, ⟨4, true, false, 0⟩, ⟨5, true, false, 0⟩, ⟨6, true, false, 0⟩, ⟨7, true, false, 0⟩, ⟨8, true, false, 0⟩, ⟨9, true, false, 0⟩, ⟨10, true, false, 0⟩, ⟨11, true, false, 0⟩, ⟨12, true, false, 0⟩, ⟨13, true, false, 0⟩, ⟨14, true, false, 0⟩, ⟨15, true, false, 0⟩, ⟨16, true, false, 0⟩, ⟨17, false, true, 0⟩] rfl rfl (by kernel_rfl) ?_)
      | refine seqQ_normal ?_)
      refine j_mloadEO 1 s.rules[(idxL s t s.rules.length)[j].toNat].cell.toNat (g := encS Go.AI.encI) (L := (fcF s t ((idxL s t s.rules.length).take j)).2) (z := 1) rfl rfl rfl rfl rfl (fun _ => rfl) rfl hcl (fun _ => rfl) rfl rfl ?_
      repeat' (first
      | (refine j_goO ?_; first
        | refine j_op0O rfl rfl rfl rfl ?_ | (refine j_kIdxO rfl ?_; first | refine j_midxzO rfl rfl rfl rfl rfl (by first | omega | (simp only [List.length_append, List.length_cons, List.length_nil]; omega)) rfl rfl ?_) | (refine j_kLoadO rfl ?_; first | refine j_mloadO 0 rfl rfl rfl rfl rfl rfl rfl rfl ?_)))
      refine j_mloadEO 2 (idxL s t s.rules.length)[j].toNat (g := Go.AI.encI) (L := (fcF s t ((idxL s t s.rules.length).take j)).1.set (idxL s t s.rules.length)[j].toNat (tms s.rules[(idxL s t s.rules.length)[j].toNat].need (fcF s t ((idxL s t s.rules.length).take j)).2[s.rules[(idxL s t s.rules.length)[j].toNat].cell.toNat])) (z := 1) rfl rfl rfl rfl rfl (fun _ => rfl) rfl (by rw [List.length_set]; exact hmo) (fun _ => rfl) rfl rfl ?_
      rw [List.getElem_set_self]
      repeat' (first
      | (refine j_goO ?_; first
        | (refine j_kIdxO rfl ?_; first | refine j_midxzO rfl rfl rfl rfl rfl (by first | omega | (simp only [List.length_append, List.length_cons, List.length_nil]; omega)) rfl rfl ?_) | (refine j_kBinO rfl ?_; first | refine j_inO rfl rfl ⟨by omega, by omega⟩ rfl rfl ?_) | (refine j_kCallO rfl rfl rfl rfl ?_; first | refine jcO (c_plus _ _ _ hfit) (LeL.refl _) rfl rfl ?_) | refine j_inO rfl rfl ⟨by omega, by omega⟩ rfl rfl ?_))
      refine j_storeEO 1 s.rules[(idxL s t s.rules.length)[j].toNat].cell.toNat (g := encS Go.AI.encI) (plusL (fcF s t ((idxL s t s.rules.length).take j)).2[s.rules[(idxL s t s.rules.length)[j].toNat].cell.toNat] s.rules[(idxL s t s.rules.length)[j].toNat].need (0 - tms s.rules[(idxL s t s.rules.length)[j].toNat].need (fcF s t ((idxL s t s.rules.length).take j)).2[s.rules[(idxL s t s.rules.length)[j].toNat].cell.toNat])) rfl rfl rfl rfl rfl rfl rfl rfl rfl rfl (fun _ => rfl) rfl hcl (fun _ hk => nomatch hk) ?_
      have es := tk_succ hj hm hcl
      have e1 := congrArg Prod.fst es
      have e2 := congrArg Prod.snd es
      dsimp only at e1 e2
      repeat' (first
      | (refine j_go ?_; first
        | refine j_op0 rfl rfl rfl rfl ?_ | (refine j_kBin rfl ?_; first | refine j_in rfl rfl ⟨by omega, by omega⟩ rfl rfl ?_) | refine j_in rfl rfl ⟨by omega, by omega⟩ rfl rfl ?_)
      | refine j_nil ?_
      | refine j_nilO ?_
      | (refine r_go ?_; first | refine run_region ?_)
      | refine seqQ_normal ?_ | refine blockQ_normal ?_)
      exact loopQ_nextD (j + 1) (by omega) (by omega) (by rw [e1, e2]; exact List.sublist_cons_self _ _) ⟨rfl, rfl, (by rw [rl2, ← rl]; rfl), rfl, rfl, nx _, trivial⟩
    have hje : j = (idxL s t s.rules.length).length := by omega
    subst hje
    rw [List.take_length]
    repeat' (first
      | (refine j_go ?_; first
        | refine j_op0 rfl rfl rfl rfl ?_)
      | refine j_nil ?_
      | (refine r_go ?_; first | refine run_seq ?_ | refine run_region ?_ | (refine (run_if rfl (fun hb => ?_) (fun hb => ?_)) <;> first | (exfalso; omega) | skip) | refine run_ret ?_ | refine run_exit ?_)
      | refine seqQ_normal ?_ | refine seqQ_exit ?_ | refine blockQ_eq ?_ | refine loopQ_exit ?_)
    refine endD_view (view_erase 0) ?_
    exact endD_ret (h1 := [_]) rfl (.cons (.tmp rfl) .nil) (Le.refl _) ⟨some bo, s.rules.length, (by rw [List.take_length] at ro; rw [ro]; rfl), (by rfl)⟩ (.inl rfl)

noncomputable def resFirstChoice (s : System) (t : State) : List Int := lsP (s.Ok ∧ s.StateOk t) (fcK s t s.rules.length).1
noncomputable def codeFirstChoice (s : System) (t : State) : Int := cdP (s.Ok ∧ s.StateOk t)
theorem c_iFirstChoice (s : System) (t : State) : Does Tryz.prog 9 [.agg (encSystem s), .agg (encState t)] [] (OwnI (resFirstChoice s t) (codeFirstChoice s t)) := by
  refine fn_of_runD tyOk ztOk mix Tryz.func9 rfl (by decide) Tryz.ntmps9 (fun w0 F => ?_)
  change Run _ _ _ _ _ F
  unfold resFirstChoice codeFirstChoice
  repeat' (first
      | (refine j_go ?_; first
        | refine j_op0 rfl rfl rfl rfl ?_ | (refine j_kCall rfl rfl rfl rfl ?_; first | refine jc (c_iValidState _ _) (LeL.refl _) rfl rfl ?_) | refine j_box rfl rfl rfl rfl rfl rfl ?_)
      | refine j_nil ?_
      | (refine r_go ?_; first | refine run_seq ?_ | refine run_region ?_ | (refine (run_ifn rfl (fun hb => ?_) (fun hb => ?_)) <;> first | (exfalso; omega) | skip) | refine run_ret ?_ | refine run_skip ?_)
      | refine seqQ_normal ?_ | refine seqQ_ret ?_)
  · rw [ls_f hb, cd_f hb]
    exact endD_view (view_none 2 0 rfl) (endD_ret (h1 := [_]) rfl (.cons (.tmp rfl) (.cons (.tmp rfl) .nil)) (Le.refl _) ⟨none, 0, rfl, rfl⟩ (.inl rfl))
  · have hv := hb
    rw [ls_t hv, cd_t hv]
    skip
    refine j_kCall rfl rfl rfl rfl ?_
    refine jcp _ (o_firstChoice s t hv.1 hv.2) (List.Perm.refl _) (LeL.refl _) rfl rfl (fun v h1 hR => ?_)
    obtain ⟨b, cap, rfl, rfl⟩ := hR
    repeat' (first
      | (refine j_go ?_; first
        | refine j_op0 rfl rfl rfl rfl ?_)
      | refine j_nil ?_
      | (refine r_go ?_; first | refine run_ret ?_)
      | refine seqQ_normal ?_)
    exact endD_ret (h1 := [_]) rfl (.cons (.tmp rfl) (.cons (.tmp rfl) .nil)) (Le.refl _) ⟨b, cap, rfl, rfl⟩ (.inl rfl)

end Go.Proofs.YtkfmjjoalkoncaaGreat

/-
  Packings: how many there are; the reference's side. No condition.
-/
namespace Go.Proofs.YtkfmjjoalkoncaaGreat
open Go.AI
set_option maxRecDepth 8000
set_option maxHeartbeats 1600000

def sumN (f : Nat → Nat) : Nat → Nat
  | 0 => 0
  | k + 1 => sumN f k + f k
theorem sumN_mono {f : Nat → Nat} {a b : Nat} (h : a ≤ b) : sumN f a ≤ sumN f b := by
  induction b with
  | zero => rw [Nat.le_zero.1 h]; exact Nat.le_refl _
  | succ b ih =>
    rcases Nat.lt_or_eq_of_le h with q | rfl
    · exact Nat.le_trans (ih (by omega)) (Nat.le_add_right _ _)
    · exact Nat.le_refl _
/-- None of the parts is within a rest. -/
def fullP (parts : List (List Int)) (rest : List Int) : Prop := ∀ p ∈ parts, ¬ Within p rest
open Classical in
/-- The number of packings. -/
noncomputable def packN (parts : List (List Int)) : List (List Int) → List Int → Nat
  | [], rest => if fullP parts rest then 1 else 0
  | p :: ps, rest => sumN (fun n => packN parts ps (plusL rest p (0 - (n : Int)))) ((tms p rest).toNat + 1)
/-- A bag of so many kinds; one that is not empty. -/
def Bgk (K : Nat) (b : List Int) : Prop := (b.length = K ∧ 1 ≤ K ∧ K ≤ 8) ∧ ∀ x ∈ b, 0 ≤ x ∧ x ≤ 1000
def Ptk (K : Nat) (b : List Int) : Prop := Bgk K b ∧ ¬ tot b = 0
theorem Ptk.tm {K : Nat} {a b : List Int} (ha : Ptk K a) (hb : Bgk K b) : TmOk a b := ⟨by rw [ha.1.1.1, hb.1.1], by have := ha.1.1; omega, ha.1.2, hb.2⟩
theorem Ptk.best {K : Nat} {a b : List Int} (ha : Ptk K a) (hb : Bgk K b) : bestK a b a.length = tms a b := best_eq hb.2 (by rw [ha.1.1.1, hb.1.1]; exact Nat.le_refl _) ha.1.2 ha.2
theorem Ptk.left {K : Nat} {a b : List Int} (ha : Ptk K a) (hb : Bgk K b) {n : Int} (h0 : 0 ≤ n) (hn : n ≤ tms a b) : Bgk K (plusL b a (0 - n)) := by
  have hl := ha.1.1.1
  have hl2 := hb.1.1
  refine ⟨⟨by unfold plusL; rw [List.length_zipWith]; omega, hb.1.2⟩, fun x hx => ?_⟩
  unfold plusL at hx
  obtain ⟨i, hi, rfl⟩ := List.getElem_of_mem hx
  rw [List.length_zipWith] at hi
  rw [List.getElem_zipWith]
  have h1 := ha.1.2 _ (List.getElem_mem (n := i) (by omega))
  have h2 := hb.2 _ (List.getElem_mem (n := i) (by omega))
  by_cases q : 0 < a[i]'(by omega)
  · have h4 := tmsK_le (b := b) (by omega) (by omega : i < a.length) q a.length (Nat.le_refl _) (by omega)
    have h5 := div_bnd h2 q
    have h6 : a[i]'(by omega) * n ≤ b[i]'(by omega) := by
      have : n ≤ b[i]'(by omega) / a[i]'(by omega) := Int.le_trans hn h4
      have h7 := Int.mul_le_mul_of_nonneg_left this h1.1
      have h8 := h5.2.2
      rw [Int.mul_comm] at h8
      omega
    have h7 : 0 ≤ a[i]'(by omega) * n := Int.mul_nonneg h1.1 h0
    rw [Int.mul_sub, Int.mul_zero]
    omega
  · have e : a[i]'(by omega) = 0 := by omega
    rw [e, Int.zero_mul]; omega
theorem Ptk.fits {K : Nat} {a b : List Int} (ha : Ptk K a) (hb : Bgk K b) {n : Int} (h0 : 0 ≤ n) (hn : n ≤ 1000) : Fits b a (0 - n) := by
  have hl := ha.1.1
  have hl2 := hb.1.1
  refine ⟨by omega, by omega, fun x hx => by have := hb.2 x hx; omega, fun y hy => ?_⟩
  have := neg_mul_bnd (ha.1.2 y hy) ⟨h0, hn⟩
  omega
theorem Ptk.tb {K : Nat} {a b : List Int} (ha : Ptk K a) (hb : Bgk K b) : 0 ≤ tms a b ∧ tms a b ≤ 1000 := tms_bnd (ha.tm hb)

theorem c_l01Full (K : Nat) (rest : List Int) (parts : List (List Int)) (hr : Bgk K rest) (hp : ∀ p ∈ parts, Ptk K p) : Gives Tryz.prog 111 [.sl (rest.map Go.AI.encI), .sl (parts.map (encS Go.AI.encI))] (.raw (.bool (dec (fullP parts rest)))) := by
  refine fn_of_run tyOk ztOk mix Tryz.func111 rfl (by decide) Tryz.ntmps111 (fun w0 h => ?_)
  refine run_len (t := 1) rfl (fun hl => ?_)
  rw [List.length_map] at hl
  have rl := hr.1
  repeat' (first
      | (refine j_go ?_; first
        | refine j_op0 rfl rfl rfl rfl ?_)
      | refine j_nil ?_
      | (refine r_go ?_; first | refine run_seq ?_ | refine run_region ?_ | refine run_block ?_)
      | refine seqQ_normal ?_)
  refine run_loop (fun k : Nat => [(0, .sl (rest.map Go.AI.encI)), (1, .sl (parts.map (encS Go.AI.encI))), (5, .int (k : Int))]) (fun _ => _) (fun k => k ≤ parts.length ∧ (∀ i (h : i < parts.length), i < k → ¬ Within parts[i] rest)) (fun k => parts.length - k) 0 ⟨rfl, rfl, rfl, trivial⟩ rfl ⟨Nat.zero_le _, by first | (intros; omega) | (simp; done) | rfl | trivial | exact ⟨by simp [sumF], by intros; omega⟩ | exact ⟨by omega, by simp⟩⟩ (fun k ⟨kl, kp⟩ => ?_)
  by_cases hk : k < parts.length
  · have pl := (hp _ (List.getElem_mem hk)).1.1
    repeat' (first
      | (refine j_go ?_; first
        | refine j_op0 rfl rfl rfl rfl ?_ | (refine j_kIdx rfl ?_; first | refine j_idx rfl rfl rfl rfl rfl (by omega) rfl rfl rfl ?_) | (refine j_kBin rfl ?_; first | refine j_in rfl rfl ⟨by omega, by omega⟩ rfl rfl ?_) | (refine j_kLen rfl ?_; first | refine j_len rfl rfl rfl rfl rfl rfl ?_) | (refine j_kCall rfl rfl rfl rfl ?_; first | refine jc (c_l01Within _ _ (by omega) (by omega)) (LeL.refl _) rfl rfl ?_))
      | refine j_nil ?_
      | (refine r_go ?_; first | refine run_seq ?_ | refine run_region ?_ | (refine (run_if rfl (fun hb => ?_) (fun hb => ?_)) <;> first | (exfalso; omega) | skip) | refine run_block ?_ | refine run_ret ?_ | refine run_skip ?_)
      | refine seqQ_normal ?_ | refine seqQ_ret ?_ | refine blockQ_normal ?_ | refine blockQ_ret ?_ | refine loopQ_ret ?_)
    · exact end1 rfl (by first | exact List.Sublist.refl _ | exact sub1 | exact sub2 | exact sub3) (rbF (fun q => q _ (List.getElem_mem hk) hb)) (.inl rfl)
    · exact loopQ_nextD (k + 1) ⟨by omega, all_step kp (fun _ => hb)⟩ (by omega) (by first | exact List.Sublist.refl _ | exact sub1 | exact sub2 | exact sub3) ⟨rfl, rfl, nx _, trivial⟩
  · repeat' (first
      | (refine j_go ?_; first
        | refine j_op0 rfl rfl rfl rfl ?_ | (refine j_kLen rfl ?_; first | refine j_len rfl rfl rfl rfl rfl rfl ?_))
      | refine j_nil ?_
      | (refine r_go ?_; first | refine run_seq ?_ | refine run_region ?_ | (refine (run_if rfl (fun hb => ?_) (fun hb => ?_)) <;> first | (exfalso; omega) | skip) | refine run_ret ?_ | refine run_exit ?_)
      | refine seqQ_normal ?_ | refine seqQ_exit ?_ | refine blockQ_eq ?_ | refine loopQ_exit ?_)
    exact end1 rfl (by first | exact List.Sublist.refl _ | exact sub1 | exact sub2 | exact sub3) (rbT (fun p hm q => by obtain ⟨i, hi, rfl⟩ := List.getElem_of_mem hm; exact kp i hi (by omega) q)) (.inl rfl)

theorem o_l00Own (l : List Int) (hn : l.length ≤ 1000000) : Does Tryz.prog 41 [.sl (l.map Go.AI.encI)] [] (fun v h1 => ∃ b cap, v = .os b l.length cap ∧ h1 = [⟨b, 2, cap * 1, (l.map Go.AI.encI).flatten⟩]) := by
  refine fn_of_runD tyOk ztOk mix Tryz.func41 rfl (by decide) Tryz.ntmps41 (fun w0 F => ?_)
  change Run _ _ _ _ _ F
  repeat' (first
      | (refine j_go ?_; first
        | refine j_op0 rfl rfl rfl rfl ?_ | (refine j_kBsl rfl ?_; first | refine j_bs0 rfl rfl rfl rfl rfl rfl ?_))
      | refine j_nil ?_
      | (refine r_go ?_; first | refine run_seq ?_ | refine run_region ?_)
      | refine seqQ_normal ?_)
  refine j_append0 (g := Go.AI.encI) l rfl rfl rfl rfl rfl rfl rfl rfl (fun _ => rfl) (fun _ _ => rfl) ⟨by omega, by omega⟩ rfl rfl (fun b' cap' => ?_)
  repeat' (first
      | (refine j_go ?_; first
        | refine j_op0 rfl rfl rfl rfl ?_)
      | refine j_nil ?_
      | (refine r_go ?_; first | refine run_ret ?_)
      | refine seqQ_normal ?_)
  exact endD_ret (h1 := [_]) rfl (.cons (.tmp rfl) .nil) (Le.refl _) ⟨b', cap', rfl, rfl⟩ (.inl rfl)

theorem at_app {α : Type} {pre ps : List α} {p : α} {k : Nat} (hk : k = pre.length) (h : k < (pre ++ p :: ps).length) : (pre ++ p :: ps)[k] = p := by subst hk; simp
end Go.Proofs.YtkfmjjoalkoncaaGreat
