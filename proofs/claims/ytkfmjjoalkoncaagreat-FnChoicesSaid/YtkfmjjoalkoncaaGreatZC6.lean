/-
  Cells choose apart: plain facts on the rules of one cell alone. No condition.
-/
import Derived.Test.YtkfmjjoalkoncaaGreatZS5l
import Derived.Test.YtkfmjjoalkoncaaGreatZS5h
import Derived.Test.YtkfmjjoalkoncaaGreatZS5j
import Derived.Test.YtkfmjjoalkoncaaGreatZSV
namespace Go.Proofs.YtkfmjjoalkoncaaGreat
open Go.AI
set_option maxRecDepth 8000
set_option maxHeartbeats 1600000

/-- A system with the rules of one cell alone. -/
def partL (c : Int) (rs : List Rule) : List Rule := rs.filter (fun r => decide (r.cell = c))
def System.only (s : System) (c : Int) : System := ⟨s.kinds, s.parents, partL c s.rules⟩
/-! ### The first choice -/
theorem fc_y {s : System} {t : State} {k : Nat} {r : Rule} (hv : s.Ok) (ht : s.StateOk t) (hk : k < s.rules.length) (e : s.rules[k] = r) (ha : App s t r) :
    fcK s t (k + 1) = ((fcK s t k).1.set k (tms r.need ((fcK s t k).2.getD r.cell.toNat [])), (fcK s t k).2.set r.cell.toNat (plusL ((fcK s t k).2.getD r.cell.toNat []) r.need (0 - tms r.need ((fcK s t k).2.getD r.cell.toNat [])))) := by
  subst e
  have hcl := fc_cell hv ht (fcK_ok hv ht k) hk
  rw [fcK_yes hv ht hk ha hcl, getD_get hcl]
theorem fc_n {s : System} {t : State} {k : Nat} {r : Rule} (hk : k < s.rules.length) (e : s.rules[k] = r) (ha : ¬ App s t r) : fcK s t (k + 1) = fcK s t k := by
  subst e; exact fcK_no hk ha
open Classical in
/-- How often the rule k is taken. -/
noncomputable def fcX (s : System) (t : State) (k : Nat) : Int := if ∃ h : k < s.rules.length, App s t s.rules[k] then tms (s.rules.getD k default).need ((fcK s t k).2.getD (s.rules.getD k default).cell.toNat []) else 0
theorem fcX_take {s : System} {t : State} {k : Nat} (hv : s.Ok) (ht : s.StateOk t) (hk : k < s.rules.length) : (fcK s t (k + 1)).1.take (k + 1) = (fcK s t k).1.take k ++ [fcX s t k] := by
  unfold fcX
  by_cases ha : App s t s.rules[k]
  · have hcl := fc_cell hv ht (fcK_ok hv ht k) hk
    rw [if_pos ⟨hk, ha⟩, ← out_yes hv ht hk ha hcl, getD_get hk, getD_get hcl]
  · rw [if_neg (fun ⟨_, q⟩ => ha q), out_no hv ht hk ha]
theorem fcX_stay {s : System} {t : State} (hv : s.Ok) (ht : s.StateOk t) {k : Nat} : ∀ m, m ≤ s.rules.length → k < m → (fcK s t m).1.getD k 0 = fcX s t k
  | 0, _, h => absurd h (Nat.not_lt_zero _)
  | m + 1, hm, h => by
    by_cases e : k = m
    · subst e
      have h1 := fcX_take hv ht hm
      have ok := (fcK_ok hv ht (k + 1)).o
      have ok2 := (fcK_ok hv ht k).o
      have h2 : ((fcK s t (k + 1)).1.take (k + 1))[k]? = some (fcX s t k) := by
        rw [h1, List.getElem?_append_right (by rw [List.length_take]; omega), List.length_take, Nat.min_eq_left (by omega), Nat.sub_self]; rfl
      rw [List.getElem?_take_of_lt (by omega)] at h2
      rw [List.getD_eq_getElem?_getD, h2]; rfl
    · have ih := fcX_stay hv ht (k := k) m (by omega) (by omega)
      by_cases ha : App s t s.rules[m]
      · rw [fc_y hv ht hm rfl ha, ← ih]
        simp only [List.getD_eq_getElem?_getD]
        rw [List.getElem?_set_ne (by omega)]
      · rw [fc_n hm rfl ha, ih]
end Go.Proofs.YtkfmjjoalkoncaaGreat

/-
  Packings as lists: which lists are enumerated. Plain; no condition.
-/
namespace Go.Proofs.YtkfmjjoalkoncaaGreat
open Go.AI
set_option maxRecDepth 8000
set_option maxHeartbeats 1600000

/-- The lists of f 0, f 1 .. one behind the other. -/
def flatN {α : Type} (f : Nat → List α) : Nat → List α
  | 0 => []
  | k + 1 => flatN f k ++ f k
theorem mem_flatN {α : Type} {f : Nat → List α} {x : α} : ∀ {k : Nat}, x ∈ flatN f k ↔ ∃ i, i < k ∧ x ∈ f i
  | 0 => ⟨fun h => absurd h List.not_mem_nil, fun ⟨_, h, _⟩ => absurd h (Nat.not_lt_zero _)⟩
  | k + 1 => by
    rw [flatN, List.mem_append, mem_flatN (k := k)]
    constructor
    · rintro (⟨i, h, q⟩ | q)
      · exact ⟨i, by omega, q⟩
      · exact ⟨k, by omega, q⟩
    · rintro ⟨i, h, q⟩
      by_cases e : i = k
      · subst e; exact .inr q
      · exact .inl ⟨i, by omega, q⟩
theorem flatN_len {α : Type} {f : Nat → List α} : ∀ k, (flatN f k).length = sumN (fun n => (f n).length) k
  | 0 => rfl
  | k + 1 => by rw [flatN, List.length_append, flatN_len k, sumN]
theorem flatN_pair {α : Type} {R : α → α → Prop} {f : Nat → List α} : ∀ k, (∀ i, i < k → (f i).Pairwise R) → (∀ i j, i < j → j < k → ∀ x ∈ f i, ∀ y ∈ f j, R x y) → (flatN f k).Pairwise R
  | 0, _, _ => List.Pairwise.nil
  | k + 1, h1, h2 => by
    rw [flatN]
    refine List.pairwise_append.2 ⟨flatN_pair k (fun i hi => h1 i (by omega)) (fun i j hij hj => h2 i j hij (by omega)), h1 k (by omega), fun a ha b hb => ?_⟩
    obtain ⟨i, hi, ha⟩ := mem_flatN.1 ha
    exact h2 i k hi (by omega) a ha b hb
open Classical in
/-- All packings, as lists of counts. -/
noncomputable def packL (parts : List (List Int)) : List (List Int) → List Int → List (List Int)
  | [], rest => if fullP parts rest then [[]] else []
  | p :: ps, rest => flatN (fun n => (packL parts ps (plusL rest p (0 - (n : Int)))).map fun l => (n : Int) :: l) ((tms p rest).toNat + 1)
theorem packL_len (parts : List (List Int)) : ∀ (ps : List (List Int)) (rest : List Int), (packL parts ps rest).length = packN parts ps rest
  | [], rest => by
    unfold packL packN
    split <;> rfl
  | p :: ps, rest => by
    rw [packL, flatN_len, packN]
    congr 1
    funext n
    rw [List.length_map, packL_len parts ps]
/-- What is left of a bag behind so many of each part. -/
def restP : List (List Int) → List Int → List Int → List Int
  | p :: ps, n :: ns, rest => restP ps ns (plusL rest p (0 - n))
  | _, _, rest => rest
theorem restP_nil (ns rest : List Int) : restP [] ns rest = rest := rfl
theorem restP_snoc {p : List Int} {n : Int} : ∀ {ps : List (List Int)} {ns : List Int} (rest : List Int), ps.length = ns.length → restP (ps ++ [p]) (ns ++ [n]) rest = plusL (restP ps ns rest) p (0 - n)
  | [], [], rest, _ => rfl
  | [], _ :: _, _, h => absurd h (by simp)
  | _ :: _, [], _, h => absurd h (by simp)
  | q :: ps, m :: ns, rest, h => by
    have ih := restP_snoc (p := p) (n := n) (ps := ps) (ns := ns) (plusL rest q (0 - m)) (by simpa using h)
    exact ih
theorem plusL_get {a b : List Int} {m : Int} (h : a.length = b.length) (i : Nat) : (plusL a b m).getD i 0 = a.getD i 0 + b.getD i 0 * m := by
  by_cases q : i < a.length
  · have q2 : i < b.length := by omega
    have q3 : i < (List.zipWith (fun x y => x + y * m) a b).length := by rw [List.length_zipWith]; omega
    rw [getD_get q, getD_get q2]
    unfold plusL
    rw [getD_get q3, List.getElem_zipWith]
  · have e1 : a.getD i 0 = 0 := by rw [List.getD_eq_getElem?_getD, List.getElem?_eq_none (by omega)]; rfl
    have e2 : b.getD i 0 = 0 := by rw [List.getD_eq_getElem?_getD, List.getElem?_eq_none (by omega)]; rfl
    have e3 : (plusL a b m).getD i 0 = 0 := by rw [List.getD_eq_getElem?_getD, List.getElem?_eq_none (by unfold plusL; rw [List.length_zipWith]; omega)]; rfl
    rw [e1, e2, e3, Int.zero_mul]; rfl
theorem plusL_len {a b : List Int} {m : Int} (h : a.length = b.length) : (plusL a b m).length = a.length := by unfold plusL; rw [List.length_zipWith]; omega
theorem nn_get {l : List Int} : (∀ x ∈ l, 0 ≤ x) ↔ ∀ i, 0 ≤ l.getD i 0 := by
  constructor
  · intro h i
    by_cases q : i < l.length
    · rw [getD_get q]; exact h _ (List.getElem_mem q)
    · rw [List.getD_eq_getElem?_getD, List.getElem?_eq_none (by omega)]; exact Int.le_refl _
  · intro h x hx
    obtain ⟨i, hi, rfl⟩ := List.getElem_of_mem hx
    have := h i
    rwa [getD_get hi] at this
/-- So many kinds, none below nothing. -/
def Prt (K : Nat) (p : List Int) : Prop := p.length = K ∧ ∀ i, 0 ≤ p.getD i 0
theorem Ptk.prt {K : Nat} {p : List Int} (h : Ptk K p) : Prt K p := ⟨h.1.1.1, nn_get.1 fun x hx => (h.1.2 x hx).1⟩
theorem restP_le {K : Nat} : ∀ {ps : List (List Int)} {ns rest : List Int}, (∀ p ∈ ps, Prt K p) → (∀ n ∈ ns, 0 ≤ n) → rest.length = K → (restP ps ns rest).length = K ∧ ∀ i, (restP ps ns rest).getD i 0 ≤ rest.getD i 0
  | [], ns, rest, _, _, hr => ⟨hr, fun _ => Int.le_refl _⟩
  | p :: ps, [], rest, _, _, hr => ⟨hr, fun _ => Int.le_refl _⟩
  | p :: ps, n :: ns, rest, hp, hn, hr => by
    have hpp := hp p List.mem_cons_self
    have hl : rest.length = p.length := by rw [hr, hpp.1]
    have ih := restP_le (ps := ps) (ns := ns) (rest := plusL rest p (0 - n)) (fun q hq => hp q (List.mem_cons_of_mem _ hq)) (fun m hm => hn m (List.mem_cons_of_mem _ hm)) (by rw [plusL_len hl]; exact hr)
    refine ⟨ih.1, fun i => ?_⟩
    have h1 := ih.2 i
    rw [plusL_get hl] at h1
    have h2 := hpp.2 i
    have h3 := hn n List.mem_cons_self
    have h4 : 0 ≤ p.getD i 0 * n := Int.mul_nonneg h2 h3
    have h5 : p.getD i 0 * (0 - n) = - (p.getD i 0 * n) := by rw [Int.mul_sub, Int.mul_zero]; omega
    show (restP ps ns (plusL rest p (0 - n))).getD i 0 ≤ _
    omega
theorem le_tmsK {a b : List Int} {n : Int} (h1 : n ≤ 1000) (h2 : ∀ i, 0 < a.getD i 0 → n ≤ b.getD i 0 / a.getD i 0) : ∀ k, n ≤ tmsK a b k
  | 0 => h1
  | k + 1 => by
    have ih := le_tmsK h1 h2 k
    unfold tmsK
    split
    · have := h2 k (by assumption); omega
    · exact ih
theorem tot_pos {a : List Int} (h : ∀ i, 0 ≤ a.getD i 0) (ht : ¬ tot a = 0) : ∃ i, 0 < a.getD i 0 := Classical.byContradiction fun q => ht (by
  have z : ∀ x ∈ a, x = 0 := fun x hx => by
    obtain ⟨i, hi, rfl⟩ := List.getElem_of_mem hx
    have h1 := h i
    have h2 : ¬ 0 < a.getD i 0 := fun r => q ⟨i, r⟩
    rw [getD_get hi] at h1 h2
    omega
  unfold tot
  have : ∀ l : List Int, (∀ x ∈ l, x = 0) → sumF (fun x => x) l = 0 := by
    intro l
    induction l with
    | nil => intro _; rfl
    | cons y l ih => intro hl; simp only [sumF]; rw [hl y List.mem_cons_self, ih fun x hx => hl x (List.mem_cons_of_mem _ hx)]; rfl
  exact this a z)
theorem le_tms {K : Nat} {p rest : List Int} {n : Int} (hp : Ptk K p) (hr : Bgk K rest) (h0 : 0 ≤ n) (h : ∀ i, 0 ≤ (plusL rest p (0 - n)).getD i 0) : n ≤ tms p rest := by
  have hl : rest.length = p.length := by rw [hr.1.1, hp.1.1.1]
  have pn := hp.prt.2
  have key : ∀ i, 0 < p.getD i 0 → n ≤ rest.getD i 0 / p.getD i 0 := fun i hi => by
    have h1 := h i
    rw [plusL_get hl, Int.mul_sub, Int.mul_zero] at h1
    have h2 : n * p.getD i 0 ≤ rest.getD i 0 := by rw [Int.mul_comm]; omega
    exact (Int.le_ediv_iff_mul_le hi).2 h2
  obtain ⟨j, hj⟩ := tot_pos pn hp.2
  have h1 := key j hj
  have hb : 0 ≤ rest.getD j 0 ∧ rest.getD j 0 ≤ 1000 := by
    by_cases q : j < rest.length
    · rw [getD_get q]; exact hr.2 _ (List.getElem_mem q)
    · rw [List.getD_eq_getElem?_getD, List.getElem?_eq_none (by omega)]; exact ⟨Int.le_refl _, by decide⟩
  have h3 := (div_bnd hb hj).2.1
  exact le_tmsK (by omega) key _
/-- Which lists are packings. -/
theorem packL_mem {K : Nat} {parts : List (List Int)} : ∀ {ps : List (List Int)} {rest : List Int}, (∀ p ∈ ps, Ptk K p) → Bgk K rest → ∀ ns, ns ∈ packL parts ps rest ↔ (ns.length = ps.length ∧ (∀ n ∈ ns, 0 ≤ n) ∧ (∀ i, 0 ≤ (restP ps ns rest).getD i 0) ∧ fullP parts (restP ps ns rest))
  | [], rest, _, hr, ns => by
    have r0 : ∀ i, 0 ≤ rest.getD i 0 := nn_get.1 fun x hx => (hr.2 x hx).1
    unfold packL
    by_cases hf : fullP parts rest
    · rw [if_pos hf, List.mem_singleton]
      constructor
      · rintro rfl; exact ⟨rfl, fun _ h => absurd h List.not_mem_nil, r0, hf⟩
      · exact fun h => List.eq_nil_of_length_eq_zero h.1
    · rw [if_neg hf]
      exact ⟨fun h => absurd h List.not_mem_nil, fun h => absurd h.2.2.2 hf⟩
  | p :: ps, rest, hp, hr, ns => by
    have hpp := hp p List.mem_cons_self
    have tb := hpp.tb hr
    have hps : ∀ q ∈ ps, Ptk K q := fun q hq => hp q (List.mem_cons_of_mem _ hq)
    have hl : rest.length = p.length := by rw [hr.1.1, hpp.1.1.1]
    rw [packL, mem_flatN]
    constructor
    · rintro ⟨n, hn, hx⟩
      obtain ⟨l, hl2, rfl⟩ := List.mem_map.1 hx
      obtain ⟨h1, h2, h3, h4⟩ := (packL_mem hps (hpp.left hr (by omega) (by omega)) l).1 hl2
      exact ⟨by simp [h1], fun m hm => by
        rcases List.mem_cons.1 hm with rfl | hm
        · omega
        · exact h2 m hm, h3, h4⟩
    · rintro ⟨h1, h2, h3, h4⟩
      cases ns with
      | nil => exact absurd h1 (by simp)
      | cons n ns =>
        have n0 := h2 n List.mem_cons_self
        have hrl := restP_le (K := K) (ps := ps) (ns := ns) (rest := plusL rest p (0 - n)) (fun q hq => (hps q hq).prt) (fun m hm => h2 m (List.mem_cons_of_mem _ hm)) (by rw [plusL_len hl]; exact hr.1.1)
        have hn : n ≤ tms p rest := le_tms hpp hr n0 (fun i => Int.le_trans (h3 i) (hrl.2 i))
        obtain ⟨m, rfl⟩ : ∃ m : Nat, n = (m : Int) := ⟨n.toNat, by omega⟩
        exact ⟨m, by omega, List.mem_map.2 ⟨ns, (packL_mem hps (hpp.left hr (by omega) (by omega)) ns).2 ⟨by simpa using h1, fun k hk => h2 k (List.mem_cons_of_mem _ hk), h3, h4⟩, rfl⟩⟩
theorem packL_nodup (parts : List (List Int)) : ∀ (ps : List (List Int)) (rest : List Int), (packL parts ps rest).Nodup
  | [], rest => by
    unfold packL
    split
    · simp
    · exact List.Pairwise.nil
  | p :: ps, rest => by
    rw [packL]
    refine flatN_pair _ (fun i _ => ?_) (fun i j hij _ x hx y hy => ?_)
    · rw [List.pairwise_map]
      exact (packL_nodup parts ps _).imp fun {a b} q e => q (List.cons.inj e).2
    · obtain ⟨a, _, rfl⟩ := List.mem_map.1 hx
      obtain ⟨b, _, rfl⟩ := List.mem_map.1 hy
      intro e
      have := (List.cons.inj e).1
      omega
theorem pack_bnd {K : Nat} {parts : List (List Int)} : ∀ {ps : List (List Int)} {rest : List Int}, (∀ p ∈ ps, Ptk K p) → Bgk K rest → ∀ ns, ns ∈ packL parts ps rest → ∀ n ∈ ns, 0 ≤ n ∧ n ≤ 1000
  | [], rest, _, _, ns, h, n, hn => by
    unfold packL at h
    split at h
    · rw [List.mem_singleton] at h; subst h; exact absurd hn List.not_mem_nil
    · exact absurd h List.not_mem_nil
  | p :: ps, rest, hp, hr, ns, h, n, hn => by
    have hpp := hp p List.mem_cons_self
    have tb := hpp.tb hr
    rw [packL, mem_flatN] at h
    obtain ⟨m, hm, hx⟩ := h
    obtain ⟨l, hl, rfl⟩ := List.mem_map.1 hx
    rcases List.mem_cons.1 hn with rfl | hn
    · omega
    · exact pack_bnd (fun q hq => hp q (List.mem_cons_of_mem _ hq)) (hpp.left hr (by omega) (by omega)) l hl n hn
end Go.Proofs.YtkfmjjoalkoncaaGreat

/-
  Packings: the program's side, each list. No condition.
-/
namespace Go.Proofs.YtkfmjjoalkoncaaGreat
open Go.AI
set_option maxRecDepth 8000
set_option maxHeartbeats 1600000
/-- The lists that are collected: each is known. -/
def PkX (b : Nat) (L : List (List Int)) (h : Heap) : Prop := ∃ (ob : Option Nat) (cap : Nat), h = [⟨some b, 149, 1, [.os ob L.length cap]⟩, ⟨ob, 24, cap * 1, (L.map (encS Go.AI.encI)).flatten⟩]
theorem o_listAddX (bl : Nat) (L : List (List Int)) (h0 : Heap) (hN : L.length ≤ 2000) (H : PkX bl L h0) (c : List Int) (hc : c ≠ []) (hcl : c.length ≤ 1000000) (bc : Option Nat) (cc : Nat) : Does Tryz.prog 116 [.op (some bl) 0, .os bc c.length cc] (h0 ++ [⟨bc, 2, cc * 1, (c.map Go.AI.encI).flatten⟩])
    (fun v h' => v = .raw (.bool (dec (L.length + 1 ≤ 2000))) ∧ ∃ h1, PkX bl (L ++ [c]) h1 ∧ h' = h1 ++ [⟨bc, 2, cc * 1, (c.map Go.AI.encI).flatten⟩]) := by
  obtain ⟨ob, cap, rfl⟩ := H
  refine fn_of_runD tyOk ztOk mix Tryz.func116 rfl (by decide) Tryz.ntmps116 (fun w0 F => ?_)
  change Run _ _ _ _ _ (_ :: _ :: _ :: F)
  repeat' (first
      | (refine j_go ?_; first
        | refine j_op0 rfl rfl rfl rfl ?_ | (refine j_kLen rfl ?_; first | refine j_op rfl rfl rfl rfl ?_) | (refine j_kLoad rfl ?_; first | refine j_mload 0 rfl rfl rfl rfl rfl rfl rfl ?_))
      | refine j_nil ?_
      | (refine j_goO ?_; first
        | refine j_op0O rfl rfl rfl rfl ?_ | (refine j_kLoadO rfl ?_; first | refine j_mloadS 0 rfl rfl rfl rfl rfl rfl rfl ?_))
      | (refine r_go ?_; first | refine run_seq ?_ | refine run_region ?_ | (refine (run_if rfl (fun hb => ?_) (fun hb => ?_)) <;> first | (exfalso; omega) | skip) | refine run_skip ?_ | refine run_opn 3 [⟨0, false, false, 0⟩, ⟨1, false, false, 0⟩, ⟨2, false, false, 0⟩, ⟨3, false, false, 0⟩, ⟨4, false, false, 0⟩, ⟨5, true, false, 0⟩, ⟨6, false, true, 0⟩, ⟨7, true, false, 0⟩, ⟨8, false, true, 0⟩, ⟨9, true, false, 0⟩, ⟨10, true, false, 0⟩, ⟨11, false, true, 0⟩] rfl rfl (by kernel_rfl) ?_)
      | refine seqQ_normal ?_)
  try (refine j_mloadS 0 rfl rfl rfl rfl rfl rfl rfl ?_)
  skip
  refine j_kCallO rfl rfl rfl rfl ?_
  refine jctfO [⟨bc, 2, cc * 1, (c.map Go.AI.encI).flatten⟩] (o_cloneI c hc hcl) rfl (by intro k2 hk2; simp only [List.mem_singleton] at hk2; subst hk2; simp) (fun k hk => by simp only [List.mem_singleton] at hk; subst hk; simp) (FrzL.cons (Frz.flat (g := Go.AI.encI) (ys := c) (z := 1) rfl rfl (fun _ => rfl) rfl rfl) (FrzL.nil _)) (fun v h1 q => q.clo) (fun v h1 ⟨b9, c9, q1, q2⟩ => by rw [q1, q2]; exact FrzF.flat rfl rfl (fun _ => rfl) rfl rfl) rfl rfl ?_
  repeat' (first
      | (refine j_goO ?_; first
        | (refine j_kBslO rfl ?_; first | refine j_bslO rfl rfl rfl rfl rfl rfl rfl rfl rfl rfl rfl ?_)))
  refine j_appendO 1 (g := encS Go.AI.encI) (ys := L) [c] rfl (by intro k2 hk2; simp only [List.mem_singleton] at hk2; subst hk2; simp) rfl rfl rfl rfl rfl rfl rfl rfl rfl rfl rfl rfl (fun _ => rfl) (fun _ hy => by simp only [List.mem_singleton] at hy; subst hy; rfl) ⟨by simp only [List.length_cons, List.length_nil]; omega, by simp only [List.length_cons, List.length_nil]; omega⟩ rfl rfl (fun ob' cap' => ?_)
  refine j_dropO [4] rfl (by kernel_rfl) ?_
  repeat' (first
      | (refine j_go ?_; first
        | refine j_op0 rfl rfl rfl rfl ?_ | (refine j_kLen rfl ?_; first | refine j_op rfl rfl rfl rfl ?_) | (refine j_kLoad rfl ?_; first | refine j_mload 0 rfl rfl rfl rfl rfl rfl rfl ?_))
      | refine j_nil ?_
      | (refine j_goO ?_; first
        | refine j_op0O rfl rfl rfl rfl ?_ | (refine j_kStoreO rfl ?_; first | refine j_storeO 0 rfl rfl rfl rfl rfl rfl rfl rfl rfl rfl rfl rfl (by first | (intro _ hk; exact absurd hk List.not_mem_nil) | (intro k hk; simp at hk ⊢; try simp [hk])) ?_))
      | refine j_nilO ?_
      | (refine r_go ?_; first | refine run_seq ?_ | refine run_region ?_ | refine run_ret ?_)
      | refine seqQ_normal ?_)
  exact endD_ret (h1 := [_, _, _]) rfl (.cons (.tmp rfl) .nil) (Le.refl _) ⟨rbD (by simp only [List.length_append, List.length_cons, List.length_nil]; omega), _, ⟨ob', cap', rfl⟩, rfl⟩ (.inl rfl)
theorem o_listResX (bl : Nat) (L : List (List Int)) (h0 : Heap) (H : PkX bl L h0) : Does Tryz.prog 117 [.op (some bl) 0] h0 (fun v h' => h' = [] ∧ (L.length ≤ 2000 → v = .tup [.sl (L.map (encS Go.AI.encI)), .int 0]) ∧ (2000 < L.length → ∃ x, v = .tup [x, .int 3])) := by
  obtain ⟨ob, cap, rfl⟩ := H
  refine fn_of_runD tyOk ztOk mix Tryz.func117 rfl (by decide) Tryz.ntmps117 (fun w0 F => ?_)
  change Run _ _ _ _ _ (_ :: _ :: F)
  repeat' (first
      | (refine j_go ?_; first
        | refine j_op0 rfl rfl rfl rfl ?_ | (refine j_kLen rfl ?_; first | refine j_op rfl rfl rfl rfl ?_) | (refine j_kLoad rfl ?_; first | refine j_mload 0 rfl rfl rfl rfl rfl rfl rfl ?_))
      | refine j_nil ?_
      | (refine r_go ?_; first | refine run_seq ?_ | refine run_region ?_ | (refine (run_if rfl (fun hb => ?_) (fun hb => ?_)) <;> first | (exfalso; omega) | skip) | refine run_ret ?_ | refine run_skip ?_)
      | refine seqQ_normal ?_ | refine seqQ_ret ?_)
  · refine endD_view (view_sub (h0 := F) (List.Sublist.cons _ (List.Sublist.cons _ (List.Sublist.refl _)))) ?_
    exact endD_ret (h1 := []) rfl (.cons (.tmp rfl) (.cons (.tmp rfl) .nil)) (Le.refl _) ⟨rfl, fun q => by omega, fun _ => ⟨_, rfl⟩⟩ (.inl rfl)
  · refine endD_view (view_freeze (g := encS Go.AI.encI) (z := 1) (ys := L) 1 2 rfl rfl rfl (fun _ => rfl) rfl rfl) ?_
    refine endD_view (view_erase 0) ?_
    exact endD_ret (h1 := []) rfl (.cons (.tmp rfl) (.cons (.tmp rfl) .nil)) (Le.refl _) ⟨rfl, fun _ => rfl, fun q => by omega⟩ (.inl rfl)
def FrX (parts : List (List Int)) (bl bc m cc b11 : Nat) (L : List (List Int)) (k : Nat) (beg : List Int) (h : Heap) : Prop := ∃ (h1 : Heap) (c : List Int), PkX bl L h1 ∧ (c.length = m ∧ c.take k = beg) ∧ h = selfP parts bl bc m cc b11 :: (h1 ++ [⟨some bc, 2, cc * 1, (c.map Go.AI.encI).flatten⟩])
theorem map_flatN {α β : Type} (g : α → β) (f : Nat → List α) : ∀ k, (flatN f k).map g = flatN (fun n => (f n).map g) k
  | 0 => rfl
  | k + 1 => by rw [flatN, flatN, List.map_append, map_flatN g f k]
theorem pack_cons (parts : List (List Int)) (p : List Int) (ps : List (List Int)) (rest beg : List Int) : (packL parts (p :: ps) rest).map (beg ++ ·) = flatN (fun n => (packL parts ps (plusL rest p (0 - (n : Int)))).map ((beg ++ [(n : Int)]) ++ ·)) ((tms p rest).toNat + 1) := by
  rw [packL, map_flatN]
  congr 1
  funext n
  rw [List.map_map]
  refine List.map_congr_left fun l _ => ?_
  simp
theorem set_take {c : List Int} {k : Nat} (h : k < c.length) (n : Int) : (c.set k n).take (k + 1) = c.take k ++ [n] := by
  rw [List.take_succ_eq_append_getElem (by rw [List.length_set]; exact h), List.take_set_of_le (Nat.le_refl _), List.getElem_set_self]
theorem o_pkFromX (K : Nat) (bl bc cc b11 : Nat) : ∀ (ps pre : List (List Int)) (rest beg : List Int) (L : List (List Int)) (h0 : Heap), (∀ p ∈ pre ++ ps, Ptk K p) → (pre ++ ps).length ≤ 8 → 1 ≤ (pre ++ ps).length → Bgk K rest → L.length ≤ 2000 → FrX (pre ++ ps) bl bc (pre ++ ps).length cc b11 L pre.length beg h0 →
    Does Tryz.prog 115 (.int (pre.length : Nat) :: .sl (rest.map Go.AI.encI) :: capsP (pre ++ ps) bl bc (pre ++ ps).length cc b11) h0
      (fun v h' => v = .raw (.bool (dec (min 2001 (L.length + packN (pre ++ ps) ps rest) ≤ 2000))) ∧ ∃ L', L'.length = min 2001 (L.length + packN (pre ++ ps) ps rest) ∧ (L.length + packN (pre ++ ps) ps rest ≤ 2000 → L' = L ++ (packL (pre ++ ps) ps rest).map (beg ++ ·)) ∧ FrX (pre ++ ps) bl bc (pre ++ ps).length cc b11 L' pre.length beg h') := by
  intro ps
  induction ps with
  | nil =>
    intro pre rest beg L h0 hp h8 h1 hr hN H
    rw [List.append_nil] at hp h8 h1 H ⊢
    obtain ⟨hL, c, hL0, ⟨hcl, hcb⟩, rfl⟩ := H
    have hcn : c ≠ [] := fun q => by rw [q] at hcl; simp at hcl; omega
    have ec : c = beg := by rw [← hcb, ← hcl, List.take_length]
    refine fn_of_runD tyOk ztOk mix Tryz.func115 rfl (by decide) Tryz.ntmps115 (fun w0 F => ?_)
    change Run _ _ _ _ _ (selfP pre bl bc pre.length cc b11 :: (hL ++ [_] ++ F))
    unfold capsP
    repeat' (first
      | (refine j_go ?_; first
        | refine j_op0 rfl rfl rfl rfl ?_ | refine j_off rfl rfl rfl ?_ | (refine j_kLen rfl ?_; first | refine j_len rfl rfl rfl rfl rfl rfl ?_) | (refine j_kCall rfl rfl rfl rfl ?_; first | refine jc (c_maxP1 K _ _ hr hp) (LeL.refl _) rfl rfl ?_) | (refine j_kGuard rfl ?_; first | (refine (j_ifn rfl rfl rfl (fun hb => ?_) (fun hb => ?_)) <;> first | (exfalso; omega) | skip)))
      | refine j_nil ?_
      | (refine r_go ?_; first | refine run_seq ?_ | refine run_region ?_ | (refine (run_if rfl (fun hb => ?_) (fun hb => ?_)) <;> first | (exfalso; omega) | skip) | refine run_ret ?_)
      | refine seqQ_normal ?_ | refine seqQ_ret ?_)
    · have eN : packN pre [] rest = 0 := by rw [packN, if_neg hb]
      have eL : packL pre [] rest = [] := by rw [packL, if_neg hb]
      exact endD_ret (h1 := selfP pre bl bc pre.length cc b11 :: (hL ++ [_])) rfl (.cons (.tmp rfl) .nil) (Le.refl _) ⟨rbT (by rw [eN]; omega), L, by rw [eN]; omega, fun _ => by rw [eL, List.map_nil, List.append_nil], hL, c, hL0, ⟨hcl, hcb⟩, rfl⟩ (.inl rfl)
    · have eN : packN pre [] rest = 1 := by rw [packN, if_pos hb]
      have eL : packL pre [] rest = [[]] := by rw [packL, if_pos hb]
      have cA := o_listAddX bl L hL hN hL0 c hcn (by omega) (some bc) cc
      rw [hcl] at cA
      refine j_kCall rfl rfl rfl rfl ?_
      refine jcp (selfP pre bl bc pre.length cc b11 :: F) cA List.perm_middle.symm (LeL.refl _) rfl rfl (fun v h3 hR => ?_)
      obtain ⟨rfl, h4, q4, rfl⟩ := hR
      repeat' (first
      | (refine j_go ?_; first
        | refine j_op0 rfl rfl rfl rfl ?_)
      | refine j_nil ?_
      | (refine r_go ?_; first | refine run_ret ?_)
      | refine seqQ_normal ?_ | refine seqQ_ret ?_)
      refine endD_view (view_perm (List.perm_middle (l₁ := h4 ++ [⟨some bc, 2, cc * 1, (c.map Go.AI.encI).flatten⟩]) (l₂ := F) (a := selfP pre bl bc pre.length cc b11))) ?_
      exact endD_ret (h1 := selfP pre bl bc pre.length cc b11 :: (h4 ++ [_])) rfl (.cons (.tmp rfl) .nil) (Le.refl _) ⟨by rw [eN]; exact congrArg (fun b => A.raw (.bool b)) (dec_congr (by omega)), L ++ [c], by rw [eN]; simp only [List.length_append, List.length_cons, List.length_nil]; omega, fun _ => by rw [eL, ec]; simp, h4, c, q4, ⟨hcl, hcb⟩, rfl⟩ (.inl rfl)
  | cons p ps ih =>
    intro pre rest beg L h0 hp h8 h1 hr hN H
    have hpp : Ptk K p := hp p (by simp)
    have tb := hpp.tb hr
    have ln : (pre ++ p :: ps).length = pre.length + ps.length + 1 := by simp only [List.length_append, List.length_cons]; omega
    have at1 : (pre ++ p :: ps)[pre.length]'(by omega) = p := at_app rfl _
    have cT' : Gives Tryz.prog 51 [.sl (((pre ++ p :: ps)[pre.length]'(by omega)).map Go.AI.encI), .sl (rest.map Go.AI.encI)] (.int (tms p rest)) := by rw [at1]; exact c_timesIn p rest (hpp.tm hr)
    have rl := hr.1
    have eqp : (pre ++ [p]) ++ ps = pre ++ p :: ps := by simp
    have eqn : (pre ++ [p]).length = pre.length + 1 := by simp
    have eP : packN (pre ++ p :: ps) (p :: ps) rest = sumN (fun n => packN (pre ++ p :: ps) ps (plusL rest p (0 - (n : Int)))) ((tms p rest).toNat + 1) := by rw [packN]
    have eA := pack_cons (pre ++ p :: ps) p ps rest beg
    obtain ⟨hL, c, ⟨ob, cap, rfl⟩, ⟨hcl, hcb⟩, rfl⟩ := H
    refine fn_of_runD tyOk ztOk mix Tryz.func115 rfl (by decide) Tryz.ntmps115 (fun w0 F => ?_)
    change Run _ _ _ _ _ (selfP (pre ++ p :: ps) bl bc (pre ++ p :: ps).length cc b11 :: _ :: _ :: _ :: F)
    unfold capsP
    repeat' (first
      | (refine j_go ?_; first
        | refine j_op0 rfl rfl rfl rfl ?_ | (refine j_kLen rfl ?_; first | refine j_len rfl rfl rfl rfl rfl rfl ?_))
      | refine j_nil ?_
      | (refine r_go ?_; first | refine run_seq ?_ | refine run_region ?_ | (refine (run_if rfl (fun hb => ?_) (fun hb => ?_)) <;> first | (exfalso; omega) | skip) | refine run_block ?_ | refine run_skip ?_)
      | refine seqQ_normal ?_)
    refine run_loop (fun x : Nat × (Option Nat × Nat) × List (List Int) × List Int => [(0, .int (pre.length : Nat)), (1, .sl (rest.map Go.AI.encI)), (2, .ip [.sl ((pre ++ p :: ps).map (encS Go.AI.encI))]), (5, .ip [.os (some bc) (pre ++ p :: ps).length cc]), (6, .op (some b11) 0), (10, .int (x.1 : Int))])
      (fun x => selfP (pre ++ p :: ps) bl bc (pre ++ p :: ps).length cc b11 :: ⟨some bl, 149, 1, [.os x.2.1.1 x.2.2.1.length x.2.1.2]⟩ :: ⟨x.2.1.1, 24, x.2.1.2 * 1, (x.2.2.1.map (encS Go.AI.encI)).flatten⟩ :: ⟨some bc, 2, cc * 1, (x.2.2.2.map Go.AI.encI).flatten⟩ :: F)
      (fun x => x.1 ≤ (tms p rest).toNat + 1 ∧ x.2.2.1 = L ++ flatN (fun n => (packL (pre ++ p :: ps) ps (plusL rest p (0 - (n : Int)))).map ((beg ++ [(n : Int)]) ++ ·)) x.1 ∧ x.2.2.1.length = L.length + sumN (fun n => packN (pre ++ p :: ps) ps (plusL rest p (0 - (n : Int)))) x.1 ∧ x.2.2.1.length ≤ 2000 ∧ x.2.2.2.length = (pre ++ p :: ps).length ∧ x.2.2.2.take pre.length = beg) (fun x => (tms p rest).toNat + 1 - x.1) (0, (ob, cap), L, c) ⟨rfl, rfl, rfl, rfl, rfl, rfl, trivial⟩ rfl
      ⟨Nat.zero_le _, by simp only [flatN, List.append_nil], (by simp only [sumN]; omega), hN, hcl, hcb⟩ (fun ⟨n, ⟨ob, cap⟩, vs, c⟩ ⟨kl, kx, kv, k2, kc, kb⟩ => ?_)
    dsimp only at kl kx kv k2 kc kb ⊢
    by_cases hn : (n : Int) ≤ tms p rest
    · have fit := hpp.fits hr (n := (n : Int)) (by omega) (by omega)
      have cP' : Gives Tryz.prog 52 [.sl (rest.map Go.AI.encI), .sl (((pre ++ p :: ps)[pre.length]'(by omega)).map Go.AI.encI), .int (0 - (n : Int))] (.sl ((plusL rest p (0 - (n : Int))).map Go.AI.encI)) := by rw [at1]; exact c_plus _ _ _ fit
      have IH := ih (pre ++ [p]) (plusL rest p (0 - (n : Int))) (beg ++ [(n : Int)]) vs (selfP (pre ++ p :: ps) bl bc (pre ++ p :: ps).length cc b11 :: ([⟨some bl, 149, 1, [.os ob vs.length cap]⟩, ⟨ob, 24, cap * 1, (vs.map (encS Go.AI.encI)).flatten⟩] ++ [⟨some bc, 2, cc * 1, ((c.set pre.length (n : Int)).map Go.AI.encI).flatten⟩])) (by rw [eqp]; exact hp) (by rw [eqp]; exact h8) (by rw [eqp]; exact h1) (hpp.left hr (by omega) hn) k2
        (by rw [eqp, eqn]; exact ⟨_, c.set pre.length (n : Int), ⟨ob, cap, rfl⟩, ⟨by rw [List.length_set]; exact kc, by rw [set_take (by omega), kb]⟩, rfl⟩)
      rw [eqp, eqn] at IH
      repeat' (first
      | (refine j_go ?_; first
        | refine j_op0 rfl rfl rfl rfl ?_ | (refine j_kIdx rfl ?_; first | refine j_idx rfl rfl rfl rfl rfl (by omega) rfl rfl rfl ?_ | refine j_midx rfl rfl rfl rfl rfl (by first | omega | (simp only [List.length_append, List.length_cons, List.length_nil]; omega)) rfl rfl ?_) | (refine j_kCall rfl rfl rfl rfl ?_; first | refine jc (cT') (LeL.refl _) rfl rfl ?_))
      | refine j_nil ?_
      | (refine r_go ?_; first | refine run_seq ?_ | refine run_region ?_ | (refine (run_if rfl (fun hb => ?_) (fun hb => ?_)) <;> first | (exfalso; omega) | skip) | refine run_block ?_ | refine run_skip ?_)
      | refine seqQ_normal ?_)
      refine j_storeE 3 pre.length (g := Go.AI.encI) (n : Int) rfl rfl rfl rfl rfl rfl rfl rfl rfl (fun _ => rfl) rfl (by omega) ?_
      repeat' (first
      | refine j_nil ?_
      | (refine j_goO ?_; first
        | refine j_op0O rfl rfl rfl rfl ?_ | (refine j_kIdxO rfl ?_; first | refine j_idxO rfl rfl rfl rfl rfl (by omega) rfl rfl rfl ?_) | (refine j_kBinO rfl ?_; first | refine j_inO rfl rfl ⟨by omega, by omega⟩ rfl rfl ?_) | (refine j_kCallO rfl rfl rfl rfl ?_; first | refine jcO (cP') (LeL.refl _) rfl rfl ?_) | (refine j_kLoadO rfl ?_; first | refine j_mloadO 0 rfl rfl rfl rfl rfl rfl rfl rfl ?_) | refine j_inO rfl rfl ⟨by omega, by omega⟩ rfl rfl ?_)
      | (refine r_go ?_; first | refine run_seq ?_ | refine run_opn 7 [⟨0, true, false, 0⟩, ⟨1, true, false, 0⟩, ⟨2, true, false, 0⟩, ⟨3, true, false, 0⟩, ⟨4, true, false, 0⟩, ⟨5, true, false, 0⟩, ⟨6, true, false, 0⟩, ⟨7, true, false, 0⟩, ⟨8, true, false, 0⟩, ⟨9, true, false, 0⟩, ⟨10, true, false, 0⟩, ⟨11, false, true, 0⟩, ⟨12, true, false, 0⟩] rfl rfl (by kernel_rfl) ?_)
      | refine seqQ_normal ?_)
      refine j_kCallO rfl rfl rfl rfl ?_
      refine jcpO F IH rfl (List.Perm.refl _) (LeL.cons (le_iN (by simp)) (LeL.refl _)) rfl rfl (fun v h3 hR => ?_)
      obtain ⟨rfl, L', hl', hx', hL', c', ⟨ob', cap', rfl⟩, ⟨hcl', hcb'⟩, rfl⟩ := hR
      have hcb2 : c'.take pre.length = beg := by
        have := congrArg (List.take pre.length) hcb'
        rw [List.take_take, Nat.min_eq_left (by omega)] at this
        rw [this, List.take_append_of_le_length (by rw [← kb, List.length_take]; omega), List.take_of_length_le (by rw [← kb, List.length_take]; omega)]
      have mo := sumN_mono (f := fun n => packN (pre ++ p :: ps) ps (plusL rest p (0 - (n : Int)))) (a := n + 1) (b := (tms p rest).toNat + 1) (by omega)
      rw [sumN] at mo
      by_cases hM : min 2001 (vs.length + packN (pre ++ p :: ps) ps (plusL rest p (0 - (n : Int)))) ≤ 2000
      · rw [dec_t hM]
        have hx2 := hx' (by omega)
        repeat' (first
      | (refine j_go ?_; first
        | refine j_op0 rfl rfl rfl rfl ?_ | (refine j_kBin rfl ?_; first | refine j_in rfl rfl ⟨by omega, by omega⟩ rfl rfl ?_) | refine j_in rfl rfl ⟨by omega, by omega⟩ rfl rfl ?_)
      | refine j_nil ?_
      | (refine j_goO ?_; first
        | refine j_op0O rfl rfl rfl rfl ?_)
      | refine j_nilO ?_
      | (refine r_go ?_; first | refine run_region ?_ | refine run_cond_f rfl ?_ | refine run_skip ?_)
      | refine seqQ_normal ?_ | refine blockQ_normal ?_)
        exact loopQ_next (n + 1, (ob', cap'), L', c') ⟨by dsimp only; omega, by dsimp only; rw [hx2, kx, flatN, List.append_assoc], by dsimp only; rw [hl', sumN]; omega, by dsimp only; omega, hcl', hcb2⟩ (by dsimp only; omega) rfl ⟨rfl, rfl, rfl, rfl, rfl, nx _, trivial⟩
      · rw [dec_f hM]
        repeat' (first
      | (refine j_go ?_; first
        | refine j_op0 rfl rfl rfl rfl ?_)
      | refine j_nil ?_
      | (refine j_goO ?_; first
        | refine j_op0O rfl rfl rfl rfl ?_)
      | refine j_nilO ?_
      | (refine r_go ?_; first | refine run_seq ?_ | refine run_region ?_ | refine run_cond_t rfl ?_ | refine run_ret ?_)
      | refine seqQ_normal ?_ | refine seqQ_ret ?_ | refine blockQ_ret ?_ | refine loopQ_ret ?_)
        have eN : min 2001 (L.length + packN (pre ++ p :: ps) (p :: ps) rest) = 2001 := by rw [eP]; omega
        exact endD_ret (h1 := selfP (pre ++ p :: ps) bl bc (pre ++ p :: ps).length cc b11 :: ([_, _] ++ [_])) rfl (.cons (.tmp rfl) .nil) (Le.refl _) ⟨rbF (by rw [eN]; omega), L', by rw [eN]; omega, fun q => by exfalso; omega, _, c', ⟨ob', cap', rfl⟩, ⟨hcl', hcb2⟩, rfl⟩ (.inl rfl)
    · have hne : n = (tms p rest).toNat + 1 := by omega
      have eN : min 2001 (L.length + packN (pre ++ p :: ps) (p :: ps) rest) = vs.length := by rw [eP, ← hne]; omega
      repeat' (first
      | (refine j_go ?_; first
        | refine j_op0 rfl rfl rfl rfl ?_ | (refine j_kIdx rfl ?_; first | refine j_idx rfl rfl rfl rfl rfl (by omega) rfl rfl rfl ?_) | (refine j_kCall rfl rfl rfl rfl ?_; first | refine jc (cT') (LeL.refl _) rfl rfl ?_))
      | refine j_nil ?_
      | (refine r_go ?_; first | refine run_seq ?_ | refine run_region ?_ | (refine (run_if rfl (fun hb => ?_) (fun hb => ?_)) <;> first | (exfalso; omega) | skip) | refine run_ret ?_ | refine run_exit ?_)
      | refine seqQ_normal ?_ | refine seqQ_exit ?_ | refine blockQ_eq ?_ | refine loopQ_exit ?_)
      exact endD_ret (h1 := selfP (pre ++ p :: ps) bl bc (pre ++ p :: ps).length cc b11 :: ([_, _] ++ [_])) rfl (.cons (.tmp rfl) .nil) (Le.refl _) ⟨rbT (by rw [eN]; omega), vs, by rw [eN], fun _ => by rw [kx, eA, hne], _, c, ⟨ob, cap, rfl⟩, ⟨kc, kb⟩, rfl⟩ (.inl rfl)
end Go.Proofs.YtkfmjjoalkoncaaGreat
