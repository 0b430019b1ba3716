/-
  All maximal choices, plain: a list of lists that holds each maximal choice once. No condition.
-/
import Derived.Test.YtkfmjjoalkoncaaGreatZC6
import Derived.Test.YtkfmjjoalkoncaaGreatZS5j
import Derived.Test.YtkfmjjoalkoncaaGreatZS3f
namespace Go.Proofs.YtkfmjjoalkoncaaGreat
open Go.AI
set_option maxRecDepth 8000
set_option maxHeartbeats 1600000

theorem cIx_at {s : System} {t : State} {c : Int} : ∀ k, ∀ x ∈ cIx s t c k, ∃ i : Nat, x = (i : Int) ∧ i < k ∧ ∃ h : i < s.rules.length, App s t s.rules[i] ∧ s.rules[i].cell = c
  | 0, x, hx => absurd hx List.not_mem_nil
  | k + 1, x, hx => by
    unfold cIx at hx
    split at hx
    · rename_i q
      obtain ⟨h, q⟩ := q
      rcases List.mem_append.1 hx with z | z
      · obtain ⟨i, h1, h2, h3⟩ := cIx_at k x z
        exact ⟨i, h1, by omega, h3⟩
      · rw [List.mem_singleton] at z; subst z; exact ⟨k, rfl, by omega, h, q⟩
    · obtain ⟨i, h1, h2, h3⟩ := cIx_at k x hx
      exact ⟨i, h1, by omega, h3⟩
theorem cIx_in {s : System} {t : State} {c : Int} {i : Nat} (h : i < s.rules.length) (q : App s t s.rules[i] ∧ s.rules[i].cell = c) : ∀ k, i < k → (i : Int) ∈ cIx s t c k
  | 0, hk => absurd hk (Nat.not_lt_zero _)
  | k + 1, hk => by
    unfold cIx
    by_cases e : i = k
    · subst e; rw [if_pos ⟨h, q⟩]; exact List.mem_append_right _ (List.mem_singleton.2 rfl)
    · have ih := cIx_in h q k (by omega)
      split
      · exact List.mem_append_left _ ih
      · exact ih
theorem cIx_nodup (s : System) (t : State) (c : Int) : ∀ k, ((cIx s t c k).map Int.toNat).Nodup
  | 0 => List.Pairwise.nil
  | k + 1 => by
    have ih := cIx_nodup s t c k
    unfold cIx
    split
    · rw [List.map_append]
      refine List.nodup_append.2 ⟨ih, by simp, fun a ha b hb => ?_⟩
      obtain ⟨x, hx, rfl⟩ := List.mem_map.1 ha
      obtain ⟨i, rfl, hi, _⟩ := cIx_at k x hx
      simp only [List.map_cons, List.map_nil, List.mem_singleton] at hb
      subst hb
      omega
    · exact ih
theorem cNd_map2 (s : System) (t : State) (c : Int) : ∀ k, cNd s t c k = (cIx s t c k).map (fun x => (s.rules.getD x.toNat default).need)
  | 0 => rfl
  | k + 1 => by
    rw [cNd, cIx]
    split
    · rw [cNd_map2 s t c k, List.map_append]; rfl
    · exact cNd_map2 s t c k
theorem cNd_at {s : System} {t : State} {c : Int} {k : Nat} {p : List Int} (h : p ∈ cNd s t c k) : ∃ i : Nat, ∃ h : i < s.rules.length, (App s t s.rules[i] ∧ s.rules[i].cell = c) ∧ p = s.rules[i].need := by
  rw [cNd_map2] at h
  obtain ⟨x, hx, rfl⟩ := List.mem_map.1 h
  obtain ⟨i, rfl, _, hi, q⟩ := cIx_at k x hx
  exact ⟨i, hi, q, by rw [Int.toNat_natCast, getD_get hi]⟩
theorem cNd_in {s : System} {t : State} {c : Int} {i : Nat} (h : i < s.rules.length) (q : App s t s.rules[i] ∧ s.rules[i].cell = c) : s.rules[i].need ∈ cNd s t c s.rules.length := by
  rw [cNd_map2]
  exact List.mem_map.2 ⟨(i : Int), cIx_in h q _ h, by rw [Int.toNat_natCast, getD_get h]⟩
theorem getD_self {α : Type} {l : List α} {i : Nat} {v d : α} (h : i < l.length) : (l.set i v).getD i d = v := by
  rw [List.getD_eq_getElem?_getD, List.getElem?_set_self h]; rfl
theorem getD_ne {α : Type} {l : List α} {i j : Nat} {v d : α} (h : i ≠ j) : (l.set i v).getD j d = l.getD j d := by
  rw [List.getD_eq_getElem?_getD, List.getElem?_set_ne h, ← List.getD_eq_getElem?_getD]
/-- What is left in a cell. -/
theorem restK_cell {s : System} {t : State} {cs : List Int} (hv : s.Ok) (ht : s.StateOk t) (hc : Cnts s cs) (h0 : ∀ i (h : i < s.rules.length), ¬ App s t s.rules[i] → cs.getD i 0 = 0) {c : Nat} (hcl : c < t.bags.length) :
    ∀ k, k ≤ s.rules.length → (restK s t cs k).getD c [] = restP (cNd s t (c : Int) k) ((cIx s t (c : Int) k).map fun x => cs.getD x.toNat 0) (t.bags.getD c [])
  | 0, _ => rfl
  | k + 1, hk => by
    have hk' : k < s.rules.length := by omega
    have ih := restK_cell hv ht hc h0 hcl k (by omega)
    have gd : s.rules.getD k default = s.rules[k] := getD_get hk'
    have hr := (hv.2.2 k hk').1
    have rl := restK_len s t cs k
    rw [restK, gd]
    by_cases e : s.rules[k].cell = (c : Int)
    · have et : s.rules[k].cell.toNat = c := by omega
      rw [et, getD_self (by omega)]
      by_cases a : App s t s.rules[k]
      · obtain ⟨y1, y2⟩ := cIx_y hk' ⟨a, e⟩
        have cl := (cIx_len s t (c : Int) k).2
        rw [y1, y2, List.map_append, List.map_cons, List.map_nil, restP_snoc _ (by rw [List.length_map, cl]), ← ih, Int.toNat_natCast]
      · obtain ⟨y1, y2⟩ := cIx_n (t := t) (c := (c : Int)) hk' (fun q => a q.1)
        rw [y1, y2, ← ih, h0 k hk' a]
        have hb := (restK_bnd hv ht hc k (by omega) _ (List.getElem_mem (n := c) (by omega))).1
        have hn := hr.2.2.2.2.1.2
        rw [getD_get (by omega)]
        exact plus_zero (by omega)
    · have hcc := hr.1
      obtain ⟨y1, y2⟩ := cIx_n (t := t) (c := (c : Int)) hk' (fun q => e q.2)
      rw [getD_ne (by omega), y1, y2, ih]
noncomputable def pkC (s : System) (t : State) (c : Nat) : List (List Int) := packL (ndC s t c) (ndC s t c) (t.bags.getD c [])
theorem pkC_mem {s : System} {t : State} (hv : s.Ok) (ht : s.StateOk t) {c : Nat} (hc : c < t.bags.length) (ns : List Int) : ns ∈ pkC s t c ↔ (ns.length = (cIx s t (c : Int) s.rules.length).length ∧ (∀ n ∈ ns, 0 ≤ n) ∧ (∀ i, 0 ≤ (restP (ndC s t c) ns (t.bags.getD c [])).getD i 0) ∧ fullP (ndC s t c) (restP (ndC s t c) ns (t.bags.getD c []))) := by
  have hb := bag_bgk hv ht hc
  rw [← getD_get (d := []) hc] at hb
  have := packL_mem (K := s.kinds.toNat) (parts := ndC s t c) (ps := ndC s t c) (rest := t.bags.getD c []) (cNd_ok hv _ _ (Nat.le_refl _)) hb ns
  have e : (ndC s t c).length = (cIx s t (c : Int) s.rules.length).length := (cIx_len s t (c : Int) s.rules.length).2
  rw [e] at this
  exact this
theorem pkC_len (s : System) (t : State) (c : Nat) : (pkC s t c).length = cN s t c := packL_len _ _ _
/-- A choice is maximal where it is so in each cell. -/
theorem most_iff {s : System} {t : State} {cs : List Int} (hv : s.Ok) (ht : s.StateOk t) (hc : Cnts s cs) : Most s t cs ↔
    ((∀ i (h : i < s.rules.length), ¬ App s t s.rules[i] → cs.getD i 0 = 0) ∧ ∀ c, c < s.parents.length → ndC s t c ≠ [] → (cIx s t (c : Int) s.rules.length).map (fun x => cs.getD x.toNat 0) ∈ pkC s t c) := by
  have hl := ht.2.1
  have hn := hc.2
  have c0 : ∀ i, 0 ≤ cs.getD i 0 := nn_get.1 fun x hx => (hc.1 x hx).1
  constructor
  · rintro ⟨hch, hm⟩
    have h0 : ∀ i (h : i < s.rules.length), ¬ App s t s.rules[i] → cs.getD i 0 = 0 := fun i h a => by
      have h1 := c0 i
      have h2 : ¬ 0 < cs.getD i 0 := fun q => a (hch.1 i h (by omega) (by rwa [getD_get (by omega)] at q))
      omega
    refine ⟨h0, fun c hcl hne => ?_⟩
    have rc := restK_cell hv ht hc h0 (c := c) (by omega) _ (Nat.le_refl _)
    have rl := restK_len s t cs s.rules.length
    refine (pkC_mem hv ht (by omega) _).2 ⟨by rw [List.length_map], fun n hn2 => ?_, fun i => ?_, fun p hp hw => ?_⟩
    · obtain ⟨x, _, rfl⟩ := List.mem_map.1 hn2; exact c0 _
    · unfold ndC
      rw [← rc]
      have hc3 : c < (restK s t cs s.rules.length).length := by omega
      have e1 : (restK s t cs s.rules.length).getD c [] = (restK s t cs s.rules.length)[c] := getD_get hc3
      rw [e1]
      exact nn_get.1 (hch.2 _ (List.getElem_mem hc3)) i
    · obtain ⟨i, hi, q, rfl⟩ := cNd_at hp
      unfold ndC at hw
      rw [← rc] at hw
      refine hm i hi q.1 ?_
      rw [show s.rules[i].cell.toNat = c by omega]
      exact hw
  · rintro ⟨h0, hp⟩
    have rl := restK_len s t cs s.rules.length
    refine ⟨⟨fun i h h2 pos => Classical.byContradiction fun a => ?_, fun b hb => ?_⟩, fun i h a hw => ?_⟩
    · have := h0 i h a
      rw [getD_get h2] at this; omega
    · obtain ⟨c, hcl, rfl⟩ := List.getElem_of_mem hb
      have rc := restK_cell hv ht hc h0 (c := c) (by omega) _ (Nat.le_refl _)
      rw [getD_get hcl] at rc
      by_cases hne : ndC s t c = []
      · unfold ndC at hne
        rw [hne, restP_nil, getD_get (by omega)] at rc
        rw [rc]
        have hb := (ht.2.2.2.2 c (by omega)).1
        exact fun x hx => (hb.1.1 x hx).1
      · have := ((pkC_mem hv ht (by omega) _).1 (hp c (by omega) hne)).2.2.1
        unfold ndC at this
        rw [← rc] at this
        exact nn_get.2 this
    · have hr := (hv.2.2 i h).1
      have hcc := hr.1
      have hcl : s.rules[i].cell.toNat < s.parents.length := by omega
      have ec : ((s.rules[i].cell.toNat : Nat) : Int) = s.rules[i].cell := by omega
      have hin : s.rules[i].need ∈ ndC s t s.rules[i].cell.toNat := by
        have := cNd_in (t := t) (c := ((s.rules[i].cell.toNat : Nat) : Int)) h ⟨a, ec.symm⟩
        exact this
      have hne : ndC s t s.rules[i].cell.toNat ≠ [] := fun q => by rw [q] at hin; exact absurd hin List.not_mem_nil
      have rc := restK_cell hv ht hc h0 (c := s.rules[i].cell.toNat) (by omega) _ (Nat.le_refl _)
      have hf := ((pkC_mem hv ht (by omega) _).1 (hp _ hcl hne)).2.2.2
      refine hf _ hin ?_
      unfold ndC
      rw [← rc]
      exact hw

/-! ### All choices -/
/-- Counts are put at places. -/
def putC : List Int → List Int → List Int → List Int
  | ch, i :: is, n :: ns => putC (ch.set i.toNat n) is ns
  | ch, _, _ => ch
theorem putC_len : ∀ (ch is ns : List Int), (putC ch is ns).length = ch.length
  | ch, [], ns => rfl
  | ch, i :: is, [] => rfl
  | ch, i :: is, n :: ns => by rw [putC, putC_len, List.length_set]
theorem putC_succ : ∀ (ch is ns : List Int) (k : Nat) (h1 : k < is.length) (h2 : k < ns.length), putC ch (is.take (k + 1)) (ns.take (k + 1)) = (putC ch (is.take k) (ns.take k)).set is[k].toNat ns[k]
  | ch, [], ns, k, h1, _ => absurd h1 (Nat.not_lt_zero _)
  | ch, i :: is, [], k, _, h2 => absurd h2 (Nat.not_lt_zero _)
  | ch, i :: is, n :: ns, 0, _, _ => by simp [putC]
  | ch, i :: is, n :: ns, k + 1, h1, h2 => by
    have := putC_succ (ch.set i.toNat n) is ns k (by simpa using h1) (by simpa using h2)
    simpa [putC] using this
theorem putC_out {j : Nat} : ∀ (is ch ns : List Int), (∀ i ∈ is, i.toNat ≠ j) → (putC ch is ns).getD j 0 = ch.getD j 0
  | [], ch, ns, _ => rfl
  | i :: is, ch, [], _ => rfl
  | i :: is, ch, n :: ns, h => by
    rw [putC, putC_out is (ch.set i.toNat n) ns fun x hx => h x (List.mem_cons_of_mem _ hx), getD_ne (h i List.mem_cons_self)]
theorem putC_in : ∀ (is ch ns : List Int), (is.map Int.toNat).Nodup → (∀ i ∈ is, i.toNat < ch.length) → is.length = ns.length → is.map (fun x => (putC ch is ns).getD x.toNat 0) = ns
  | [], ch, [], _, _, _ => rfl
  | [], ch, _ :: _, _, _, h => absurd h (by simp)
  | _ :: _, ch, [], _, _, h => absurd h (by simp)
  | i :: is, ch, n :: ns, hn, hl, h => by
    rw [List.map_cons, List.nodup_cons] at hn
    have h1 : (putC (ch.set i.toNat n) is ns).getD i.toNat 0 = n := by
      rw [putC_out is _ ns fun x hx e => hn.1 (List.mem_map.2 ⟨x, hx, e⟩), getD_self (hl i List.mem_cons_self)]
    have h2 := putC_in is (ch.set i.toNat n) ns hn.2 (fun x hx => by rw [List.length_set]; exact hl x (List.mem_cons_of_mem _ hx)) (by simpa using h)
    rw [List.map_cons, putC, h1, h2]
theorem ext_getD {a b : List Int} (hl : a.length = b.length) (h : ∀ j, a.getD j 0 = b.getD j 0) : a = b := List.ext_getElem hl fun i h1 h2 => by
  have := h i
  rwa [getD_get h1, getD_get h2] at this
open Classical in
noncomputable def allK (s : System) (t : State) : Nat → List (List Int)
  | 0 => [List.replicate s.rules.length 0]
  | c + 1 => if ndC s t c = [] then allK s t c else (allK s t c).flatMap fun ch => (pkC s t c).map (putC ch (cIx s t (c : Int) s.rules.length))
theorem nd_nil {s : System} {t : State} {c : Nat} (h : ndC s t c = []) {i : Nat} (hi : i < s.rules.length) (e : s.rules[i].cell = (c : Int)) : ¬ App s t s.rules[i] := fun a => by
  have := cNd_in (t := t) hi ⟨a, e⟩
  unfold ndC at h
  rw [h] at this
  exact absurd this List.not_mem_nil
theorem allK_mem {s : System} {t : State} (hv : s.Ok) (ht : s.StateOk t) : ∀ C, C ≤ s.parents.length → ∀ cs, cs ∈ allK s t C ↔
    (cs.length = s.rules.length ∧ (∀ i (h : i < s.rules.length), (¬ App s t s.rules[i] ∨ (C : Int) ≤ s.rules[i].cell) → cs.getD i 0 = 0) ∧ ∀ c, c < C → ndC s t c ≠ [] → (cIx s t (c : Int) s.rules.length).map (fun x => cs.getD x.toNat 0) ∈ pkC s t c)
  | 0, _, cs => by
    unfold allK
    rw [List.mem_singleton]
    constructor
    · rintro rfl
      refine ⟨by simp, fun i h _ => ?_, fun c h => absurd h (Nat.not_lt_zero _)⟩
      rw [getD_get (by simpa using h)]; simp
    · rintro ⟨h1, h2, _⟩
      refine ext_getD (by simpa using h1) fun j => ?_
      by_cases q : j < s.rules.length
      · have hcc := (hv.2.2 j q).1.1
        rw [h2 j q (.inr (by omega)), getD_get (by simpa using q)]; simp
      · rw [List.getD_eq_getElem?_getD, List.getD_eq_getElem?_getD, List.getElem?_eq_none (by omega), List.getElem?_eq_none (by simp; omega)]
  | C + 1, hC, cs => by
    have ih := allK_mem hv ht C (by omega)
    have hl := ht.2.1
    by_cases hne : ndC s t C = []
    · rw [allK, if_pos hne, ih]
      constructor
      · rintro ⟨h1, h2, h3⟩
        refine ⟨h1, fun i h q => h2 i h (q.imp id fun q => by omega), fun c hc hn => ?_⟩
        by_cases e : c = C
        · subst e; exact absurd hne hn
        · exact h3 c (by omega) hn
      · rintro ⟨h1, h2, h3⟩
        refine ⟨h1, fun i h q => ?_, fun c hc hn => h3 c (by omega) hn⟩
        by_cases e : s.rules[i].cell = (C : Int)
        · exact h2 i h (.inl (nd_nil hne h e))
        · exact h2 i h (q.imp id fun q => by omega)
    · rw [allK, if_neg hne, List.mem_flatMap]
      have ixn := cIx_nodup s t (C : Int) s.rules.length
      have ixr : ∀ x ∈ cIx s t (C : Int) s.rules.length, ∃ i : Nat, x = (i : Int) ∧ ∃ h : i < s.rules.length, App s t s.rules[i] ∧ s.rules[i].cell = (C : Int) := fun x hx => by
        obtain ⟨i, h1, _, h2⟩ := cIx_at _ x hx; exact ⟨i, h1, h2⟩
      have far : ∀ j (h : j < s.rules.length), ¬ (App s t s.rules[j] ∧ s.rules[j].cell = (C : Int)) → ∀ x ∈ cIx s t (C : Int) s.rules.length, x.toNat ≠ j := fun j h q x hx e => by
        obtain ⟨i, rfl, hi, r⟩ := ixr x hx
        rw [Int.toNat_natCast] at e
        subst e; exact q r
      have other : ∀ c : Nat, c ≠ C → ∀ y ∈ cIx s t (c : Int) s.rules.length, ∀ x ∈ cIx s t (C : Int) s.rules.length, x.toNat ≠ y.toNat := fun c hc y hy => by
        obtain ⟨i, rfl, _, hi, r⟩ := cIx_at _ y hy
        rw [Int.toNat_natCast]
        exact far i hi (fun q => hc (by have := q.2; have := r.2; omega))
      have ixl : ∀ (ch : List Int), ch.length = s.rules.length → ∀ x ∈ cIx s t (C : Int) s.rules.length, x.toNat < ch.length := fun ch hch x hx => by
        obtain ⟨i, rfl, hi, _⟩ := ixr x hx
        rw [Int.toNat_natCast, hch]; exact hi
      constructor
      · rintro ⟨ch, hch, hx⟩
        obtain ⟨ns, hns, rfl⟩ := List.mem_map.1 hx
        obtain ⟨l1, l2, l3⟩ := (ih ch).1 hch
        have nl := ((pkC_mem hv ht (by omega) ns).1 hns).1
        refine ⟨by rw [putC_len]; exact l1, fun i h q => ?_, fun c hc hn => ?_⟩
        · rw [putC_out _ _ _ (far i h (fun r => q.elim (fun z => z r.1) (fun z => by have := r.2; omega)))]
          exact l2 i h (q.imp id fun q => by omega)
        · by_cases e : c = C
          · subst e
            rw [putC_in _ _ _ ixn (ixl ch l1) nl.symm]; exact hns
          · have := l3 c (by omega) hn
            rw [List.map_congr_left fun y hy => putC_out _ ch ns (other c e y hy)]
            exact this
      · rintro ⟨h1, h2, h3⟩
        have hz := putC_in (cIx s t (C : Int) s.rules.length) cs (List.replicate (cIx s t (C : Int) s.rules.length).length 0) ixn (ixl cs h1) (by simp)
        have z0 : ∀ x ∈ cIx s t (C : Int) s.rules.length, (putC cs (cIx s t (C : Int) s.rules.length) (List.replicate (cIx s t (C : Int) s.rules.length).length 0)).getD x.toNat 0 = 0 := fun x hx => by
          have h5 := List.mem_map_of_mem (f := fun x : Int => (putC cs (cIx s t (C : Int) s.rules.length) (List.replicate (cIx s t (C : Int) s.rules.length).length 0)).getD x.toNat 0) hx
          rw [hz] at h5
          exact List.eq_of_mem_replicate h5
        have hw := h3 C (by omega) hne
        have nl := ((pkC_mem hv ht (by omega) _).1 hw).1
        refine ⟨putC cs (cIx s t (C : Int) s.rules.length) (List.replicate (cIx s t (C : Int) s.rules.length).length 0), (ih _).2 ⟨by rw [putC_len]; exact h1, fun i h q => ?_, fun c hc hn => ?_⟩, List.mem_map.2 ⟨_, hw, ?_⟩⟩
        · by_cases r : App s t s.rules[i] ∧ s.rules[i].cell = (C : Int)
          · have := z0 (i : Int) (cIx_in h r _ h)
            rwa [Int.toNat_natCast] at this
          · rw [putC_out _ _ _ (far i h r)]
            refine h2 i h ?_
            rcases q with q | q
            · exact .inl q
            · by_cases a : App s t s.rules[i]
              · exact .inr (by
                  have : ¬ s.rules[i].cell = (C : Int) := fun e => r ⟨a, e⟩
                  omega)
              · exact .inl a
        · rw [List.map_congr_left fun y hy => putC_out _ cs _ (other c (by omega) y hy)]
          exact h3 c (by omega) hn
        · refine ext_getD (by rw [putC_len, putC_len]) fun j => ?_
          by_cases q : ∃ x ∈ cIx s t (C : Int) s.rules.length, x.toNat = j
          · obtain ⟨x, hx, rfl⟩ := q
            have hq := putC_in (cIx s t (C : Int) s.rules.length) (putC cs (cIx s t (C : Int) s.rules.length) (List.replicate (cIx s t (C : Int) s.rules.length).length 0)) ((cIx s t (C : Int) s.rules.length).map fun x => cs.getD x.toNat 0) ixn (ixl _ (by rw [putC_len]; exact h1)) (by rw [List.length_map])
            exact List.map_inj_left.1 hq x hx
          · have qn : ∀ x ∈ cIx s t (C : Int) s.rules.length, x.toNat ≠ j := fun x hx e => q ⟨x, hx, e⟩
            rw [putC_out _ _ _ qn, putC_out _ _ _ qn]
/-- All maximal choices. -/
noncomputable def allC (s : System) (t : State) : List (List Int) := allK s t s.parents.length
theorem most_bnd {s : System} {t : State} {cs : List Int} (hv : s.Ok) (ht : s.StateOk t) (h : cs ∈ allC s t) : Cnts s cs := by
  obtain ⟨h1, h2, h3⟩ := (allK_mem hv ht _ (Nat.le_refl _) cs).1 h
  have hl := ht.2.1
  refine ⟨fun x hx => ?_, by omega⟩
  obtain ⟨i, hi, rfl⟩ := List.getElem_of_mem hx
  have hi2 : i < s.rules.length := by omega
  by_cases a : App s t s.rules[i]
  · have hcc := (hv.2.2 i hi2).1.1
    have hcl : s.rules[i].cell.toNat < s.parents.length := by omega
    have ec : ((s.rules[i].cell.toNat : Nat) : Int) = s.rules[i].cell := by omega
    have hin := cNd_in (t := t) (c := ((s.rules[i].cell.toNat : Nat) : Int)) hi2 ⟨a, ec.symm⟩
    have hne : ndC s t s.rules[i].cell.toNat ≠ [] := fun q => by unfold ndC at q; rw [q] at hin; exact absurd hin List.not_mem_nil
    have hw := h3 _ hcl hne
    have q : cs[i] ∈ (cIx s t ((s.rules[i].cell.toNat : Nat) : Int) s.rules.length).map fun x => cs.getD x.toNat 0 := List.mem_map.2 ⟨(i : Int), cIx_in hi2 ⟨a, ec.symm⟩ _ hi2, by rw [Int.toNat_natCast, getD_get hi]⟩
    have hb := bag_bgk hv ht (c := s.rules[i].cell.toNat) (by omega)
    rw [← getD_get (d := []) (by omega : s.rules[i].cell.toNat < t.bags.length)] at hb
    exact pack_bnd (K := s.kinds.toNat) (cNd_ok hv _ _ (Nat.le_refl _)) hb _ hw _ q
  · have := h2 i hi2 (.inl a)
    rw [getD_get hi] at this; omega
theorem allC_most {s : System} {t : State} {cs : List Int} (hv : s.Ok) (ht : s.StateOk t) (hc : Cnts s cs) : cs ∈ allC s t ↔ Most s t cs := by
  have hn := hc.2
  rw [most_iff hv ht hc]
  unfold allC
  rw [allK_mem hv ht _ (Nat.le_refl _)]
  constructor
  · rintro ⟨_, h2, h3⟩
    exact ⟨fun i h a => h2 i h (.inl a), h3⟩
  · rintro ⟨h2, h3⟩
    refine ⟨by omega, fun i h q => ?_, h3⟩
    rcases q with q | q
    · exact h2 i h q
    · have hcc := (hv.2.2 i h).1.1
      omega
end Go.Proofs.YtkfmjjoalkoncaaGreat
