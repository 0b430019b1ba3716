/-
  A step of a colony: what all cells become, plain. No condition.
-/
import Derived.Test.YtbhiaccbpbnbmaaGreatZMS
import Derived.Test.YtbhiaccbpbnbmaaGreatZMX
import Derived.Test.YtbhiaccbpbnbmaaGreatZDP
import Derived.Test.YtbhiaccbpbnbmaaGreatZS0
import Derived.Test.YtbhiaccbpbnbmaaGreatZE5
namespace Go.Proofs.YtbhiaccbpbnbmaaGreat
open Go.AI
set_option maxRecDepth 8000
set_option maxHeartbeats 1600000
/-- What the contents of a cell that uses a rule become. -/
noncomputable def ctU (d : Division) (g : Group) (r : DivRule) : List Int := d.grown 1 g.charge (if r.kind = 0 ∨ r.kind = 5 then g.contents else g.contents.erase r.object)
/-- What the cells of a use become. -/
noncomputable def cellsU (d : Division) (u : Use) : List Group :=
  if u.r.kind = 3 ∨ u.r.kind = 5 then [⟨u.r.to, ctU d u.g u.r ++ u.r.first, u.many⟩]
  else if u.r.kind = 4 then [⟨u.r.to, ctU d u.g u.r, u.many⟩]
  else if u.r.kind = 6 then [⟨u.r.to, ctU d u.g u.r ++ u.r.first, u.many⟩, ⟨u.r.toB, ctU d u.g u.r ++ u.r.second, u.many⟩]
  else if u.r.kind = 7 then []
  else [⟨u.g.charge, ctU d u.g u.r, u.many⟩]
/-- What each cell of a use sends out. -/
noncomputable def outU (d : Division) (u : Use) : List Int := if u.r.kind = 4 then u.r.first else if u.r.kind = 7 then ctU d u.g u.r ++ u.r.first else []
def repL (n : Nat) (l : List Int) : List Int := (List.replicate n l).flatten
theorem repL_zero (l : List Int) : repL 0 l = [] := rfl
theorem repL_succ (n : Nat) (l : List Int) : repL (n + 1) l = repL n l ++ l := by
  unfold repL; rw [List.replicate_succ', List.flatten_append]; simp
theorem repL_nil (n : Nat) : repL n [] = [] := by unfold repL; simp
theorem repL_mono {l : List Int} {a b : Nat} (h : a ≤ b) : (repL a l).length ≤ (repL b l).length := by
  unfold repL
  rw [List.length_flatten, List.length_flatten, List.map_replicate, List.map_replicate, List.sum_replicate_nat, List.sum_replicate_nat]
  exact Nat.mul_le_mul_right _ h
noncomputable def cellsA (d : Division) (us : List Use) : List Group := us.flatMap (cellsU d)
noncomputable def outA (d : Division) (us : List Use) : List Int := us.flatMap fun u => repL u.many.toNat (outU d u)
theorem cellsA_app (d : Division) (a b : List Use) : cellsA d (a ++ b) = cellsA d a ++ cellsA d b := List.flatMap_append
theorem outA_app (d : Division) (a b : List Use) : outA d (a ++ b) = outA d a ++ outA d b := List.flatMap_append
theorem cellsA_one (d : Division) (u : Use) : cellsA d [u] = cellsU d u := by unfold cellsA; simp
theorem outA_one (d : Division) (u : Use) : outA d [u] = repL u.many.toNat (outU d u) := by unfold outA; simp
/-- Cells that are added one by one. -/
noncomputable def addM (o : Int) (gs news : List Group) : List Group := news.foldl (fun a x => insM a ⟨x.charge, srtL o x.contents, x.count⟩) gs
theorem addM_app (o : Int) (gs a b : List Group) : addM o gs (a ++ b) = addM o (addM o gs a) b := List.foldl_append
theorem addM_one (o : Int) (gs : List Group) (x : Group) : addM o gs [x] = insM gs ⟨x.charge, srtL o x.contents, x.count⟩ := rfl
/-- What is in the skin, or both are too much. -/
def TrP (full sk : List Int) : Prop := sk = full ∨ (300 < sk.length ∧ 300 < full.length)
theorem TrP.same (l : List Int) : TrP l l := .inl rfl
theorem TrP.more {full sk : List Int} (h : TrP full sk) (l : List Int) : TrP (full ++ l) (sk ++ l) := by
  rcases h with rfl | ⟨h1, h2⟩
  · exact .inl rfl
  · exact .inr ⟨by rw [List.length_append]; omega, by rw [List.length_append]; omega⟩
theorem TrP.long {full sk : List Int} (h : TrP full sk) (hl : 300 < sk.length) {full' : List Int} (hf : full.length ≤ full'.length) : TrP full' sk := by
  rcases h with rfl | ⟨h1, h2⟩
  · exact .inr ⟨hl, by omega⟩
  · exact .inr ⟨h1, by omega⟩
/-- A use is in order. -/
def UseOk (d : Division) (u : Use) : Prop := (-1 ≤ u.g.charge ∧ u.g.charge ≤ 1) ∧ HeapOf d.objects u.g.contents 60 ∧ (1 ≤ u.many ∧ u.many ≤ 5000) ∧ (u.r = rule0 ∨ (u.r ∈ d.rules ∧ 3 ≤ u.r.kind))
theorem usK_ok {d : Division} {g : Group} {l : List Int} (h0 : 0 ≤ g.count ∧ g.count ≤ 5000) (h1 : -1 ≤ g.charge ∧ g.charge ≤ 1) (h2 : HeapOf d.objects g.contents 60) (hv : d.Valid) : ∀ k, k ≤ d.rules.length → ∀ u ∈ usK d g l k, UseOk d u
  | 0, _, u, hu => absurd hu List.not_mem_nil
  | k + 1, hk, u, hu => by
    have hk' : k < d.rules.length := by omega
    have hb := stK_bnd (d := d) (l := l) (k := k) h0.1
    have mb := many_bnd (g := g) (l := (stK d g l k).1) (r := d.rules[k]) hb.2.1
    by_cases q : 0 < manyOf g (stK d g l k).1 (stK d g l k).2 d.rules[k]
    · rw [usK_yes hk' q] at hu
      rcases List.mem_append.1 hu with hu | hu
      · exact usK_ok h0 h1 h2 hv k (by omega) u hu
      · rw [List.mem_singleton] at hu
        subst hu
        refine ⟨h1, h2, ⟨by dsimp only; omega, by dsimp only; omega⟩, .inr ⟨List.getElem_mem hk', ?_⟩⟩
        have hr := (hv.2.2 _ (List.getElem_mem hk')).1
        dsimp only
        by_cases z : d.rules[k].kind = 1 ∨ d.rules[k].kind = 2
        · rw [many_no (z.elim .inl fun z => .inr (.inl z))] at q; omega
        · omega
    · rw [usK_no hk' q] at hu
      exact usK_ok h0 h1 h2 hv k (by omega) u hu
theorem usG_ok {d : Division} {g : Group} {l : List Int} (h0 : 0 ≤ g.count ∧ g.count ≤ 5000) (h1 : -1 ≤ g.charge ∧ g.charge ≤ 1) (h2 : HeapOf d.objects g.contents 60) (hv : d.Valid) : ∀ u ∈ usG d l g, UseOk d u := fun u hu => by
  unfold usG at hu
  rcases List.mem_append.1 hu with hu | hu
  · exact usK_ok h0 h1 h2 hv _ (Nat.le_refl _) u hu
  · have hb := stK_bnd (d := d) (l := l) (k := d.rules.length) h0.1
    split at hu
    · rw [List.mem_singleton] at hu
      subst hu
      exact ⟨h1, h2, ⟨by dsimp only; omega, by dsimp only; omega⟩, .inl rfl⟩
    · cases hu
theorem ctU_rng {d : Division} (hv : d.Valid) {g : Group} {r : DivRule} (hg : HeapOf d.objects g.contents 60) : ObjsIn d.objects (ctU d g r) := by
  unfold ctU
  refine grown_rng hv fun y hy => ?_
  split at hy
  · exact hg.rng y hy
  · exact hg.rng y (List.mem_of_mem_erase hy)
theorem ctU_len {d : Division} (hv : d.Valid) {g : Group} {r : DivRule} (hg : HeapOf d.objects g.contents 60) : (ctU d g r).length ≤ 960 := by
  unfold ctU
  have h60 := hg.2
  split
  · have := grown_len hv (kind := 1) (charge := g.charge) g.contents; omega
  · have := grown_len hv (kind := 1) (charge := g.charge) (g.contents.erase r.object)
    have := (List.erase_sublist (a := r.object) (l := g.contents)).length_le
    omega
theorem objs_app {o : Int} {a b : List Int} (ha : ObjsIn o a) (hb : ObjsIn o b) : ObjsIn o (a ++ b) := mem_rng2 ha hb
theorem UseOk.rule {d : Division} {u : Use} (h : UseOk d u) (hv : d.Valid) (hk : u.r.kind ≠ 0) : u.r.Ok d.objects := by
  rcases h.2.2.2 with e | ⟨e, _⟩
  · rw [e] at hk; exact absurd rfl hk
  · exact hv.2.2 _ e
theorem cellsU_ok {d : Division} (hv : d.Valid) {u : Use} (h : UseOk d u) : ∀ g ∈ cellsU d u, GrpOk d.objects g ∧ 0 < g.count ∧ g.contents.length ≤ 1000 := fun g hg => by
  have h1 := h.1
  have h3 := h.2.2.1
  have cr := ctU_rng hv (r := u.r) h.2.1
  have cl := ctU_len hv (r := u.r) h.2.1
  unfold cellsU at hg
  split at hg
  · rename_i q
    have r := h.rule hv (by omega)
    rw [List.mem_singleton] at hg; subst hg
    have := r.2.2.2.2.2.1.2
    exact ⟨⟨r.2.2.2.1, ⟨by dsimp only; omega, by dsimp only; omega⟩, objs_app cr r.2.2.2.2.2.1.rng⟩, by dsimp only; omega, by dsimp only; rw [List.length_append]; omega⟩
  · split at hg
    · rename_i q
      have r := h.rule hv (by omega)
      rw [List.mem_singleton] at hg; subst hg
      exact ⟨⟨r.2.2.2.1, ⟨by dsimp only; omega, by dsimp only; omega⟩, cr⟩, by dsimp only; omega, by dsimp only; omega⟩
    · split at hg
      · rename_i q
        have r := h.rule hv (by omega)
        have := r.2.2.2.2.2.1.2
        have := r.2.2.2.2.2.2.1.2
        rcases List.mem_cons.1 hg with rfl | hg
        · exact ⟨⟨r.2.2.2.1, ⟨by dsimp only; omega, by dsimp only; omega⟩, objs_app cr r.2.2.2.2.2.1.rng⟩, by dsimp only; omega, by dsimp only; rw [List.length_append]; omega⟩
        · rw [List.mem_singleton] at hg; subst hg
          exact ⟨⟨r.2.2.2.2.1, ⟨by dsimp only; omega, by dsimp only; omega⟩, objs_app cr r.2.2.2.2.2.2.1.rng⟩, by dsimp only; omega, by dsimp only; rw [List.length_append]; omega⟩
      · split at hg
        · cases hg
        · rw [List.mem_singleton] at hg; subst hg
          exact ⟨⟨h1, ⟨by dsimp only; omega, by dsimp only; omega⟩, cr⟩, by dsimp only; omega, by dsimp only; omega⟩
theorem outU_ok {d : Division} (hv : d.Valid) {u : Use} (h : UseOk d u) : ObjsIn d.objects (outU d u) ∧ (outU d u).length ≤ 1000 := by
  have cr := ctU_rng hv (r := u.r) h.2.1
  have cl := ctU_len hv (r := u.r) h.2.1
  unfold outU
  split
  · have r := h.rule hv (by omega)
    exact ⟨r.2.2.2.2.2.1.rng, by have := r.2.2.2.2.2.1.2; omega⟩
  · split
    · have r := h.rule hv (by omega)
      exact ⟨objs_app cr r.2.2.2.2.2.1.rng, by have := r.2.2.2.2.2.1.2; rw [List.length_append]; omega⟩
    · exact ⟨fun _ q => absurd q List.not_mem_nil, by simp⟩
theorem cellsU_len (d : Division) (u : Use) : (cellsU d u).length ≤ 2 := by
  unfold cellsU
  split
  · simp
  · split
    · simp
    · split
      · simp
      · split <;> simp
theorem addM_eq {o : Int} (ho : 1 ≤ o) : ∀ (news gs : List Group), (∀ g ∈ news, ObjsIn o g.contents ∧ 0 < g.count) → addM o gs news = (normG news).foldl insM gs
  | [], gs, _ => rfl
  | x :: news, gs, h => by
    have hx := h x List.mem_cons_self
    have e : normG (x :: news) = ⟨x.charge, sortI x.contents, x.count⟩ :: normG news := by
      unfold normG; rw [List.filter_cons, if_pos (decide_eq_true hx.2), List.map_cons]
    rw [e, List.foldl_cons, ← srt_sort ho hx.1, ← addM_eq ho news _ fun g hg => h g (List.mem_cons_of_mem _ hg)]
    rfl
/-- The uses of a step. -/
noncomputable def usC (d : Division) (c : Colony) : List Use := usA d c c.groups.length
/-- What is in the skin behind a step, in any order. -/
noncomputable def skC (d : Division) (c : Colony) : List Int := d.grown 2 0 (stA d c c.groups.length).1 ++ outA d (usC d c)
/-- The colony behind a step. -/
noncomputable def stpC (d : Division) (c : Colony) : Colony := colG (skC d c) (cellsA d (usC d c))
theorem usC_ok {d : Division} {c : Colony} (hv : d.Valid) (hc : c.Ok d.objects) : ∀ u ∈ usC d c, UseOk d u := by
  have key : ∀ k, k ≤ c.groups.length → ∀ u ∈ usA d c k, UseOk d u := by
    intro k
    induction k with
    | zero => intro _ u hu; cases hu
    | succ k ih =>
      intro hk u hu
      rw [usA_succ (by omega)] at hu
      rcases List.mem_append.1 hu with hu | hu
      · exact ih (by omega) u hu
      · have hg := (hc.2.2.1 k (by omega)).1
        have hu5 := hc.upto (k := k) (by omega)
        exact usG_ok ⟨by omega, by omega⟩ hg.1 hg.2.1 hv u hu
  exact key _ (Nat.le_refl _)
theorem cellsA_ok {d : Division} {us : List Use} (hv : d.Valid) (h : ∀ u ∈ us, UseOk d u) : ∀ g ∈ cellsA d us, GrpOk d.objects g ∧ 0 < g.count ∧ g.contents.length ≤ 1000 := fun g hg => by
  unfold cellsA at hg
  obtain ⟨u, hu, hg⟩ := List.mem_flatMap.1 hg
  exact cellsU_ok hv (h u hu) g hg
theorem cellsA_len {d : Division} : ∀ (us : List Use), (cellsA d us).length ≤ 2 * us.length
  | [] => Nat.le_refl _
  | u :: us => by
    have h1 := cellsA_len (d := d) us
    have h2 := cellsU_len d u
    have e : cellsA d (u :: us) = cellsU d u ++ cellsA d us := by rw [← List.singleton_append, cellsA_app, cellsA_one]
    rw [e, List.length_append, List.length_cons]; omega
theorem outA_rng {d : Division} {us : List Use} (hv : d.Valid) (h : ∀ u ∈ us, UseOk d u) : ObjsIn d.objects (outA d us) := fun y hy => by
  unfold outA at hy
  obtain ⟨u, hu, hy⟩ := List.mem_flatMap.1 hy
  unfold repL at hy
  obtain ⟨l, hl, hy⟩ := List.mem_flatten.1 hy
  rw [List.mem_replicate] at hl
  rw [hl.2] at hy
  exact (outU_ok hv (h u hu)).1 y hy
end Go.Proofs.YtbhiaccbpbnbmaaGreat

/-
  A step of a colony: what both sides hand back, and the law of parts. Plain; no condition.
-/
namespace Go.Proofs.YtbhiaccbpbnbmaaGreat
open Go.AI
set_option maxRecDepth 8000
set_option maxHeartbeats 1600000

theorem pw_consec {α : Type} {R : α → α → Prop} (tr : ∀ {a b c : α}, R a b → R b c → R a c) {l : List α} (h : ∀ i (hi : i < l.length), 0 < i → R (l[i-1]'(by omega)) l[i]) : l.Pairwise R := by
  refine List.pairwise_iff_getElem.2 fun i j hi hj hij => ?_
  induction j with
  | zero => exact absurd hij (Nat.not_lt_zero _)
  | succ j ih =>
    have h1 := h (j + 1) hj (by omega)
    simp only [Nat.add_sub_cancel] at h1
    by_cases q : i = j
    · subst q; exact h1
    · exact tr (ih (by omega) (by omega)) h1
theorem HeapOf.asc {o m : Int} {l : List Int} (h : HeapOf o l m) : l.Pairwise (fun a b => a ≤ b) := pw_consec (R := fun a b : Int => a ≤ b) (fun h1 h2 => Int.le_trans h1 h2) (fun i hi h0 => (h.1 i hi).2 h0)
theorem HeapOf.take {o m : Int} {l : List Int} (h : HeapOf o l m) (k : Nat) : HeapOf o (l.take k) m := by
  refine ⟨fun i hi => ?_, ?_⟩
  · rw [List.length_take] at hi
    have := h.1 i (by omega)
    simp only [List.getElem_take]
    exact this
  · have := h.2; rw [List.length_take]; omega
theorem sortI_id {l : List Int} (h : l.Pairwise (fun a b => a ≤ b)) : sortI l = l :=
  List.Perm.eq_of_pairwise (le := fun a b : Int => a ≤ b) (fun a b _ _ h1 h2 => by omega) (sortI_sorted l) h (sortI_perm l)
theorem Colony.Ok.asc {o : Int} {c : Colony} (h : c.Ok o) : c.groups.Pairwise Before := pw_consec (R := Before) bef_trans (fun i hi h0 => (h.2.2.1 i hi).2 h0)
theorem Colony.Ok.grp {o : Int} {c : Colony} (h : c.Ok o) : ∀ g ∈ c.groups, GrpOk o g ∧ 0 < g.count ∧ HeapOf o g.contents 60 := fun g hg => by
  obtain ⟨i, hi, rfl⟩ := List.getElem_of_mem hg
  have h1 := (h.2.2.1 i hi).1
  have h2 := h.upto hi
  exact ⟨⟨h1.1, ⟨by omega, by omega⟩, h1.2.1.rng⟩, by omega, h1.2.1⟩
theorem normG_id : ∀ {l : List Group}, (∀ x ∈ l, 0 < x.count ∧ sortI x.contents = x.contents) → normG l = l
  | [], _ => rfl
  | x :: l, h => by
    have hx := h x List.mem_cons_self
    have e : normG (x :: l) = ⟨x.charge, sortI x.contents, x.count⟩ :: normG l := by
      unfold normG; rw [List.filter_cons, if_pos (decide_eq_true hx.1), List.map_cons]
    rw [e, normG_id fun y hy => h y (List.mem_cons_of_mem _ hy), hx.2]
theorem sumK_ex {k : Group} {l : List Group} (h : 0 < sumK k l) : ∃ y ∈ l, SameK k y := Classical.byContradiction fun q => by
  have := sumK_none (k := k) (l := l) (fun x hx r => q ⟨x, hx, r⟩)
  omega
theorem Agg.src {gs ks : List Group} (h : Agg gs ks) {x : Group} (hx : x ∈ ks) : ∃ y ∈ gs, SameK x y := sumK_ex (by
  rw [← h.eqv x]; exact sumK_pos h.pos x hx ⟨rfl, rfl⟩)
theorem Agg.dst {gs ks : List Group} (h : Agg gs ks) (hp : ∀ y ∈ gs, 0 < y.count) {x : Group} (hx : x ∈ gs) : ∃ y ∈ ks, SameK x y := sumK_ex (by
  rw [h.eqv x]; exact sumK_pos hp x hx ⟨rfl, rfl⟩)
/-- A colony that is right is gathered already. -/
theorem colG_id {o : Int} {c : Colony} (h : c.Ok o) : colG c.skin c.groups = c := by
  have hg := h.grp
  have e := normG_id (l := c.groups) (fun x hx => ⟨(hg x hx).2.1, sortI_id (hg x hx).2.2.asc⟩)
  have A := ksG_agg (gs := c.groups) (fun g q => (hg g q).1)
  rw [e] at A
  have B : Agg c.groups c.groups := ⟨h.asc, fun x hx => (hg x hx).2.1, fun _ => rfl, rfl⟩
  unfold colG
  rw [sortI_id h.1.asc, A.uniq B]

/-! ### The results -/
open Classical in
noncomputable def resStep (d : Division) (c : Colony) : Colony := if (stpC d c).Ok d.objects then stpC d c else ⟨[], []⟩
open Classical in
noncomputable def cdStep (d : Division) (c : Colony) : Int := if (stpC d c).Ok d.objects then 0 else 3
theorem rs_t {d : Division} {c : Colony} (h : (stpC d c).Ok d.objects) : resStep d c = stpC d c ∧ cdStep d c = 0 := ⟨if_pos h, if_pos h⟩
theorem rs_f {d : Division} {c : Colony} (h : ¬ (stpC d c).Ok d.objects) : resStep d c = ⟨[], []⟩ ∧ cdStep d c = 3 := ⟨if_neg h, if_neg h⟩
theorem stA_rng {d : Division} {c : Colony} (hc : c.Ok d.objects) : ObjsIn d.objects (stA d c c.groups.length).1 := fun y hy => hc.1.rng y ((stA_sub (d := d) hc.nn _ (Nat.le_refl _)).subset hy)
theorem skC_rng {d : Division} {c : Colony} (hv : d.Valid) (hc : c.Ok d.objects) : ObjsIn d.objects (skC d c) := objs_app (grown_rng hv (stA_rng hc)) (outA_rng hv (usC_ok hv hc))
theorem stp_long {d : Division} {c : Colony} (h : 300 < (skC d c).length) : ¬ (stpC d c).Ok d.objects := fun q => by
  have h1 : ((sortI (skC d c)).length : Int) ≤ 300 := q.1.2
  rw [(sortI_perm _).length_eq] at h1; omega
theorem stpX {d : Division} {c : Colony} (hv : d.Valid) (hc : c.Ok d.objects) {sk : List Int} (tr : TrP (outA d (usC d c)) sk) (hr : ∀ y ∈ sk, 0 ≤ y ∧ y ≤ d.objects - 1) :
    (⟨srtL d.objects (d.grown 2 0 (stA d c c.groups.length).1 ++ sk), addM d.objects [] (cellsA d (usC d c))⟩ : Colony) = stpC d c ∨
    (¬ (⟨srtL d.objects (d.grown 2 0 (stA d c c.groups.length).1 ++ sk), addM d.objects [] (cellsA d (usC d c))⟩ : Colony).Ok d.objects ∧ ¬ (stpC d c).Ok d.objects) := by
  have gr := grown_rng hv (kind := 2) (charge := 0) (stA_rng hc)
  have ho := hv.1.1
  rw [srt_sort ho (objs_app gr hr)]
  rcases tr with rfl | ⟨h1, h2⟩
  · left
    have ck := cellsA_ok hv (usC_ok hv hc)
    rw [addM_eq ho _ _ (fun g hg => ⟨(ck g hg).1.2.2, (ck g hg).2.1⟩)]
    rfl
  · right
    refine ⟨fun q => ?_, stp_long ?_⟩
    · have h3 : ((sortI (d.grown 2 0 (stA d c c.groups.length).1 ++ sk)).length : Int) ≤ 300 := q.1.2
      rw [(sortI_perm _).length_eq, List.length_append] at h3; omega
    · unfold skC; rw [List.length_append]; omega

/-! ### How many cells there are -/
/-! ### Cells act apart where no rule takes objects in -/
/-- A group that is put in among groups in order. -/
def DrwG (o : Int) (g : Group) : Prop := (-1 ≤ g.charge ∧ g.charge ≤ 1) ∧ HeapOf o g.contents 4 ∧ 0 < g.count
theorem ins_drw {o : Int} {gs : List Group} {g : Group} (ha : gs.Pairwise Before ∧ ∀ y ∈ gs, DrwG o y) (hg : DrwG o g) : (insM gs g).Pairwise Before ∧ ∀ y ∈ insM gs g, DrwG o y := by
  have A : Agg gs gs := ⟨ha.1, fun y hy => (ha.2 y hy).2.2, fun _ => rfl, rfl⟩
  have B := A.ins hg.2.2 hg.1.2
  refine ⟨B.asc, fun y hy => ?_⟩
  obtain ⟨z, hz, q⟩ := B.src hy
  have hz2 : DrwG o z := by
    rcases List.mem_append.1 hz with r | r
    · exact ha.2 z r
    · rw [List.mem_singleton] at r; subst r; exact hg
  exact ⟨by rw [q.1]; exact hz2.1, by rw [q.2]; exact hz2.2.1, B.pos y hy⟩
theorem drw_ok {o : Int} {l : List Int} {gs : List Group} (hl : HeapOf o l 4) (ha : gs.Pairwise Before ∧ ∀ y ∈ gs, DrwG o y) (h3 : gs.length ≤ 3) (h9 : ∀ y ∈ gs, 0 ≤ y.count ∧ y.count ≤ 9) : Colony.Ok o ⟨l, gs⟩ := by
  refine ⟨hl.mono (by decide), show gs.length ≤ 200 by omega, fun i hi => ⟨?_, fun h0 => List.pairwise_iff_getElem.1 ha.1 (i - 1) i (by have : i < gs.length := hi; omega) hi (by omega)⟩, ?_⟩
  · have hy := ha.2 _ (List.getElem_mem hi)
    exact ⟨hy.1, hy.2.1.mono (by decide), by have := hy.2.2; omega⟩
  · have := sumF_take Group.count gs h9 gs.length (Nat.le_refl _)
    rw [List.take_length] at this
    show sumF Group.count gs ≤ 5000
    omega
end Go.Proofs.YtbhiaccbpbnbmaaGreat

/-
  A system of dividing cells and a colony that are drawn. No condition.
-/
namespace Go.Proofs.YtbhiaccbpbnbmaaGreat
open Go.AI
set_option maxRecDepth 8000
set_option maxHeartbeats 3200000

section
variable {C : Cx} {e : Env} {h : Heap} {o : Oper}
/-- A sum that is in range is data whatever the memory. -/
theorem sum_quiet {m : Int} (hv : opVal C.ty e o.op = some (.int (wrapI m))) (hm : -9223372036854775808 ≤ m ∧ m ≤ 9223372036854775807) : Quiet C.P o e h (.int m) := by
  have := opVal_quiet (h := h) C.ok hv
  rw [wrapI_of hm] at this
  exact this
end
theorem memD1 {k : Nat × Blk} {i : Nat} {b : Blk} (h : k ∈ [(i, b)]) : k.2 = b := by
  rw [List.mem_singleton] at h; rw [h]
abbrev drB (b : Option Nat) (cap : Nat) (l : List DivRule) : Blk := ⟨b, 39, cap * 7, (l.map encDivRule).flatten⟩
abbrev dvB (b : Nat) (cs : List A) : Blk := ⟨some b, 26, 2, cs⟩
/-- A division that is right and small. -/
def DivSm (d : Division) : Prop := d.Valid ∧ d.objects ≤ 6 ∧ d.rules.length ≤ 7 ∧ ∀ r ∈ d.rules, r.first.length ≤ 2 ∧ r.second.length ≤ 2
def DivDR (s : Nat) (code : List UInt8) (lim : Nat) : A → Heap → Prop := fun v h' => ∃ (d : Division) (at2 : Nat) (sd : Int), v = .agg (encDivision d) ∧ DivSm d ∧ at2 ≤ lim ∧ h' = [srcB s code at2 sd]
theorem o_l07Draw (s : Nat) (code : List UInt8) (at_ : Nat) (sd : Int) (ha : at_ ≤ 1000) : Does Tryz.prog 17 [.op (some s) 0] [srcB s code at_ sd] (DivDR s code (at_ + 1000)) := by
  refine fn_of_runD tyOk ztOk mix Tryz.func17 rfl (by decide) Tryz.ntmps17 (fun w0 F => ?_)
  change Run _ _ _ _ _ (_ :: F)
  repeat' (first
      | (refine j_go ?_; first
        | refine j_op0 rfl rfl rfl rfl ?_ | refine j_alloc rfl rfl rfl rfl rfl (fun _ => ?_))
      | refine j_nil ?_
      | (refine r_go ?_; first | refine run_seq ?_ | refine run_region ?_)
      | refine seqQ_normal ?_)
  rename_i b2
  refine j_kCall rfl rfl rfl rfl ?_
  refine jcp (_ :: F) (o_pick s code at_ sd 4 (by omega) (by omega)) (List.Perm.swap _ _ _) (LeL.refl _) rfl rfl (fun v h1 hR => ?_)
  obtain ⟨r, a1, sd1, rfl, hr, ha1, rfl⟩ := hR
  repeat' (first
      | (refine j_go ?_; first
        | refine j_op0 rfl rfl rfl rfl ?_ | (refine j_kBin rfl ?_; first | refine j_in rfl rfl ⟨by omega, by omega⟩ rfl rfl ?_) | (refine j_kStore rfl ?_; first | refine j_storeN 0 rfl rfl rfl rfl rfl rfl rfl rfl rfl rfl rfl ?_) | refine j_build rfl rfl rfl rfl rfl rfl rfl ?_ | refine j_alloc rfl rfl rfl rfl rfl (fun _ => ?_))
      | refine j_nil ?_
      | (refine r_go ?_; first | refine run_seq ?_ | refine run_region ?_)
      | refine seqQ_normal ?_)
  rename_i b3
  refine j_kCall rfl rfl rfl rfl ?_
  refine jcp (_ :: _ :: F) (o_pick s code a1 sd1 7 (by omega) (by omega)) (List.Perm.swap _ _ _) (LeL.refl _) rfl rfl (fun v h1 hR => ?_)
  obtain ⟨r2, a2, sd2, rfl, hr2, ha2, rfl⟩ := hR
  repeat' (first
      | (refine j_go ?_; first
        | refine j_op0 rfl rfl rfl rfl ?_ | (refine j_kBin rfl ?_; first | refine j_in rfl rfl ⟨by omega, by omega⟩ rfl rfl ?_))
      | refine j_nil ?_
      | (refine r_go ?_; first | refine run_block ?_)
      | refine seqQ_normal ?_)
  refine run_view (view_none 39 (0 * 7) rfl) ?_
  refine run_view (view_perm rev3) ?_
  refine run_view (view_perm (List.Perm.swap _ _ _)) ?_
  refine run_loop (fun x : Int × List DivRule × Option Nat × Nat × Nat × Int => [(0, .op (some s) 0), (2, .op (some b2) 0), (3, .op (some b3) 0), (4, .int x.1)])
    (fun x => srcB s code x.2.2.2.2.1 x.2.2.2.2.2 :: dvB b3 [.int (2 + r), .os x.2.2.1 x.2.1.length x.2.2.2.1] :: drB x.2.2.1 x.2.2.2.1 x.2.1 :: dvB b2 [.int 0, .os none 0 0] :: F)
    (fun x => (0 ≤ x.1 ∧ x.1 ≤ 7) ∧ (x.2.1.length : Int) + x.1 ≤ 7 ∧ (∀ q ∈ x.2.1, q.Ok (2 + r) ∧ q.first.length ≤ 2 ∧ q.second.length ≤ 2) ∧ (x.2.2.2.2.1 : Int) ≤ at_ + 4 + 100 * (7 - x.1)) (fun x => x.1.toNat) (1 + r2, [], none, 0, a2, sd2) ⟨rfl, rfl, rfl, rfl, trivial⟩ rfl ⟨by dsimp only; omega, by dsimp only [List.length_nil]; omega, by simp, by dsimp only; omega⟩ (fun ⟨i, rs, b, cap, a, sd⟩ ⟨hi, hl, hq, hA⟩ => ?_)
  dsimp only at hi hl hq hA ⊢
  by_cases h0 : 0 < i
  case pos =>
    repeat' (first
      | (refine j_go ?_; first
        | refine j_op0 rfl rfl rfl rfl ?_)
      | refine j_nil ?_
      | (refine j_goO ?_; first
        | refine j_op0O rfl rfl rfl rfl ?_ | (refine j_kLoadO rfl ?_; first | refine j_mloadO 1 rfl rfl rfl rfl rfl rfl rfl rfl ?_ | refine j_mloadS 1 rfl rfl rfl rfl rfl rfl rfl ?_))
      | (refine r_go ?_; first | refine run_seq ?_ | refine run_region ?_ | (refine (run_if rfl (fun hb => ?_) (fun hb => ?_)) <;> first | (exfalso; omega) | skip) | refine run_block ?_ | refine run_skip ?_ | refine run_opn 5 [⟨0, false, false, 0⟩, ⟨1, false, false, 0⟩, ⟨2, true, false, 0⟩, ⟨3, true, false, 0⟩, ⟨4, true, false, 0⟩, ⟨5, false, true, 0⟩, ⟨6, true, false, 0⟩, ⟨7, false, true, 0⟩, ⟨8, true, false, 0⟩, ⟨9, false, true, 0⟩] rfl rfl (by kernel_rfl) ?_)
      | refine seqQ_normal ?_)
    refine j_kCallO rfl rfl rfl rfl ?_
    refine jcdO 0 1 rfl (fun k hk => by rw [memD1 hk]; exact List.mem_cons_self) (o_l07DrawRule s code a sd (2 + r) (by omega) (by omega)) rfl (LeL.refl _) rfl rfl (fun v h1 hR => ?_)
    obtain ⟨r5, a5, sd5, rfl, hr5, ha5, rfl⟩ := hR
    refine j_dropO [1] rfl (by kernel_rfl) ?_
    repeat' (first
      | (refine j_goO ?_; first
        | (refine j_kBslO rfl ?_; first | refine j_bslO rfl rfl rfl rfl rfl rfl rfl rfl rfl rfl rfl ?_)))
    refine j_appendO 2 (g := encDivRule) (ys := rs) [r5] rfl (fun _ hk => nomatch hk) rfl rfl rfl rfl rfl rfl rfl rfl rfl rfl rfl rfl (fun _ => rfl) (fun _ hy => by simp only [List.mem_singleton] at hy; subst hy; rfl) ⟨by simp only [List.length_cons, List.length_nil]; omega, by simp only [List.length_cons, List.length_nil]; omega⟩ rfl rfl (fun b' cap' => ?_)
    repeat' (first
      | (refine j_go ?_; first
        | refine j_op0 rfl rfl rfl rfl ?_ | (refine j_kBin rfl ?_; first | refine j_in rfl rfl ⟨by omega, by omega⟩ rfl rfl ?_))
      | refine j_nil ?_
      | (refine j_goO ?_; first
        | refine j_op0O rfl rfl rfl rfl ?_ | (refine j_kStoreO rfl ?_; first | refine j_storeO 1 rfl rfl rfl rfl rfl rfl rfl rfl rfl rfl rfl rfl (by first | (intro _ hk; exact absurd hk List.not_mem_nil) | (intro k hk; simp at hk ⊢; try simp [hk])) ?_))
      | refine j_nilO ?_
      | (refine r_go ?_; first | refine run_region ?_)
      | refine seqQ_normal ?_ | refine blockQ_normal ?_)
    have ln : (rs ++ [r5]).length = rs.length + 1 := by rw [List.length_append]; rfl
    exact loopQ_next (i - 1, rs ++ [r5], b', cap', a5, sd5) ⟨by dsimp only; omega, by dsimp only; omega, fun q h => by
      rcases List.mem_append.1 h with h | h
      · exact hq q h
      · rw [List.mem_singleton] at h; subst h; exact hr5, by dsimp only; omega⟩ (by dsimp only; omega) rfl ⟨rfl, rfl, rfl, rfl, trivial⟩
  obtain rfl : i = 0 := by omega
  refine run_view (view_cellF (k := 1) (b := some b3) (h1 := [drB b cap rs]) (F := _ :: _ :: F) ((List.Perm.swap _ _ _).trans (List.Perm.cons _ (List.Perm.swap _ _ _))) rfl (FrzF.flat (g := encDivRule) (ys := rs) (z := 7) rfl rfl (fun _ => rfl) rfl rfl)) ?_
  repeat' (first
      | (refine j_go ?_; first
        | refine j_op0 rfl rfl rfl rfl ?_ | (refine j_kLoad rfl ?_; first | refine j_mload 0 rfl rfl rfl rfl rfl rfl rfl ?_) | (refine j_kStore rfl ?_; first | refine j_storeN 2 rfl rfl rfl rfl rfl rfl rfl rfl rfl rfl rfl ?_))
      | refine j_nil ?_
      | (refine r_go ?_; first | refine run_seq ?_ | refine run_region ?_ | (refine (run_if rfl (fun hb => ?_) (fun hb => ?_)) <;> first | (exfalso; omega) | skip) | refine run_ret ?_ | refine run_exit ?_)
      | refine seqQ_normal ?_ | refine seqQ_exit ?_ | refine blockQ_eq ?_ | refine loopQ_exit ?_)
  refine endD_view (view_freezeP 2 2 rfl rfl) (endD_view (view_sub (List.sublist_cons_self _ _)) ?_)
  exact endD_ret (h1 := [_]) rfl (.cons (.cellI rfl rfl) .nil) (Le.refl _) ⟨⟨2 + r, rs⟩, a, sd, rfl, ⟨⟨by dsimp only; omega, by dsimp only; omega, fun q h => (hq q h).1⟩, by dsimp only; omega, by dsimp only; omega, fun q h => (hq q h).2⟩, by omega, rfl⟩ (.inl rfl)
def PDivR : A → Heap → Prop := fun v h' => ∃ (d : Division) (c : Colony), v = .tup [.agg (encDivision d), .agg (encColony c)] ∧ DivSm d ∧ HeapOf d.objects c.skin 4 ∧ c.Ok d.objects ∧ h' = []
theorem o_P6Division (code : List UInt8) : Does Tryz.prog 6 [.sl (code.map encY)] [] PDivR := by
  refine fn_of_runD tyOk ztOk mix Tryz.func6 rfl (by decide) Tryz.ntmps6 (fun w0 F => ?_)
  change Run _ _ _ _ _ F
  repeat' (first
      | (refine j_go ?_; first
        | refine j_op0 rfl rfl rfl rfl ?_ | refine j_alloc rfl rfl rfl rfl rfl (fun _ => ?_))
      | refine j_nil ?_
      | (refine r_go ?_; first | refine run_seq ?_ | refine run_region ?_)
      | refine seqQ_normal ?_)
  rename_i b2 b3
  refine j_kCall rfl rfl rfl rfl ?_
  refine jcp (_ :: _ :: F) (o_from code) (List.Perm.refl _) (LeL.refl _) rfl rfl (fun v h1 hR => ?_)
  obtain ⟨s, rfl, rfl⟩ := hR
  repeat' (first
      | (refine j_go ?_; first
        | refine j_op0 rfl rfl rfl rfl ?_)
      | refine j_nil ?_
      | (refine r_go ?_; first | refine run_seq ?_ | refine run_region ?_)
      | refine seqQ_normal ?_)
  refine j_kCall rfl rfl rfl rfl ?_
  refine jcp (_ :: _ :: F) (o_l07Draw s code 0 0 (by omega)) (List.Perm.refl _) (LeL.refl _) rfl rfl (fun v h1 hR => ?_)
  obtain ⟨d, a1, sd1, rfl, hd, ha1, rfl⟩ := hR
  have ho := hd.1.1
  repeat' (first
      | (refine j_go ?_; first
        | refine j_op0 rfl rfl rfl rfl ?_ | (refine j_kLoad rfl ?_; first | refine j_mload 0 rfl rfl rfl rfl rfl rfl rfl ?_) | (refine j_kStore rfl ?_; first | refine j_storeN 0 rfl rfl rfl rfl rfl rfl rfl rfl rfl rfl rfl ?_) | refine j_alloc rfl rfl rfl rfl rfl (fun _ => ?_))
      | refine j_nil ?_
      | (refine r_go ?_; first | refine run_seq ?_ | refine run_region ?_)
      | refine seqQ_normal ?_)
  rename_i b5
  refine j_view (view_freezeP 0 5 rfl rfl) ?_
  refine j_kCall rfl rfl rfl rfl ?_
  refine jcp (_ :: _ :: F) (o_l07Some s code a1 sd1 d.objects 4 (by omega) ho (by omega)) (List.Perm.refl _) (LeL.refl _) rfl rfl (fun v h1 hR => ?_)
  obtain ⟨l, a2, sd2, rfl, hl, ha2, rfl⟩ := hR
  repeat' (first
      | (refine j_go ?_; first
        | refine j_op0 rfl rfl rfl rfl ?_ | (refine j_kStore rfl ?_; first | refine j_storeN 0 rfl rfl rfl rfl rfl rfl rfl rfl rfl rfl rfl ?_) | (refine j_kBsl rfl ?_; first | refine j_bs0 rfl rfl rfl rfl rfl rfl ?_) | refine j_build rfl rfl rfl rfl rfl rfl rfl ?_ | refine j_alloc rfl rfl rfl rfl rfl (fun _ => ?_))
      | refine j_nil ?_
      | (refine r_go ?_; first | refine run_seq ?_ | refine run_region ?_)
      | refine seqQ_normal ?_)
  rename_i b6
  refine j_kCall rfl rfl rfl rfl ?_
  refine jcp (_ :: _ :: _ :: F) (o_pick s code a2 sd2 4 (by omega) (by omega)) (List.Perm.swap _ _ _) (LeL.refl _) rfl rfl (fun v h1 hR => ?_)
  obtain ⟨r, a3, sd3, rfl, hr, ha3, rfl⟩ := hR
  repeat' (first
      | (refine j_go ?_; first
        | refine j_op0 rfl rfl rfl rfl ?_)
      | refine j_nil ?_
      | (refine r_go ?_; first | refine run_block ?_)
      | refine seqQ_normal ?_)
  refine run_view (view_none 54 (0 * 3) rfl) ?_
  refine run_view (view_perm rev3) ?_
  refine run_view (view_perm (List.Perm.swap _ _ _)) ?_
  refine run_loop (fun x : Int × List Group × Option Nat × Nat × Nat × Int => [(2, .op (some b2) 0), (3, .op (some b3) 0), (4, .op (some s) 0), (5, .ip (encDivision d)), (6, .op (some b6) 0), (7, .int x.1)])
    (fun x => srcB s code x.2.2.2.2.1 x.2.2.2.2.2 :: ⟨some b6, 30, 2, [.sl (l.map Go.AI.encI), .os x.2.2.1 x.2.1.length x.2.2.2.1]⟩ :: ⟨x.2.2.1, 54, x.2.2.2.1 * 3, (x.2.1.map encGroup).flatten⟩ :: ⟨some b3, 30, 2, [.os none 0 0, .os none 0 0]⟩ :: dvB b2 [.int 0, .os none 0 0] :: F)
    (fun x => (0 ≤ x.1 ∧ x.1 ≤ 3) ∧ (x.2.1.length : Int) + x.1 ≤ 3 ∧ (∀ y ∈ x.2.1, 0 ≤ y.count ∧ y.count ≤ 3 * (3 - x.1)) ∧ (x.2.1.Pairwise Before ∧ ∀ y ∈ x.2.1, DrwG d.objects y) ∧ (x.2.2.2.2.1 : Int) ≤ 1100 + 20 * (3 - x.1)) (fun x => x.1.toNat) (r, [], none, 0, a3, sd3) ⟨rfl, rfl, rfl, rfl, rfl, rfl, trivial⟩ rfl ⟨by dsimp only; omega, by dsimp only [List.length_nil]; omega, by simp, ⟨by simp, by simp⟩, by dsimp only; omega⟩ (fun ⟨i, gs, b, cap, a, sd⟩ ⟨hi, hg, hq, hw, hA⟩ => ?_)
  dsimp only at hi hg hq hw hA ⊢
  by_cases h0 : 0 < i
  case pos =>
    repeat' (first
      | (refine j_go ?_; first
        | refine j_op0 rfl rfl rfl rfl ?_)
      | refine j_nil ?_
      | (refine r_go ?_; first | refine run_seq ?_ | refine run_region ?_ | (refine (run_if rfl (fun hb => ?_) (fun hb => ?_)) <;> first | (exfalso; omega) | skip) | refine run_block ?_ | refine run_skip ?_)
      | refine seqQ_normal ?_)
    refine run_join (fun z : Int × List Int × Int × Nat × Nat × Int => [(2, .op (some b2) 0), (3, .op (some b3) 0), (4, .op (some s) 0), (5, .ip (encDivision d)), (6, .op (some b6) 0), (7, .int i), (8, .op (some z.2.2.2.1) 0)])
      (fun z => ⟨some z.2.2.2.1, 54, 3, encGroup ⟨z.1, z.2.1, 1 + z.2.2.1⟩⟩ :: srcB s code z.2.2.2.2.1 z.2.2.2.2.2 :: ⟨some b6, 30, 2, [.sl (l.map Go.AI.encI), .os b gs.length cap]⟩ :: ⟨b, 54, cap * 3, (gs.map encGroup).flatten⟩ :: ⟨some b3, 30, 2, [.os none 0 0, .os none 0 0]⟩ :: dvB b2 [.int 0, .os none 0 0] :: F)
      (fun z => (-1 ≤ z.1 ∧ z.1 ≤ 1) ∧ HeapOf d.objects z.2.1 4 ∧ (0 ≤ z.2.2.1 ∧ z.2.2.1 ≤ 2) ∧ z.2.2.2.2.1 ≤ a + 14) ?_ (fun ⟨c1, l2, r6, b8, a6, sd6⟩ ⟨hc1, hl2, hr6, ha6⟩ => ?_)
    · repeat' (first
      | (refine j_goO ?_; first
        | refine j_op0O rfl rfl rfl rfl ?_ | (refine j_kBslO rfl ?_; first | refine j_bslO rfl rfl rfl rfl rfl rfl rfl rfl rfl rfl rfl ?_))
      | (refine r_go ?_; first | refine run_opn 7 [⟨0, false, false, 0⟩, ⟨1, false, false, 0⟩, ⟨3, false, false, 0⟩, ⟨4, false, false, 0⟩, ⟨5, false, false, 0⟩, ⟨7, false, false, 0⟩, ⟨11, false, true, 5⟩, ⟨2, false, true, 0⟩, ⟨6, false, true, 0⟩, ⟨8, false, true, 0⟩, ⟨9, false, false, 0⟩, ⟨10, false, false, 0⟩, ⟨12, false, true, 0⟩] rfl rfl (by kernel_rfl) ?_))
      refine j_twoO rfl rfl rfl rfl (alloc_at rfl rfl) rfl rfl rfl (call_part 0 1 rfl rfl rfl (o_among s code a sd [0, 0, 1, -1] (-1) 1 (by omega) (by decide) (by decide) (by decide)) rfl (LeL.refl _)) rfl rfl (fun v h' hR => ?_) (fun v h' hR => ?_)
      · obtain ⟨b8, rfl, rfl⟩ := hR
        refine j_kCallO rfl rfl rfl rfl ?_
        refine jcdO 1 1 rfl (fun k hk => nomatch hk) (o_among s code a sd [0, 0, 1, -1] (-1) 1 (by omega) (by decide) (by decide) (by decide)) rfl (LeL.refl _) rfl rfl (fun v h1 hR => ?_)
        obtain ⟨c1, a4, sd4, rfl, hc1, ha4, rfl⟩ := hR
        refine j_kCallO rfl rfl rfl rfl ?_
        refine jcdO 1 1 rfl (fun k hk => nomatch hk) (o_l07Some s code a4 sd4 d.objects 4 (by omega) ho (by omega)) rfl (LeL.refl _) rfl rfl (fun v h1 hR => ?_)
        obtain ⟨l2, a5, sd5, rfl, hl2, ha5, rfl⟩ := hR
        refine j_kCallO rfl rfl rfl rfl ?_
        refine jcdO 1 1 rfl (fun k hk => nomatch hk) (o_pick s code a5 sd5 3 (by omega) (by omega)) rfl (LeL.refl _) rfl rfl (fun v h1 hR => ?_)
        obtain ⟨r6, a6, sd6, rfl, hr6, ha6, rfl⟩ := hR
        repeat' (first
      | (refine j_goO ?_; first
        | (refine j_kBinO rfl ?_; first | refine j_inO rfl rfl ⟨by omega, by omega⟩ rfl rfl ?_) | (refine j_kStoreO rfl ?_; first | refine j_storeNO 0 rfl rfl rfl rfl rfl rfl rfl rfl rfl rfl rfl rfl (by first | (intro _ hk; exact absurd hk List.not_mem_nil) | (intro k hk; simp at hk ⊢; try simp [hk])) ?_) | refine j_buildO rfl rfl rfl rfl rfl rfl rfl ?_)
      | refine j_nilO ?_)
        exact joinQ_done (c1, l2, r6, b8, a6, sd6) ⟨hc1, hl2, ⟨by dsimp only; omega, by dsimp only; omega⟩, by dsimp only; omega⟩ rfl ⟨rfl, rfl, rfl, rfl, rfl, rfl, rfl, trivial⟩
      · obtain ⟨h1, ⟨c1, a4, sd4, rfl, hc1, ha4, rfl⟩, rfl⟩ := hR
        refine j_twoO rfl rfl rfl rfl (alloc_at rfl rfl) rfl rfl rfl (call_part 0 1 rfl rfl rfl (o_l07Some s code a4 sd4 d.objects 4 (by omega) ho (by omega)) rfl (LeL.refl _)) rfl rfl (fun v h' hR => ?_) (fun v h' hR => ?_)
        · obtain ⟨b8, rfl, rfl⟩ := hR
          refine j_kCallO rfl rfl rfl rfl ?_
          refine jcdO 1 1 rfl (fun k hk => nomatch hk) (o_l07Some s code a4 sd4 d.objects 4 (by omega) ho (by omega)) rfl (LeL.refl _) rfl rfl (fun v h1 hR => ?_)
          obtain ⟨l2, a5, sd5, rfl, hl2, ha5, rfl⟩ := hR
          refine j_kCallO rfl rfl rfl rfl ?_
          refine jcdO 1 1 rfl (fun k hk => nomatch hk) (o_pick s code a5 sd5 3 (by omega) (by omega)) rfl (LeL.refl _) rfl rfl (fun v h1 hR => ?_)
          obtain ⟨r6, a6, sd6, rfl, hr6, ha6, rfl⟩ := hR
          repeat' (first
      | (refine j_goO ?_; first
        | (refine j_kBinO rfl ?_; first | refine j_inO rfl rfl ⟨by omega, by omega⟩ rfl rfl ?_) | (refine j_kStoreO rfl ?_; first | refine j_storeNO 0 rfl rfl rfl rfl rfl rfl rfl rfl rfl rfl rfl rfl (by first | (intro _ hk; exact absurd hk List.not_mem_nil) | (intro k hk; simp at hk ⊢; try simp [hk])) ?_) | refine j_buildO rfl rfl rfl rfl rfl rfl rfl ?_)
      | refine j_nilO ?_)
          exact joinQ_done (c1, l2, r6, b8, a6, sd6) ⟨hc1, hl2, ⟨by dsimp only; omega, by dsimp only; omega⟩, by dsimp only; omega⟩ rfl ⟨rfl, rfl, rfl, rfl, rfl, rfl, rfl, trivial⟩
        · obtain ⟨h1, ⟨l2, a5, sd5, rfl, hl2, ha5, rfl⟩, rfl⟩ := hR
          refine j_twoO rfl rfl rfl rfl (alloc_at rfl rfl) rfl rfl rfl (call_part 0 1 rfl rfl rfl (o_pick s code a5 sd5 3 (by omega) (by omega)) rfl (LeL.refl _)) rfl rfl (fun v h' hR => ?_) (fun v h' hR => ?_)
          · obtain ⟨b8, rfl, rfl⟩ := hR
            refine j_kCallO rfl rfl rfl rfl ?_
            refine jcdO 1 1 rfl (fun k hk => nomatch hk) (o_pick s code a5 sd5 3 (by omega) (by omega)) rfl (LeL.refl _) rfl rfl (fun v h1 hR => ?_)
            obtain ⟨r6, a6, sd6, rfl, hr6, ha6, rfl⟩ := hR
            repeat' (first
      | (refine j_goO ?_; first
        | (refine j_kBinO rfl ?_; first | refine j_inO rfl rfl ⟨by omega, by omega⟩ rfl rfl ?_) | (refine j_kStoreO rfl ?_; first | refine j_storeNO 0 rfl rfl rfl rfl rfl rfl rfl rfl rfl rfl rfl rfl (by first | (intro _ hk; exact absurd hk List.not_mem_nil) | (intro k hk; simp at hk ⊢; try simp [hk])) ?_) | refine j_buildO rfl rfl rfl rfl rfl rfl rfl ?_)
      | refine j_nilO ?_)
            exact joinQ_done (c1, l2, r6, b8, a6, sd6) ⟨hc1, hl2, ⟨by dsimp only; omega, by dsimp only; omega⟩, by dsimp only; omega⟩ rfl ⟨rfl, rfl, rfl, rfl, rfl, rfl, rfl, trivial⟩
          · obtain ⟨h1, ⟨r6, a6, sd6, rfl, hr6, ha6, rfl⟩, rfl⟩ := hR
            refine j_floatO rfl rfl rfl rfl rfl (alloc_at rfl rfl) rfl rfl rfl (fun _ => sum_quiet (m := 1 + r6) rfl (by omega)) rfl rfl (fun v h' hR => ?_) ?_
            · obtain ⟨b8, rfl, rfl⟩ := hR
              repeat' (first
      | (refine j_goO ?_; first
        | (refine j_kBinO rfl ?_; first | refine j_inO rfl rfl ⟨by omega, by omega⟩ rfl rfl ?_) | (refine j_kStoreO rfl ?_; first | refine j_storeNO 0 rfl rfl rfl rfl rfl rfl rfl rfl rfl rfl rfl rfl (by first | (intro _ hk; exact absurd hk List.not_mem_nil) | (intro k hk; simp at hk ⊢; try simp [hk])) ?_) | refine j_buildO rfl rfl rfl rfl rfl rfl rfl ?_)
      | refine j_nilO ?_)
              exact joinQ_done (c1, l2, r6, b8, a6, sd6) ⟨hc1, hl2, ⟨by dsimp only; omega, by dsimp only; omega⟩, by dsimp only; omega⟩ rfl ⟨rfl, rfl, rfl, rfl, rfl, rfl, rfl, trivial⟩
            · skip
              refine j_floatO rfl rfl rfl rfl rfl (alloc_at rfl rfl) rfl rfl rfl (fun _ => build_quiet rfl rfl rfl rfl) rfl rfl (fun v h' hR => ?_) ?_
              · obtain ⟨b8, rfl, rfl⟩ := hR
                repeat' (first
      | (refine j_goO ?_; first
        | (refine j_kStoreO rfl ?_; first | refine j_storeNO 0 rfl rfl rfl rfl rfl rfl rfl rfl rfl rfl rfl rfl (by first | (intro _ hk; exact absurd hk List.not_mem_nil) | (intro k hk; simp at hk ⊢; try simp [hk])) ?_) | refine j_buildO rfl rfl rfl rfl rfl rfl rfl ?_)
      | refine j_nilO ?_)
                exact joinQ_done (c1, l2, r6, b8, a6, sd6) ⟨hc1, hl2, ⟨by dsimp only; omega, by dsimp only; omega⟩, by dsimp only; omega⟩ rfl ⟨rfl, rfl, rfl, rfl, rfl, rfl, rfl, trivial⟩
              · skip
                refine j_allocO rfl (fun _ hk => nomatch hk) rfl rfl rfl rfl rfl (fun b8 => ?_)
                repeat' (first
      | (refine j_goO ?_; first
        | (refine j_kStoreO rfl ?_; first | refine j_storeNO 0 rfl rfl rfl rfl rfl rfl rfl rfl rfl rfl rfl rfl (by first | (intro _ hk; exact absurd hk List.not_mem_nil) | (intro k hk; simp at hk ⊢; try simp [hk])) ?_))
      | refine j_nilO ?_)
                exact joinQ_done (c1, l2, r6, b8, a6, sd6) ⟨hc1, hl2, ⟨by dsimp only; omega, by dsimp only; omega⟩, by dsimp only; omega⟩ rfl ⟨rfl, rfl, rfl, rfl, rfl, rfl, rfl, trivial⟩
    dsimp only at hc1 hl2 hr6 ha6 ⊢
    repeat' (first
      | (refine j_go ?_; first
        | refine j_op0 rfl rfl rfl rfl ?_ | (refine j_kLoad rfl ?_; first | refine j_mload 0 rfl rfl rfl rfl rfl rfl rfl ?_ | refine j_mload 2 rfl rfl rfl rfl rfl rfl rfl ?_))
      | (refine r_go ?_; first | refine run_region ?_))
    refine j_kCall rfl rfl rfl rfl ?_
    refine jcp (_ :: _ :: _ :: _ :: _ :: F) (o_l07Insert gs ⟨c1, l2, 1 + r6⟩ b cap (by omega) (fun x hx => by have := hq x hx; omega) (by dsimp only; omega) (by dsimp only; omega)) (List.perm_middle (l₁ := [_, _, _])) (LeL.refl _) rfl rfl (fun v h1 hR => ?_)
    obtain ⟨b', c', rfl, rfl⟩ := hR
    refine j_view (view_erase 1) ?_
    refine j_view (view_perm (List.perm_middle (l₁ := [_, _])).symm) ?_
    repeat' (first
      | (refine j_go ?_; first
        | refine j_op0 rfl rfl rfl rfl ?_ | (refine j_kBin rfl ?_; first | refine j_in rfl rfl ⟨by omega, by omega⟩ rfl rfl ?_) | (refine j_kStore rfl ?_; first | refine j_store 1 rfl rfl rfl rfl rfl rfl rfl rfl rfl rfl rfl ?_))
      | refine j_nil ?_
      | (refine r_go ?_; first | refine run_region ?_)
      | refine seqQ_normal ?_ | refine blockQ_normal ?_)
    have il := insM_len gs ⟨c1, l2, 1 + r6⟩
    have ic := insM_cnt (gs := gs) (g := ⟨c1, l2, 1 + r6⟩) (B := 3 * (3 - i)) (C := 3) hq (by dsimp only; omega) (by omega)
    exact loopQ_next (i - 1, insM gs ⟨c1, l2, 1 + r6⟩, b', c', a6, sd6) ⟨by dsimp only; omega, by dsimp only; omega, fun y hy => by have := ic y hy; dsimp only; omega, ins_drw hw ⟨hc1, hl2, by dsimp only; omega⟩, by dsimp only; omega⟩ (by dsimp only; omega) rfl ⟨rfl, rfl, rfl, rfl, rfl, rfl, trivial⟩
  obtain rfl : i = 0 := by omega
  refine run_view (view_cellF (k := 1) (b := some b6) (h1 := [_]) (F := _ :: _ :: _ :: F) ((List.Perm.swap _ _ _).trans (List.Perm.cons _ (List.Perm.swap _ _ _))) rfl (FrzF.flat (g := encGroup) (ys := gs) (z := 3) rfl rfl (fun _ => rfl) rfl rfl)) ?_
  refine run_view (view_freezeP 0 6 rfl rfl) ?_
  repeat' (first
      | (refine j_go ?_; first
        | refine j_op0 rfl rfl rfl rfl ?_)
      | refine j_nil ?_
      | (refine j_goO ?_; first
        | refine j_op0O rfl rfl rfl rfl ?_ | (refine j_kStoreO rfl ?_; first | refine j_storeNO 1 rfl rfl rfl rfl rfl rfl rfl rfl rfl rfl rfl rfl (by first | (intro _ hk; exact absurd hk List.not_mem_nil) | (intro k hk; simp at hk ⊢; try simp [hk])) ?_ | refine j_storeNO 2 rfl rfl rfl rfl rfl rfl rfl rfl rfl rfl rfl rfl (by first | (intro _ hk; exact absurd hk List.not_mem_nil) | (intro k hk; simp at hk ⊢; try simp [hk])) ?_))
      | refine j_nilO ?_
      | (refine r_go ?_; first | refine run_seq ?_ | refine run_region ?_ | (refine (run_if rfl (fun hb => ?_) (fun hb => ?_)) <;> first | (exfalso; omega) | skip) | refine run_ret ?_ | refine run_exit ?_ | refine run_opn 9 [⟨0, true, false, 0⟩, ⟨1, false, false, 0⟩, ⟨2, false, true, 0⟩, ⟨3, false, true, 0⟩] rfl rfl (by kernel_rfl) ?_)
      | refine seqQ_normal ?_ | refine seqQ_exit ?_ | refine blockQ_eq ?_ | refine loopQ_exit ?_)
  refine endD_view (view_freezeP 1 3 rfl rfl) (endD_view (view_freezeP 1 2 rfl rfl) (endD_view (view_sub (List.sublist_cons_self _ _)) ?_))
  exact endD_ret (h1 := []) rfl (.cons (.cellI rfl rfl) (.cons (.cellI rfl rfl) .nil)) (Le.refl _) ⟨d, ⟨l, gs⟩, rfl, hd, hl, drw_ok hl hw (by omega) (fun y hy => by have := hq y hy; omega), rfl⟩ (.inl rfl)
end Go.Proofs.YtbhiaccbpbnbmaaGreat
