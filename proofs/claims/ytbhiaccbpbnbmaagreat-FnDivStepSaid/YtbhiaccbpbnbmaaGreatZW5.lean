/-
  A step of a colony: what all cells become, plain. No condition.
-/
import Derived.Test.YtbhiaccbpbnbmaaGreatZS7s
import Derived.Test.YtbhiaccbpbnbmaaGreatZMX
import Derived.Test.YtbhiaccbpbnbmaaGreatZDP
namespace Go.Proofs.YtbhiaccbpbnbmaaGreat
open Go.AI
set_option maxRecDepth 8000
set_option maxHeartbeats 1600000
/-- What the contents of a cell that uses a rule become. -/
noncomputable def ctU (d : Division) (g : Group) (r : DivRule) : List Int := d.grown 1 g.charge (if r.kind = 0 ∨ r.kind = 5 then g.contents else g.contents.erase r.object)
/-- What the cells of a use become. -/
noncomputable def cellsU (d : Division) (u : Use) : List Group :=
  if u.r.kind = 3 ∨ u.r.kind = 5 then [⟨u.r.to, ctU d u.g u.r ++ u.r.first, u.many⟩]
  else if u.r.kind = 4 then [⟨u.r.to, ctU d u.g u.r, u.many⟩]
  else if u.r.kind = 6 then [⟨u.r.to, ctU d u.g u.r ++ u.r.first, u.many⟩, ⟨u.r.toB, ctU d u.g u.r ++ u.r.second, u.many⟩]
  else if u.r.kind = 7 then []
  else [⟨u.g.charge, ctU d u.g u.r, u.many⟩]
/-- What each cell of a use sends out. -/
noncomputable def outU (d : Division) (u : Use) : List Int := if u.r.kind = 4 then u.r.first else if u.r.kind = 7 then ctU d u.g u.r ++ u.r.first else []
def repL (n : Nat) (l : List Int) : List Int := (List.replicate n l).flatten
theorem repL_zero (l : List Int) : repL 0 l = [] := rfl
theorem repL_succ (n : Nat) (l : List Int) : repL (n + 1) l = repL n l ++ l := by
  unfold repL; rw [List.replicate_succ', List.flatten_append]; simp
theorem repL_nil (n : Nat) : repL n [] = [] := by unfold repL; simp
theorem repL_mono {l : List Int} {a b : Nat} (h : a ≤ b) : (repL a l).length ≤ (repL b l).length := by
  unfold repL
  rw [List.length_flatten, List.length_flatten, List.map_replicate, List.map_replicate, List.sum_replicate_nat, List.sum_replicate_nat]
  exact Nat.mul_le_mul_right _ h
noncomputable def cellsA (d : Division) (us : List Use) : List Group := us.flatMap (cellsU d)
noncomputable def outA (d : Division) (us : List Use) : List Int := us.flatMap fun u => repL u.many.toNat (outU d u)
theorem cellsA_app (d : Division) (a b : List Use) : cellsA d (a ++ b) = cellsA d a ++ cellsA d b := List.flatMap_append
theorem outA_app (d : Division) (a b : List Use) : outA d (a ++ b) = outA d a ++ outA d b := List.flatMap_append
theorem cellsA_one (d : Division) (u : Use) : cellsA d [u] = cellsU d u := by unfold cellsA; simp
theorem outA_one (d : Division) (u : Use) : outA d [u] = repL u.many.toNat (outU d u) := by unfold outA; simp
/-- Cells that are added one by one. -/
noncomputable def addM (o : Int) (gs news : List Group) : List Group := news.foldl (fun a x => insM a ⟨x.charge, srtL o x.contents, x.count⟩) gs
theorem addM_app (o : Int) (gs a b : List Group) : addM o gs (a ++ b) = addM o (addM o gs a) b := List.foldl_append
theorem addM_one (o : Int) (gs : List Group) (x : Group) : addM o gs [x] = insM gs ⟨x.charge, srtL o x.contents, x.count⟩ := rfl
/-- What is in the skin, or both are too much. -/
def TrP (full sk : List Int) : Prop := sk = full ∨ (300 < sk.length ∧ 300 < full.length)
theorem TrP.same (l : List Int) : TrP l l := .inl rfl
theorem TrP.more {full sk : List Int} (h : TrP full sk) (l : List Int) : TrP (full ++ l) (sk ++ l) := by
  rcases h with rfl | ⟨h1, h2⟩
  · exact .inl rfl
  · exact .inr ⟨by rw [List.length_append]; omega, by rw [List.length_append]; omega⟩
theorem TrP.long {full sk : List Int} (h : TrP full sk) (hl : 300 < sk.length) {full' : List Int} (hf : full.length ≤ full'.length) : TrP full' sk := by
  rcases h with rfl | ⟨h1, h2⟩
  · exact .inr ⟨hl, by omega⟩
  · exact .inr ⟨h1, by omega⟩
/-- A use is in order. -/
def UseOk (d : Division) (u : Use) : Prop := (-1 ≤ u.g.charge ∧ u.g.charge ≤ 1) ∧ HeapOf d.objects u.g.contents 60 ∧ (1 ≤ u.many ∧ u.many ≤ 5000) ∧ (u.r = rule0 ∨ (u.r ∈ d.rules ∧ 3 ≤ u.r.kind))
theorem usK_ok {d : Division} {g : Group} {l : List Int} (h0 : 0 ≤ g.count ∧ g.count ≤ 5000) (h1 : -1 ≤ g.charge ∧ g.charge ≤ 1) (h2 : HeapOf d.objects g.contents 60) (hv : d.Valid) : ∀ k, k ≤ d.rules.length → ∀ u ∈ usK d g l k, UseOk d u
  | 0, _, u, hu => absurd hu List.not_mem_nil
  | k + 1, hk, u, hu => by
    have hk' : k < d.rules.length := by omega
    have hb := stK_bnd (d := d) (l := l) (k := k) h0.1
    have mb := many_bnd (g := g) (l := (stK d g l k).1) (r := d.rules[k]) hb.2.1
    by_cases q : 0 < manyOf g (stK d g l k).1 (stK d g l k).2 d.rules[k]
    · rw [usK_yes hk' q] at hu
      rcases List.mem_append.1 hu with hu | hu
      · exact usK_ok h0 h1 h2 hv k (by omega) u hu
      · rw [List.mem_singleton] at hu
        subst hu
        refine ⟨h1, h2, ⟨by dsimp only; omega, by dsimp only; omega⟩, .inr ⟨List.getElem_mem hk', ?_⟩⟩
        have hr := (hv.2.2 _ (List.getElem_mem hk')).1
        dsimp only
        by_cases z : d.rules[k].kind = 1 ∨ d.rules[k].kind = 2
        · rw [many_no (z.elim .inl fun z => .inr (.inl z))] at q; omega
        · omega
    · rw [usK_no hk' q] at hu
      exact usK_ok h0 h1 h2 hv k (by omega) u hu
theorem usG_ok {d : Division} {g : Group} {l : List Int} (h0 : 0 ≤ g.count ∧ g.count ≤ 5000) (h1 : -1 ≤ g.charge ∧ g.charge ≤ 1) (h2 : HeapOf d.objects g.contents 60) (hv : d.Valid) : ∀ u ∈ usG d l g, UseOk d u := fun u hu => by
  unfold usG at hu
  rcases List.mem_append.1 hu with hu | hu
  · exact usK_ok h0 h1 h2 hv _ (Nat.le_refl _) u hu
  · have hb := stK_bnd (d := d) (l := l) (k := d.rules.length) h0.1
    split at hu
    · rw [List.mem_singleton] at hu
      subst hu
      exact ⟨h1, h2, ⟨by dsimp only; omega, by dsimp only; omega⟩, .inl rfl⟩
    · cases hu
theorem ctU_rng {d : Division} (hv : d.Valid) {g : Group} {r : DivRule} (hg : HeapOf d.objects g.contents 60) : ObjsIn d.objects (ctU d g r) := by
  unfold ctU
  refine grown_rng hv fun y hy => ?_
  split at hy
  · exact hg.rng y hy
  · exact hg.rng y (List.mem_of_mem_erase hy)
theorem ctU_len {d : Division} (hv : d.Valid) {g : Group} {r : DivRule} (hg : HeapOf d.objects g.contents 60) : (ctU d g r).length ≤ 960 := by
  unfold ctU
  have h60 := hg.2
  split
  · have := grown_len hv (kind := 1) (charge := g.charge) g.contents; omega
  · have := grown_len hv (kind := 1) (charge := g.charge) (g.contents.erase r.object)
    have := (List.erase_sublist (a := r.object) (l := g.contents)).length_le
    omega
theorem objs_app {o : Int} {a b : List Int} (ha : ObjsIn o a) (hb : ObjsIn o b) : ObjsIn o (a ++ b) := mem_rng2 ha hb
theorem UseOk.rule {d : Division} {u : Use} (h : UseOk d u) (hv : d.Valid) (hk : u.r.kind ≠ 0) : u.r.Ok d.objects := by
  rcases h.2.2.2 with e | ⟨e, _⟩
  · rw [e] at hk; exact absurd rfl hk
  · exact hv.2.2 _ e
theorem cellsU_ok {d : Division} (hv : d.Valid) {u : Use} (h : UseOk d u) : ∀ g ∈ cellsU d u, GrpOk d.objects g ∧ 0 < g.count ∧ g.contents.length ≤ 1000 := fun g hg => by
  have h1 := h.1
  have h3 := h.2.2.1
  have cr := ctU_rng hv (r := u.r) h.2.1
  have cl := ctU_len hv (r := u.r) h.2.1
  unfold cellsU at hg
  split at hg
  · rename_i q
    have r := h.rule hv (by omega)
    rw [List.mem_singleton] at hg; subst hg
    have := r.2.2.2.2.2.1.2
    exact ⟨⟨r.2.2.2.1, ⟨by dsimp only; omega, by dsimp only; omega⟩, objs_app cr r.2.2.2.2.2.1.rng⟩, by dsimp only; omega, by dsimp only; rw [List.length_append]; omega⟩
  · split at hg
    · rename_i q
      have r := h.rule hv (by omega)
      rw [List.mem_singleton] at hg; subst hg
      exact ⟨⟨r.2.2.2.1, ⟨by dsimp only; omega, by dsimp only; omega⟩, cr⟩, by dsimp only; omega, by dsimp only; omega⟩
    · split at hg
      · rename_i q
        have r := h.rule hv (by omega)
        have := r.2.2.2.2.2.1.2
        have := r.2.2.2.2.2.2.1.2
        rcases List.mem_cons.1 hg with rfl | hg
        · exact ⟨⟨r.2.2.2.1, ⟨by dsimp only; omega, by dsimp only; omega⟩, objs_app cr r.2.2.2.2.2.1.rng⟩, by dsimp only; omega, by dsimp only; rw [List.length_append]; omega⟩
        · rw [List.mem_singleton] at hg; subst hg
          exact ⟨⟨r.2.2.2.2.1, ⟨by dsimp only; omega, by dsimp only; omega⟩, objs_app cr r.2.2.2.2.2.2.1.rng⟩, by dsimp only; omega, by dsimp only; rw [List.length_append]; omega⟩
      · split at hg
        · cases hg
        · rw [List.mem_singleton] at hg; subst hg
          exact ⟨⟨h1, ⟨by dsimp only; omega, by dsimp only; omega⟩, cr⟩, by dsimp only; omega, by dsimp only; omega⟩
theorem outU_ok {d : Division} (hv : d.Valid) {u : Use} (h : UseOk d u) : ObjsIn d.objects (outU d u) ∧ (outU d u).length ≤ 1000 := by
  have cr := ctU_rng hv (r := u.r) h.2.1
  have cl := ctU_len hv (r := u.r) h.2.1
  unfold outU
  split
  · have r := h.rule hv (by omega)
    exact ⟨r.2.2.2.2.2.1.rng, by have := r.2.2.2.2.2.1.2; omega⟩
  · split
    · have r := h.rule hv (by omega)
      exact ⟨objs_app cr r.2.2.2.2.2.1.rng, by have := r.2.2.2.2.2.1.2; rw [List.length_append]; omega⟩
    · exact ⟨fun _ q => absurd q List.not_mem_nil, by simp⟩
theorem cellsU_len (d : Division) (u : Use) : (cellsU d u).length ≤ 2 := by
  unfold cellsU
  split
  · simp
  · split
    · simp
    · split
      · simp
      · split <;> simp
theorem addM_eq {o : Int} (ho : 1 ≤ o) : ∀ (news gs : List Group), (∀ g ∈ news, ObjsIn o g.contents ∧ 0 < g.count) → addM o gs news = (normG news).foldl insM gs
  | [], gs, _ => rfl
  | x :: news, gs, h => by
    have hx := h x List.mem_cons_self
    have e : normG (x :: news) = ⟨x.charge, sortI x.contents, x.count⟩ :: normG news := by
      unfold normG; rw [List.filter_cons, if_pos (decide_eq_true hx.2), List.map_cons]
    rw [e, List.foldl_cons, ← srt_sort ho hx.1, ← addM_eq ho news _ fun g hg => h g (List.mem_cons_of_mem _ hg)]
    rfl
/-- The uses of a step. -/
noncomputable def usC (d : Division) (c : Colony) : List Use := usA d c c.groups.length
/-- What is in the skin behind a step, in any order. -/
noncomputable def skC (d : Division) (c : Colony) : List Int := d.grown 2 0 (stA d c c.groups.length).1 ++ outA d (usC d c)
/-- The colony behind a step. -/
noncomputable def stpC (d : Division) (c : Colony) : Colony := colG (skC d c) (cellsA d (usC d c))
theorem usC_ok {d : Division} {c : Colony} (hv : d.Valid) (hc : c.Ok d.objects) : ∀ u ∈ usC d c, UseOk d u := by
  have key : ∀ k, k ≤ c.groups.length → ∀ u ∈ usA d c k, UseOk d u := by
    intro k
    induction k with
    | zero => intro _ u hu; cases hu
    | succ k ih =>
      intro hk u hu
      rw [usA_succ (by omega)] at hu
      rcases List.mem_append.1 hu with hu | hu
      · exact ih (by omega) u hu
      · have hg := (hc.2.2.1 k (by omega)).1
        have hu5 := hc.upto (k := k) (by omega)
        exact usG_ok ⟨by omega, by omega⟩ hg.1 hg.2.1 hv u hu
  exact key _ (Nat.le_refl _)
theorem cellsA_ok {d : Division} {us : List Use} (hv : d.Valid) (h : ∀ u ∈ us, UseOk d u) : ∀ g ∈ cellsA d us, GrpOk d.objects g ∧ 0 < g.count ∧ g.contents.length ≤ 1000 := fun g hg => by
  unfold cellsA at hg
  obtain ⟨u, hu, hg⟩ := List.mem_flatMap.1 hg
  exact cellsU_ok hv (h u hu) g hg
theorem cellsA_len {d : Division} : ∀ (us : List Use), (cellsA d us).length ≤ 2 * us.length
  | [] => Nat.le_refl _
  | u :: us => by
    have h1 := cellsA_len (d := d) us
    have h2 := cellsU_len d u
    have e : cellsA d (u :: us) = cellsU d u ++ cellsA d us := by rw [← List.singleton_append, cellsA_app, cellsA_one]
    rw [e, List.length_append, List.length_cons]; omega
theorem outA_rng {d : Division} {us : List Use} (hv : d.Valid) (h : ∀ u ∈ us, UseOk d u) : ObjsIn d.objects (outA d us) := fun y hy => by
  unfold outA at hy
  obtain ⟨u, hu, hy⟩ := List.mem_flatMap.1 hy
  unfold repL at hy
  obtain ⟨l, hl, hy⟩ := List.mem_flatten.1 hy
  rw [List.mem_replicate] at hl
  rw [hl.2] at hy
  exact (outU_ok hv (h u hu)).1 y hy
end Go.Proofs.YtbhiaccbpbnbmaaGreat

/-
  A step of a colony: what both sides hand back, and the law of parts. Plain; no condition.
-/
namespace Go.Proofs.YtbhiaccbpbnbmaaGreat
open Go.AI
set_option maxRecDepth 8000
set_option maxHeartbeats 1600000

theorem pw_consec {α : Type} {R : α → α → Prop} (tr : ∀ {a b c : α}, R a b → R b c → R a c) {l : List α} (h : ∀ i (hi : i < l.length), 0 < i → R (l[i-1]'(by omega)) l[i]) : l.Pairwise R := by
  refine List.pairwise_iff_getElem.2 fun i j hi hj hij => ?_
  induction j with
  | zero => exact absurd hij (Nat.not_lt_zero _)
  | succ j ih =>
    have h1 := h (j + 1) hj (by omega)
    simp only [Nat.add_sub_cancel] at h1
    by_cases q : i = j
    · subst q; exact h1
    · exact tr (ih (by omega) (by omega)) h1
theorem HeapOf.asc {o m : Int} {l : List Int} (h : HeapOf o l m) : l.Pairwise (fun a b => a ≤ b) := pw_consec (R := fun a b : Int => a ≤ b) (fun h1 h2 => Int.le_trans h1 h2) (fun i hi h0 => (h.1 i hi).2 h0)
theorem HeapOf.take {o m : Int} {l : List Int} (h : HeapOf o l m) (k : Nat) : HeapOf o (l.take k) m := by
  refine ⟨fun i hi => ?_, ?_⟩
  · rw [List.length_take] at hi
    have := h.1 i (by omega)
    simp only [List.getElem_take]
    exact this
  · have := h.2; rw [List.length_take]; omega
theorem sortI_id {l : List Int} (h : l.Pairwise (fun a b => a ≤ b)) : sortI l = l :=
  List.Perm.eq_of_pairwise (le := fun a b : Int => a ≤ b) (fun a b _ _ h1 h2 => by omega) (sortI_sorted l) h (sortI_perm l)
theorem sortI_eqp {a b : List Int} (h : a.Perm b) : sortI a = sortI b :=
  List.Perm.eq_of_pairwise (le := fun a b : Int => a ≤ b) (fun a b _ _ h1 h2 => by omega) (sortI_sorted a) (sortI_sorted b) ((sortI_perm a).trans (h.trans (sortI_perm b).symm))
theorem Colony.Ok.asc {o : Int} {c : Colony} (h : c.Ok o) : c.groups.Pairwise Before := pw_consec (R := Before) bef_trans (fun i hi h0 => (h.2.2.1 i hi).2 h0)
theorem Colony.Ok.grp {o : Int} {c : Colony} (h : c.Ok o) : ∀ g ∈ c.groups, GrpOk o g ∧ 0 < g.count ∧ HeapOf o g.contents 60 := fun g hg => by
  obtain ⟨i, hi, rfl⟩ := List.getElem_of_mem hg
  have h1 := (h.2.2.1 i hi).1
  have h2 := h.upto hi
  exact ⟨⟨h1.1, ⟨by omega, by omega⟩, h1.2.1.rng⟩, by omega, h1.2.1⟩
theorem normG_id : ∀ {l : List Group}, (∀ x ∈ l, 0 < x.count ∧ sortI x.contents = x.contents) → normG l = l
  | [], _ => rfl
  | x :: l, h => by
    have hx := h x List.mem_cons_self
    have e : normG (x :: l) = ⟨x.charge, sortI x.contents, x.count⟩ :: normG l := by
      unfold normG; rw [List.filter_cons, if_pos (decide_eq_true hx.1), List.map_cons]
    rw [e, normG_id fun y hy => h y (List.mem_cons_of_mem _ hy), hx.2]
theorem normG_sum : ∀ {l : List Group}, (∀ x ∈ l, 0 < x.count) → sumF Group.count (normG l) = sumF Group.count l
  | [], _ => rfl
  | x :: l, h => by
    have e : normG (x :: l) = ⟨x.charge, sortI x.contents, x.count⟩ :: normG l := by
      unfold normG; rw [List.filter_cons, if_pos (decide_eq_true (h x List.mem_cons_self)), List.map_cons]
    have ih := normG_sum (l := l) fun y hy => h y (List.mem_cons_of_mem _ hy)
    rw [e]; simp only [sumF]; rw [ih]
theorem normG_sub {a b : List Group} (h : ∀ x ∈ a, x ∈ b) : ∀ z ∈ normG a, z ∈ normG b := fun z hz => by
  unfold normG at hz ⊢
  obtain ⟨x, hx, rfl⟩ := List.mem_map.1 hz
  obtain ⟨h1, h2⟩ := List.mem_filter.1 hx
  exact List.mem_map.2 ⟨x, List.mem_filter.2 ⟨h x h1, h2⟩, rfl⟩
theorem normG_srt {a : List Group} : ∀ z ∈ normG a, sortI z.contents = z.contents := fun z hz => by
  unfold normG at hz
  obtain ⟨x, hx, rfl⟩ := List.mem_map.1 hz
  exact sortI_id (sortI_sorted _)
theorem sumK_ex {k : Group} {l : List Group} (h : 0 < sumK k l) : ∃ y ∈ l, SameK k y := Classical.byContradiction fun q => by
  have := sumK_none (k := k) (l := l) (fun x hx r => q ⟨x, hx, r⟩)
  omega
theorem Agg.src {gs ks : List Group} (h : Agg gs ks) {x : Group} (hx : x ∈ ks) : ∃ y ∈ gs, SameK x y := sumK_ex (by
  rw [← h.eqv x]; exact sumK_pos h.pos x hx ⟨rfl, rfl⟩)
theorem Agg.dst {gs ks : List Group} (h : Agg gs ks) (hp : ∀ y ∈ gs, 0 < y.count) {x : Group} (hx : x ∈ gs) : ∃ y ∈ ks, SameK x y := sumK_ex (by
  rw [h.eqv x]; exact sumK_pos hp x hx ⟨rfl, rfl⟩)
theorem nodup_len {α : Type} [DecidableEq α] : ∀ {a b : List α}, a.Nodup → (∀ x ∈ a, x ∈ b) → a.length ≤ b.length
  | [], _, _, _ => Nat.zero_le _
  | x :: a, b, hn, hs => by
    rw [List.nodup_cons] at hn
    have hx := hs x List.mem_cons_self
    have h1 := nodup_len (a := a) (b := b.erase x) hn.2 (fun y hy => (List.mem_erase_of_ne (fun e => hn.1 (by rw [← e]; exact hy))).2 (hs y (List.mem_cons_of_mem _ hy)))
    rw [List.length_erase_of_mem hx] at h1
    have := List.length_pos_of_mem hx
    simp only [List.length_cons]; omega
def keyG (g : Group) : Int × List Int := (g.charge, g.contents)
theorem asc_nodup {ks : List Group} (h : ks.Pairwise Before) : (ks.map keyG).Nodup := by
  unfold List.Nodup
  rw [List.pairwise_map]
  refine h.imp fun {a b} q => ?_
  intro e
  unfold keyG at e
  exact bef_irr q ⟨congrArg Prod.fst e, congrArg Prod.snd e⟩
theorem sub_len {ka kb : List Group} (ha : ka.Pairwise Before) (h : ∀ x ∈ ka, ∃ y ∈ kb, SameK x y) : ka.length ≤ kb.length := by
  have := nodup_len (asc_nodup ha) (b := kb.map keyG) (fun k hk => by
    obtain ⟨x, hx, rfl⟩ := List.mem_map.1 hk
    obtain ⟨y, hy, q⟩ := h x hx
    exact List.mem_map.2 ⟨y, hy, by unfold keyG; rw [q.1, q.2]⟩)
  simpa using this
/-- A colony of a part of the cells and of the objects is right where that of all is. -/
theorem colG_sub {o : Int} {S s : List Int} {all p : List Group} (h : (colG S all).Ok o) (hs : s.length ≤ S.length) (hr : ObjsIn o s) (ha : ∀ g ∈ all, GrpOk o g) (hp : ∀ g ∈ p, g ∈ all) (hsum : sumF Group.count (normG p) ≤ sumF Group.count (normG all)) : (colG s p).Ok o := by
  have A1 := ksG_agg ha
  have A2 := ksG_agg (gs := p) (fun g hg => ha g (hp g hg))
  have mem : ∀ x ∈ ksG p, ∃ y ∈ ksG all, SameK x y := fun x hx => by
    obtain ⟨z, hz, q⟩ := A2.src hx
    obtain ⟨y, hy, q2⟩ := A1.dst (fun y hy => (normG_mem ha y hy).1) (normG_sub hp z hz)
    exact ⟨y, hy, q.1.trans q2.1, q.2.trans q2.2⟩
  have hS : ((sortI S).length : Int) ≤ 300 := h.1.2
  rw [(sortI_perm S).length_eq] at hS
  refine ⟨heap_sort hr (by omega) (sortI_perm _) (sortI_sorted _), ?_, fun i hi => ⟨?_, fun h0 => ?_⟩, ?_⟩
  · have h1 : (ksG all).length ≤ 200 := h.2.1
    have h2 := sub_len A2.asc mem
    exact Nat.le_trans h2 h1
  · obtain ⟨y, hy, q⟩ := mem _ (List.getElem_mem hi)
    obtain ⟨h1, h2, h3⟩ := h.grp y hy
    have hc := A2.pos _ (List.getElem_mem hi)
    have e1 : (colG s p).groups[i].charge = y.charge := q.1
    have e2 : (colG s p).groups[i].contents = y.contents := q.2
    have e3 : 0 < (colG s p).groups[i].count := hc
    refine ⟨by rw [e1]; exact h1.1, by rw [e2]; exact h3, by omega⟩
  · exact List.pairwise_iff_getElem.1 A2.asc (i - 1) i (by have : i < (ksG p).length := hi; omega) hi (by omega)
  · have h1 := A1.sum
    have h2 := A2.sum
    have h3 : sumF Group.count (ksG all) ≤ 5000 := h.2.2.2
    show sumF Group.count (ksG p) ≤ 5000
    omega
/-- What was gathered apart and is gathered together. -/
theorem colG_join {o : Int} {S s1 s2 : List Int} {p1 p2 : List Group} (hS : (s1 ++ s2).Perm S) (ha : ∀ g ∈ p1 ++ p2, GrpOk o g) : colG (sortI s1 ++ sortI s2) (ksG p1 ++ ksG p2) = colG S (p1 ++ p2) := by
  have B1 := ksG_agg (gs := p1) (fun g hg => ha g (List.mem_append_left _ hg))
  have B2 := ksG_agg (gs := p2) (fun g hg => ha g (List.mem_append_right _ hg))
  have A := ksG_agg ha
  have hm : ∀ x ∈ ksG p1 ++ ksG p2, 0 < x.count ∧ sortI x.contents = x.contents ∧ x.charge ≤ 1 := fun x hx => by
    rcases List.mem_append.1 hx with hx | hx
    · obtain ⟨z, hz, q⟩ := B1.src hx
      have := (normG_mem (fun g hg => ha g (List.mem_append_left _ hg)) z hz).2.2
      exact ⟨B1.pos x hx, by rw [q.2]; exact normG_srt z hz, by rw [q.1]; exact this⟩
    · obtain ⟨z, hz, q⟩ := B2.src hx
      have := (normG_mem (fun g hg => ha g (List.mem_append_right _ hg)) z hz).2.2
      exact ⟨B2.pos x hx, by rw [q.2]; exact normG_srt z hz, by rw [q.1]; exact this⟩
  have eN := normG_id (fun x hx => ⟨(hm x hx).1, (hm x hx).2.1⟩)
  have C := agg_fold (ksG p1 ++ ksG p2) [] [] (fun g hg => ⟨(hm g hg).1, (hm g hg).2.2⟩) Agg.nil
  rw [List.nil_append] at C
  have D : Agg (normG (p1 ++ p2)) ((ksG p1 ++ ksG p2).foldl insM []) := ⟨C.asc, C.pos, fun k => by
    rw [C.eqv k, normG_app]
    have h1 := B1.eqv k
    have h2 := B2.eqv k
    unfold sumK at h1 h2 ⊢
    rw [sumF_ap2, sumF_ap2, h1, h2], by
    rw [C.sum, normG_app, sumF_ap2, sumF_ap2, B1.sum, B2.sum]⟩
  unfold colG
  have e1 : sortI (sortI s1 ++ sortI s2) = sortI S := sortI_eqp (((sortI_perm s1).append (sortI_perm s2)).trans hS)
  have e2 : ksG (ksG p1 ++ ksG p2) = ksG (p1 ++ p2) := by
    show (normG (ksG p1 ++ ksG p2)).foldl insM [] = _
    rw [eN]; exact D.uniq A
  rw [e1, e2]
/-! ### The results -/
open Classical in
noncomputable def resStep (d : Division) (c : Colony) : Colony := if (stpC d c).Ok d.objects then stpC d c else ⟨[], []⟩
open Classical in
noncomputable def cdStep (d : Division) (c : Colony) : Int := if (stpC d c).Ok d.objects then 0 else 3
theorem rs_t {d : Division} {c : Colony} (h : (stpC d c).Ok d.objects) : resStep d c = stpC d c ∧ cdStep d c = 0 := ⟨if_pos h, if_pos h⟩
theorem rs_f {d : Division} {c : Colony} (h : ¬ (stpC d c).Ok d.objects) : resStep d c = ⟨[], []⟩ ∧ cdStep d c = 3 := ⟨if_neg h, if_neg h⟩
theorem stA_rng {d : Division} {c : Colony} (hc : c.Ok d.objects) : ObjsIn d.objects (stA d c c.groups.length).1 := fun y hy => hc.1.rng y ((stA_sub (d := d) hc.nn _ (Nat.le_refl _)).subset hy)
theorem skC_rng {d : Division} {c : Colony} (hv : d.Valid) (hc : c.Ok d.objects) : ObjsIn d.objects (skC d c) := objs_app (grown_rng hv (stA_rng hc)) (outA_rng hv (usC_ok hv hc))
theorem stp_long {d : Division} {c : Colony} (h : 300 < (skC d c).length) : ¬ (stpC d c).Ok d.objects := fun q => by
  have h1 : ((sortI (skC d c)).length : Int) ≤ 300 := q.1.2
  rw [(sortI_perm _).length_eq] at h1; omega
theorem stpX {d : Division} {c : Colony} (hv : d.Valid) (hc : c.Ok d.objects) {sk : List Int} (tr : TrP (outA d (usC d c)) sk) (hr : ∀ y ∈ sk, 0 ≤ y ∧ y ≤ d.objects - 1) :
    (⟨srtL d.objects (d.grown 2 0 (stA d c c.groups.length).1 ++ sk), addM d.objects [] (cellsA d (usC d c))⟩ : Colony) = stpC d c ∨
    (¬ (⟨srtL d.objects (d.grown 2 0 (stA d c c.groups.length).1 ++ sk), addM d.objects [] (cellsA d (usC d c))⟩ : Colony).Ok d.objects ∧ ¬ (stpC d c).Ok d.objects) := by
  have gr := grown_rng hv (kind := 2) (charge := 0) (stA_rng hc)
  have ho := hv.1.1
  rw [srt_sort ho (objs_app gr hr)]
  rcases tr with rfl | ⟨h1, h2⟩
  · left
    have ck := cellsA_ok hv (usC_ok hv hc)
    rw [addM_eq ho _ _ (fun g hg => ⟨(ck g hg).1.2.2, (ck g hg).2.1⟩)]
    rfl
  · right
    refine ⟨fun q => ?_, stp_long ?_⟩
    · have h3 : ((sortI (d.grown 2 0 (stA d c c.groups.length).1 ++ sk)).length : Int) ≤ 300 := q.1.2
      rw [(sortI_perm _).length_eq, List.length_append] at h3; omega
    · unfold skC; rw [List.length_append]; omega

/-! ### How many cells there are -/
theorem usK_sum {d : Division} {g : Group} {l : List Int} (h0 : 0 ≤ g.count) : ∀ k, k ≤ d.rules.length → sumF Use.many (usK d g l k) = g.count - (stK d g l k).2
  | 0, _ => by simp [usK, stK, sumF]
  | k + 1, hk => by
    have hk' : k < d.rules.length := by omega
    have ih := usK_sum (d := d) (l := l) h0 k (by omega)
    have hb := stK_bnd (d := d) (l := l) (k := k) h0
    have mb := many_bnd (g := g) (l := (stK d g l k).1) (r := d.rules[k]) hb.2.1
    have e2 : (stK d g l (k + 1)).2 = (stK d g l k).2 - manyOf g (stK d g l k).1 (stK d g l k).2 d.rules[k] := by rw [stK_succ hk']; rfl
    rw [e2]
    by_cases q : 0 < manyOf g (stK d g l k).1 (stK d g l k).2 d.rules[k]
    · rw [usK_yes hk' q, sumF_app, ih]; dsimp only; omega
    · rw [usK_no hk' q, ih]; omega
theorem usG_sum {d : Division} {g : Group} {l : List Int} (h0 : 0 ≤ g.count) : sumF Use.many (usG d l g) = g.count := by
  have h1 := usK_sum (d := d) (l := l) h0 d.rules.length (Nat.le_refl _)
  have hb := stK_bnd (d := d) (l := l) (k := d.rules.length) h0
  unfold usG
  by_cases q : 0 < (stK d g l d.rules.length).2
  · rw [if_pos q, sumF_app, h1]; dsimp only; omega
  · rw [if_neg q, List.append_nil, h1]; omega
theorem usA_sum {d : Division} {c : Colony} (hc : ∀ g ∈ c.groups, 0 ≤ g.count) : ∀ k, k ≤ c.groups.length → sumF Use.many (usA d c k) = sumF Group.count (c.groups.take k)
  | 0, _ => rfl
  | k + 1, hk => by
    have hk' : k < c.groups.length := by omega
    rw [usA_succ hk', sumF_ap2, usA_sum hc k (by omega), usG_sum (hc _ (List.getElem_mem hk')), sumF_succ Group.count hk']
theorem cellsU_sum {d : Division} {u : Use} (h0 : 0 ≤ u.many) : sumF Group.count (cellsU d u) ≤ 2 * u.many ∧ (u.r.kind ≠ 7 → u.many ≤ sumF Group.count (cellsU d u)) ∧ 0 ≤ sumF Group.count (cellsU d u) := by
  unfold cellsU
  split
  · simp only [sumF]; omega
  · split
    · simp only [sumF]; omega
    · split
      · simp only [sumF]; omega
      · split
        · simp only [sumF]; exact ⟨by omega, fun q => absurd (by assumption) q, by omega⟩
        · simp only [sumF]; omega
theorem cellsA_sum {d : Division} : ∀ {us : List Use}, (∀ u ∈ us, 0 ≤ u.many) → sumF Group.count (cellsA d us) ≤ 2 * sumF Use.many us ∧ ((∀ u ∈ us, u.r.kind ≠ 7) → sumF Use.many us ≤ sumF Group.count (cellsA d us))
  | [], _ => by simp [cellsA, sumF]
  | u :: us, h => by
    have h1 := cellsA_sum (d := d) (us := us) (fun x hx => h x (List.mem_cons_of_mem _ hx))
    have h2 := cellsU_sum (d := d) (h u List.mem_cons_self)
    have e : cellsA d (u :: us) = cellsU d u ++ cellsA d us := by rw [← List.singleton_append, cellsA_app, cellsA_one]
    rw [e, sumF_ap2]
    simp only [sumF]
    refine ⟨by omega, fun q => ?_⟩
    have := h1.2 (fun x hx => q x (List.mem_cons_of_mem _ hx))
    have := h2.2.1 (q u List.mem_cons_self)
    omega
theorem stp_cells {d : Division} {c : Colony} (hv : d.Valid) (hc : c.Ok d.objects) : sumF Group.count (stpC d c).groups ≤ 2 * sumF Group.count c.groups ∧ ((∀ r ∈ d.rules, r.kind ≠ 7) → sumF Group.count c.groups ≤ sumF Group.count (stpC d c).groups) := by
  have uo := usC_ok hv hc
  have ck := cellsA_ok hv uo
  have A := (ksG_agg (fun g hg => (ck g hg).1)).sum
  rw [normG_sum (fun g hg => (ck g hg).2.1)] at A
  have e : sumF Group.count (stpC d c).groups = sumF Group.count (cellsA d (usC d c)) := A
  have S := usA_sum (d := d) hc.nn _ (Nat.le_refl c.groups.length)
  rw [List.take_length] at S
  have h := cellsA_sum (d := d) (us := usC d c) (fun u hu => by have := (uo u hu).2.2.1; omega)
  have S2 : sumF Use.many (usC d c) = sumF Group.count c.groups := S
  rw [e]
  rw [S2] at h
  refine ⟨h.1, fun q => h.2 fun u hu => ?_⟩
  rcases (uo u hu).2.2.2 with e | ⟨e, _⟩
  · rw [e]; show (0 : Int) ≠ 7; decide
  · exact q _ e

/-! ### Cells act apart where no rule takes objects in -/
def NoIn (d : Division) : Prop := ∀ r ∈ d.rules, r.kind ≠ 5
theorem many_ni {g : Group} {l l' : List Int} {c : Int} {r : DivRule} (h : r.kind ≠ 5) : manyOf g l c r = manyOf g l' c r := by
  unfold manyOf; rw [if_neg h, if_neg h]
theorem stK_ni {d : Division} (hd : NoIn d) {g : Group} {l : List Int} : ∀ k, k ≤ d.rules.length → stK d g l k = (l, (stK d g [] k).2)
  | 0, _ => by unfold stK; simp
  | k + 1, hk => by
    have hk' : k < d.rules.length := by omega
    have hr := hd _ (List.getElem_mem hk')
    have ih := stK_ni hd (g := g) (l := l) k (by omega)
    rw [stK_succ hk', stK_succ hk', ih]
    unfold stR
    rw [if_neg hr, if_neg hr]
    dsimp only
    rw [many_ni (l' := (stK d g [] k).1) hr]
theorem usK_ni {d : Division} (hd : NoIn d) {g : Group} {l : List Int} : ∀ k, k ≤ d.rules.length → usK d g l k = usK d g [] k
  | 0, _ => rfl
  | k + 1, hk => by
    have hk' : k < d.rules.length := by omega
    have hr := hd _ (List.getElem_mem hk')
    have ih := usK_ni hd (g := g) (l := l) k (by omega)
    have e1 := stK_ni hd (g := g) (l := l) k (by omega)
    unfold usK
    rw [getD_get hk', ih, e1]
    dsimp only
    rw [many_ni (l' := (stK d g [] k).1) hr]
theorem usG_ni {d : Division} (hd : NoIn d) {g : Group} {l : List Int} : usG d l g = usG d [] g := by
  unfold usG
  rw [usK_ni hd _ (Nat.le_refl _), stK_ni hd (l := l) _ (Nat.le_refl _)]
theorem stA_ni {d : Division} (hd : NoIn d) {c : Colony} : ∀ k, k ≤ c.groups.length → (stA d c k).1 = c.skin
  | 0, _ => rfl
  | k + 1, hk => by
    rw [stA_succ (by omega)]
    show stG d (stA d c k).1 c.groups[k] = c.skin
    unfold stG
    rw [stK_ni hd _ (Nat.le_refl _)]
    exact stA_ni hd k (by omega)
theorem usA_ni {d : Division} (hd : NoIn d) {c : Colony} : ∀ k, k ≤ c.groups.length → usA d c k = (c.groups.take k).flatMap (usG d [])
  | 0, _ => rfl
  | k + 1, hk => by
    have hk' : k < c.groups.length := by omega
    rw [usA_succ hk', usA_ni hd k (by omega), usG_ni hd, List.take_succ_eq_append_getElem hk', List.flatMap_append]
    simp
theorem usC_ni {d : Division} (hd : NoIn d) (c : Colony) : usC d c = c.groups.flatMap (usG d []) := by
  unfold usC; rw [usA_ni hd _ (Nat.le_refl _), List.take_length]
def colA (c : Colony) (k : Nat) : Colony := ⟨c.skin, c.groups.take k⟩
def colB (c : Colony) (k : Nat) : Colony := ⟨[], c.groups.drop k⟩
theorem idx_take {α : Type} {P : α → Prop} {R : α → α → Prop} {l : List α} (h : ∀ i (hi : i < l.length), P l[i] ∧ (0 < i → R (l[i-1]'(by omega)) l[i])) (k : Nat) : ∀ i (hi : i < (l.take k).length), P (l.take k)[i] ∧ (0 < i → R ((l.take k)[i-1]'(by omega)) (l.take k)[i]) := by
  intro i hi
  have hi2 := hi
  rw [List.length_take] at hi2
  have := h i (by omega)
  simp only [List.getElem_take]
  exact this
theorem idx_drop {α : Type} {P : α → Prop} {R : α → α → Prop} {l : List α} (h : ∀ i (hi : i < l.length), P l[i] ∧ (0 < i → R (l[i-1]'(by omega)) l[i])) (k : Nat) : ∀ i (hi : i < (l.drop k).length), P (l.drop k)[i] ∧ (0 < i → R ((l.drop k)[i-1]'(by omega)) (l.drop k)[i]) := by
  intro i hi
  have hi2 := hi
  rw [List.length_drop] at hi2
  have h1 := h (k + i) (by omega)
  simp only [List.getElem_drop]
  refine ⟨h1.1, fun h0 => ?_⟩
  have h2 := h1.2 (by omega)
  simp only [show k + i - 1 = k + (i - 1) by omega] at h2
  exact h2
theorem colA_ok {o : Int} {c : Colony} (h : c.Ok o) (k : Nat) : (colA c k).Ok o := by
  refine ⟨h.1, ?_, idx_take (P := fun g : Group => (-1 ≤ g.charge ∧ g.charge ≤ 1) ∧ HeapOf o g.contents 60 ∧ 1 ≤ g.count) (R := Before) h.2.2.1 k, (h.cnt k).2⟩
  show (c.groups.take k).length ≤ 200
  have := h.2.1; rw [List.length_take]; omega
theorem colB_ok {o : Int} {c : Colony} (h : c.Ok o) (k : Nat) : (colB c k).Ok o := by
  refine ⟨HeapOf.nil (by decide), ?_, idx_drop (P := fun g : Group => (-1 ≤ g.charge ∧ g.charge ≤ 1) ∧ HeapOf o g.contents 60 ∧ 1 ≤ g.count) (R := Before) h.2.2.1 k, ?_⟩
  · show (c.groups.drop k).length ≤ 200
    have := h.2.1; rw [List.length_drop]; omega
  · show sumF Group.count (c.groups.drop k) ≤ 5000
    have h1 := sumF_split Group.count c.groups k
    have h2 := sumF_nn Group.count (c.groups.take k) (fun x hx => h.nn x (List.mem_of_mem_take hx))
    have h3 := h.2.2.2
    omega
theorem part_eq {d : Division} (hd : NoIn d) (c : Colony) (k : Nat) : usC d c = usC d (colA c k) ++ usC d (colB c k) ∧ skC d c = d.grown 2 0 c.skin ++ (outA d (usC d (colA c k)) ++ outA d (usC d (colB c k))) ∧ skC d (colA c k) = d.grown 2 0 c.skin ++ outA d (usC d (colA c k)) ∧ skC d (colB c k) = outA d (usC d (colB c k)) := by
  have e : usC d c = usC d (colA c k) ++ usC d (colB c k) := by
    rw [usC_ni hd, usC_ni hd, usC_ni hd, ← List.flatMap_append]
    show _ = (c.groups.take k ++ c.groups.drop k).flatMap _
    rw [List.take_append_drop]
  refine ⟨e, ?_, ?_, ?_⟩
  · unfold skC; rw [stA_ni hd _ (Nat.le_refl _), e, outA_app]
  · unfold skC; rw [stA_ni hd _ (Nat.le_refl _)]; rfl
  · unfold skC; rw [stA_ni hd _ (Nat.le_refl _)]; rfl
/-- The step of the whole is gathered from those of its parts. -/
theorem step_parts {d : Division} {c : Colony} (hv : d.Valid) (hc : c.Ok d.objects) (hd : NoIn d) (k : Nat) (h : (stpC d c).Ok d.objects) :
    (stpC d (colA c k)).Ok d.objects ∧ (stpC d (colB c k)).Ok d.objects ∧
    colG ((stpC d (colA c k)).skin ++ (stpC d (colB c k)).skin) ((stpC d (colA c k)).groups ++ (stpC d (colB c k)).groups) = stpC d c := by
  obtain ⟨e1, e2, e3, e4⟩ := part_eq hd c k
  have ck := cellsA_ok hv (usC_ok hv hc)
  have ha : ∀ g ∈ cellsA d (usC d c), GrpOk d.objects g := fun g hg => (ck g hg).1
  have ec : cellsA d (usC d c) = cellsA d (usC d (colA c k)) ++ cellsA d (usC d (colB c k)) := by rw [e1, cellsA_app]
  have hpos : ∀ (p : List Group), (∀ g ∈ p, g ∈ cellsA d (usC d c)) → 0 ≤ sumF Group.count (normG p) := fun p hp => by
    rw [normG_sum (fun g hg => (ck g (hp g hg)).2.1)]
    exact sumF_nn _ _ fun g hg => by have := (ck g (hp g hg)).2.1; omega
  have hA : ∀ g ∈ cellsA d (usC d (colA c k)), g ∈ cellsA d (usC d c) := fun g hg => by rw [ec]; exact List.mem_append_left _ hg
  have hB : ∀ g ∈ cellsA d (usC d (colB c k)), g ∈ cellsA d (usC d c) := fun g hg => by rw [ec]; exact List.mem_append_right _ hg
  have hs : sumF Group.count (normG (cellsA d (usC d c))) = sumF Group.count (normG (cellsA d (usC d (colA c k)))) + sumF Group.count (normG (cellsA d (usC d (colB c k)))) := by rw [ec, normG_app, sumF_ap2]
  have pA := hpos _ hA
  have pB := hpos _ hB
  have lenA : (skC d (colA c k)).length ≤ (skC d c).length := by rw [e2, e3]; simp only [List.length_append]; omega
  have lenB : (skC d (colB c k)).length ≤ (skC d c).length := by rw [e2, e4]; simp only [List.length_append]; omega
  refine ⟨colG_sub h lenA (skC_rng hv (colA_ok hc k)) ha hA (by omega), colG_sub h lenB (skC_rng hv (colB_ok hc k)) ha hB (by omega), ?_⟩
  have := colG_join (o := d.objects) (S := skC d c) (s1 := skC d (colA c k)) (s2 := skC d (colB c k)) (p1 := cellsA d (usC d (colA c k))) (p2 := cellsA d (usC d (colB c k))) (by rw [e2, e3, e4, List.append_assoc]) (fun g hg => ha g (by rw [ec]; exact hg))
  rw [← ec] at this
  exact this
/-- A group that is put in among groups in order. -/
def DrwG (o : Int) (g : Group) : Prop := (-1 ≤ g.charge ∧ g.charge ≤ 1) ∧ HeapOf o g.contents 4 ∧ 0 < g.count
theorem ins_drw {o : Int} {gs : List Group} {g : Group} (ha : gs.Pairwise Before ∧ ∀ y ∈ gs, DrwG o y) (hg : DrwG o g) : (insM gs g).Pairwise Before ∧ ∀ y ∈ insM gs g, DrwG o y := by
  have A : Agg gs gs := ⟨ha.1, fun y hy => (ha.2 y hy).2.2, fun _ => rfl, rfl⟩
  have B := A.ins hg.2.2 hg.1.2
  refine ⟨B.asc, fun y hy => ?_⟩
  obtain ⟨z, hz, q⟩ := B.src hy
  have hz2 : DrwG o z := by
    rcases List.mem_append.1 hz with r | r
    · exact ha.2 z r
    · rw [List.mem_singleton] at r; subst r; exact hg
  exact ⟨by rw [q.1]; exact hz2.1, by rw [q.2]; exact hz2.2.1, B.pos y hy⟩
theorem drw_ok {o : Int} {l : List Int} {gs : List Group} (hl : HeapOf o l 4) (ha : gs.Pairwise Before ∧ ∀ y ∈ gs, DrwG o y) (h3 : gs.length ≤ 3) (h9 : ∀ y ∈ gs, 0 ≤ y.count ∧ y.count ≤ 9) : Colony.Ok o ⟨l, gs⟩ := by
  refine ⟨hl.mono (by decide), show gs.length ≤ 200 by omega, fun i hi => ⟨?_, fun h0 => List.pairwise_iff_getElem.1 ha.1 (i - 1) i (by have : i < gs.length := hi; omega) hi (by omega)⟩, ?_⟩
  · have hy := ha.2 _ (List.getElem_mem hi)
    exact ⟨hy.1, hy.2.1.mono (by decide), by have := hy.2.2; omega⟩
  · have := sumF_take Group.count gs h9 gs.length (Nat.le_refl _)
    rw [List.take_length] at this
    show sumF Group.count gs ≤ 5000
    omega
end Go.Proofs.YtbhiaccbpbnbmaaGreat
