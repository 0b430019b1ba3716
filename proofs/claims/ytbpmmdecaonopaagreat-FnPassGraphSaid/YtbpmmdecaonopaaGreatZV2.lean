/-
  The graph of stocks to which runs of a passing system lead: plain. No condition.
-/
import Derived.Test.YtbpmmdecaonopaaGreatZQ2
import Derived.Test.YtbpmmdecaonopaaGreatZG6
import Derived.Test.YtbpmmdecaonopaaGreatZP
import Derived.Test.YtbpmmdecaonopaaGreatZJN
namespace Go.Proofs.YtbpmmdecaonopaaGreat
open Go.AI
set_option maxRecDepth 8000
set_option maxHeartbeats 1600000

/-! ### Rising numbers, each once -/
def Asc (l : List Int) : Prop := l.Pairwise (· < ·)
theorem asc_ext : ∀ {a b : List Int}, Asc a → Asc b → (∀ x, x ∈ a ↔ x ∈ b) → a = b
  | [], [], _, _, _ => rfl
  | [], y :: b, _, _, h => absurd ((h y).2 List.mem_cons_self) List.not_mem_nil
  | x :: a, [], _, _, h => absurd ((h x).1 List.mem_cons_self) List.not_mem_nil
  | x :: a, y :: b, ha, hb, h => by
    have ha' := List.pairwise_cons.1 ha
    have hb' := List.pairwise_cons.1 hb
    have e : x = y := by
      have h1 := (h x).1 List.mem_cons_self
      have h2 := (h y).2 List.mem_cons_self
      rcases List.mem_cons.1 h1 with q | q
      · exact q
      · rcases List.mem_cons.1 h2 with r | r
        · exact r.symm
        · have := hb'.1 x q
          have := ha'.1 y r
          omega
    subst e
    rw [asc_ext ha'.2 hb'.2 fun z => ?_]
    constructor
    · intro q
      rcases List.mem_cons.1 ((h z).1 (List.mem_cons_of_mem _ q)) with r | r
      · subst r; have := ha'.1 z q; omega
      · exact r
    · intro q
      rcases List.mem_cons.1 ((h z).2 (List.mem_cons_of_mem _ q)) with r | r
      · subst r; have := hb'.1 z q; omega
      · exact r
def putK (l : List Int) (n : Int) : List Int := l.filter (fun x => decide (x < n)) ++ n :: l.filter (fun x => decide (n < x))
theorem putK_mem (l : List Int) (n x : Int) : x ∈ putK l n ↔ x ∈ l ∨ x = n := by
  unfold putK
  simp only [List.mem_append, List.mem_cons, List.mem_filter, decide_eq_true_eq]
  constructor
  · rintro (⟨h, _⟩ | rfl | ⟨h, _⟩)
    · exact .inl h
    · exact .inr rfl
    · exact .inl h
  · rintro (h | rfl)
    · by_cases q : x < n
      · exact .inl ⟨h, q⟩
      · by_cases r : x = n
        · exact .inr (.inl r)
        · exact .inr (.inr ⟨h, by omega⟩)
    · exact .inr (.inl rfl)
theorem putK_asc {l : List Int} (h : Asc l) (n : Int) : Asc (putK l n) := by
  unfold putK Asc
  rw [List.pairwise_append]
  refine ⟨h.filter _, List.pairwise_cons.2 ⟨fun x hx => ?_, h.filter _⟩, fun x hx y hy => ?_⟩
  · simpa using (List.mem_filter.1 hx).2
  · have h1 : x < n := by simpa using (List.mem_filter.1 hx).2
    rcases List.mem_cons.1 hy with rfl | hy
    · exact h1
    · have : n < y := by simpa using (List.mem_filter.1 hy).2
      omega
theorem putK_len (l : List Int) (n : Int) : (putK l n).length ≤ l.length + 1 := by
  unfold putK
  rw [List.length_append, List.length_cons]
  have : ∀ l : List Int, (l.filter fun x => decide (x < n)).length + (l.filter fun x => decide (n < x)).length ≤ l.length := by
    intro l
    induction l with
    | nil => simp
    | cons y l ih =>
      simp only [List.filter_cons]
      by_cases h1 : y < n
      · rw [if_pos (decide_eq_true h1), if_neg (by simp; omega)]
        simp only [List.length_cons]; omega
      · rw [if_neg (by simpa using h1)]
        split <;> simp only [List.length_cons] <;> omega
  have := this l
  omega
/-- Numbers put in their places, one after the other. -/
def putsK (l own : List Int) : List Int := own.foldl putK l
theorem putsK_asc : ∀ {l : List Int} (own : List Int), Asc l → Asc (putsK l own)
  | _, [], h => h
  | _, n :: own, h => putsK_asc own (putK_asc h n)
theorem putsK_mem : ∀ (own l : List Int) (x : Int), x ∈ putsK l own ↔ x ∈ l ∨ x ∈ own
  | [], l, x => by simp [putsK]
  | n :: own, l, x => by
    show x ∈ putsK (putK l n) own ↔ _
    rw [putsK_mem own, putK_mem, List.mem_cons, or_assoc]
def normR (own : List Int) : List Int := putsK [] own
theorem normR_asc (own : List Int) : Asc (normR own) := putsK_asc own List.Pairwise.nil
theorem normR_mem (own : List Int) (x : Int) : x ∈ normR own ↔ x ∈ own := by
  unfold normR; rw [putsK_mem]; simp
theorem normR_eq {own l : List Int} (h : Asc l) (hm : ∀ x, x ∈ l ↔ x ∈ own) : l = normR own := asc_ext h (normR_asc own) fun x => by rw [hm, normR_mem]
/-! ### The graph -/
/-- The choices of a stock. -/
noncomputable def Passing.chS (p : Passing) (m : Int) (s : Stock) : List (List Int) := p.pickC s m (p.allC s)
theorem chS_ok {p : Passing} (hv : p.Ok) {s : Stock} (hs : p.StockOk s) {m : Int} {c : List Int} (hc : c ∈ p.chS m s) : p.Cnts c ∧ Nn (p.left s c) := by
  have h := (List.mem_filter.1 (show c ∈ (p.allC s).filter _ from hc)).1
  have := enumC_ok hv hs p.rules.length [] (Passing.Pfx.nil p) (fun _ q => absurd q List.not_mem_nil) (fit_nil hs) (by simp) c h
  exact ⟨this.1, (fit_left (by have := this.1.2; omega)).1 this.2⟩
theorem gv_zero {p : Passing} {r : PassRule} (R : RuF p r) {L : List (List Int)} {B : Int} (h : Sh (p.parents.length + 1) p.kinds.toNat L B) : p.gv r 0 L = L := by
  refine Sh.ext (h.gv R (t := 0) (by omega)) h fun i k hi hk => ?_
  unfold Passing.gv
  rw [mixR_val h (by have := R.c; omega) R.u R.i R.o (by omega) hi hk, Int.mul_zero, Int.mul_zero]
  split <;> split <;> omega
theorem chs_zero {p : Passing} (hv : p.Ok) {s : Stock} (hs : p.StockOk s) (n : Nat) : ∀ k, k ≤ p.rules.length → p.chs (List.replicate n 0) (plc s) k = plc s
  | 0, _ => rfl
  | k + 1, hk => by
    have e : (List.replicate n (0 : Int)).getD k 0 = 0 := by
      unfold List.getD
      rw [List.getElem?_replicate]
      split <;> rfl
    have R := ruF hv (List.getElem_mem (n := k) (by omega))
    have er : p.rules.getD k default = p.rules[k] := getD_get (by omega)
    rw [Passing.chs, chs_zero hv hs n k (by omega), e, er, tk_zero R (plc_sh hs), gv_zero R (plc_sh hs)]
theorem after_zero {p : Passing} (hv : p.Ok) {s : Stock} (hs : p.StockOk s) (n : Nat) : p.after s (List.replicate n 0) = s := by
  unfold Passing.after
  have hl : (plc s).length = p.parents.length + 1 := (plc_sh hs).n
  have h1 := hs.1
  rw [chs_zero hv hs n _ (Nat.le_refl _), stockOf_eq (by omega)]
  unfold plc
  rw [List.take_append_of_le_length (by omega), List.take_of_length_le (by omega)]
  simp only [← h1, List.getElem_append_right (Nat.le_refl _), Nat.sub_self, List.getElem_cons_zero]
theorem zero_cnts (p : Passing) : p.Cnts (List.replicate p.rules.length 0) := ⟨fun x hx => by rw [List.mem_replicate] at hx; omega, by rw [List.length_replicate]⟩
/-- Where a stock stands in a list, or would stand at its end. -/
noncomputable def atS (L : List Stock) (t : Stock) : Int := if fIdx (fun u => u = t) L < 0 then (L.length : Int) else fIdx (fun u => u = t) L
theorem nodup_inj {L : List Stock} (h : L.Nodup) {i j : Nat} (hi : i < L.length) (hj : j < L.length) (e : L[i] = L[j]) : i = j := by
  have := List.pairwise_iff_getElem.1 h
  by_cases q : i < j
  · exact absurd e (this i j hi hj q)
  · by_cases r : j < i
    · exact absurd e.symm (this j i hj hi r)
    · omega
theorem fIdx_nodup {L : List Stock} (h : L.Nodup) {i : Nat} (hi : i < L.length) : fIdx (fun u => u = L[i]) L = i := fIdx_at hi rfl (fun j hj hlt q => by
  have := nodup_inj h hj hi q; omega)
theorem atS_mem {L : List Stock} (h : L.Nodup) {i : Nat} (hi : i < L.length) : atS L L[i] = i := by
  unfold atS; rw [fIdx_nodup h hi, if_neg (by omega)]
theorem fIdx_new {L : List Stock} {t : Stock} (h : t ∉ L) : fIdx (fun u => u = t) L = -1 := fIdx_none fun i hi q => h (q ▸ List.getElem_mem hi)
theorem atS_new {L : List Stock} {t : Stock} (h : t ∉ L) : atS L t = L.length := by
  unfold atS; rw [fIdx_new h, if_pos (by decide)]
theorem atS_pre {L L' : List Stock} (hp : L <+: L') (h : L'.Nodup) {t : Stock} (ht : t ∈ L) : atS L' t = atS L t := by
  obtain ⟨i, hi, rfl⟩ := List.getElem_of_mem ht
  obtain ⟨r, rfl⟩ := hp
  have hn : L.Nodup := (List.nodup_append.1 h).1
  rw [atS_mem hn hi]
  have := atS_mem h (i := i) (by rw [List.length_append]; omega)
  rw [List.getElem_append_left hi] at this
  exact this
open Classical in
/-- The stocks that choices lead to, and where they stand. -/
noncomputable def rowG (p : Passing) (s : Stock) : List (List Int) → List Stock → List Int → Option (List Stock × List Int)
  | [], L, own => some (L, own)
  | c :: cs, L, own =>
    if p.StockOk (p.after s c) then
      if p.after s c ∈ L then rowG p s cs L (own ++ [atS L (p.after s c)])
      else if L.length < 200 then rowG p s cs (L ++ [p.after s c]) (own ++ [atS L (p.after s c)]) else none
    else none
theorem rowG_ok {p : Passing} {s : Stock} : ∀ (cs : List (List Int)) (L : List Stock) (own : List Int) (L' : List Stock) (own' : List Int), L.Nodup → L.length ≤ 200 → rowG p s cs L own = some (L', own') →
    L'.Nodup ∧ L'.length ≤ 200 ∧ L <+: L' ∧ (∀ c ∈ cs, p.StockOk (p.after s c) ∧ p.after s c ∈ L') ∧ (∀ t ∈ L', t ∈ L ∨ p.StockOk t) ∧ own' = own ++ cs.map fun c => atS L' (p.after s c)
  | [], L, own, L', own', hn, hl, h => by
    simp only [rowG, Option.some.injEq, Prod.mk.injEq] at h
    obtain ⟨rfl, rfl⟩ := h
    exact ⟨hn, hl, List.prefix_refl _, fun _ q => absurd q List.not_mem_nil, fun _ q => .inl q, by simp⟩
  | c :: cs, L, own, L', own', hn, hl, h => by
    unfold rowG at h
    split at h
    case isFalse => cases h
    rename_i hs
    split at h
    · rename_i hm
      obtain ⟨a1, a2, a3, a4, a5, a6⟩ := rowG_ok cs L _ L' own' hn hl h
      refine ⟨a1, a2, a3, fun x hx => ?_, a5, ?_⟩
      · rcases List.mem_cons.1 hx with rfl | hx
        · exact ⟨hs, a3.subset hm⟩
        · exact a4 x hx
      · rw [a6, List.map_cons, atS_pre a3 a1 hm, List.append_assoc]; rfl
    · rename_i hm
      split at h
      case isFalse => cases h
      rename_i hlt
      have hn2 : (L ++ [p.after s c]).Nodup := by
        rw [List.nodup_append]
        refine ⟨hn, by simp, fun a ha b hb e => ?_⟩
        rw [List.mem_singleton] at hb
        subst hb; subst e
        exact hm ha
      obtain ⟨a1, a2, a3, a4, a5, a6⟩ := rowG_ok cs _ _ L' own' hn2 (by rw [List.length_append, List.length_singleton]; omega) h
      have hm2 : p.after s c ∈ L ++ [p.after s c] := by simp
      refine ⟨a1, a2, (List.prefix_append _ _).trans a3, fun x hx => ?_, fun t ht => ?_, ?_⟩
      · rcases List.mem_cons.1 hx with rfl | hx
        · exact ⟨hs, a3.subset hm2⟩
        · exact a4 x hx
      · rcases a5 t ht with q | q
        · rcases List.mem_append.1 q with q | q
          · exact .inl q
          · rw [List.mem_singleton] at q; subst q; exact .inr hs
        · exact .inr q
      · have e1 : atS (L ++ [p.after s c]) (p.after s c) = L.length := by
          have := atS_mem hn2 (i := L.length) (by rw [List.length_append, List.length_singleton]; omega)
          rw [List.getElem_append_right (Nat.le_refl _)] at this
          simpa using this
        rw [a6, List.map_cons, atS_pre a3 a1 hm2, e1, atS_new hm, List.append_assoc]; rfl
/-- One more stock is looked at. -/
noncomputable def stepG (p : Passing) (m : Int) : List Stock × List (List Int) → Option (List Stock × List (List Int)) := fun (L, nx) =>
  if h : nx.length < L.length then
    if (p.allC L[nx.length]).length ≤ 1500 then (rowG p L[nx.length] (p.chS m L[nx.length]) L []).map fun (L', own) => (L', nx ++ [normR own]) else none
  else some (L, nx)
noncomputable def grI (p : Passing) (m : Int) (s : Stock) : Nat → Option (List Stock × List (List Int))
  | 0 => some ([s], [])
  | i + 1 => (grI p m s i).bind (stepG p m)
structure GrOk (p : Passing) (m : Int) (s : Stock) (L : List Stock) (nx : List (List Int)) : Prop where
  nd : L.Nodup
  le : L.length ≤ 200
  hd : L[0]? = some s
  ok : ∀ t ∈ L, p.StockOk t
  nl : nx.length ≤ L.length
  row : ∀ k (h : k < nx.length) (hL : k < L.length), (p.allC L[k]).length ≤ 1500 ∧ (∀ c ∈ p.chS m L[k], p.StockOk (p.after L[k] c) ∧ p.after L[k] c ∈ L) ∧ nx[k] = normR ((p.chS m L[k]).map fun c => atS L (p.after L[k] c))
theorem GrOk.start {p : Passing} {m : Int} {s : Stock} (hs : p.StockOk s) : GrOk p m s [s] [] := ⟨by simp, by simp, rfl, fun t h => by rw [List.mem_singleton] at h; subst h; exact hs, by simp, fun k h => absurd h (Nat.not_lt_zero _)⟩
theorem pre_get {L L' : List Stock} (hp : L <+: L') {k : Nat} (h : k < L.length) (h' : k < L'.length) : L'[k] = L[k] := by
  obtain ⟨r, rfl⟩ := hp
  exact List.getElem_append_left h
theorem GrOk.next {p : Passing} {m : Int} {s : Stock} {L : List Stock} {nx : List (List Int)} (G : GrOk p m s L nx) (h : nx.length < L.length) (h15 : (p.allC L[nx.length]).length ≤ 1500) {L' : List Stock} {own : List Int}
    (hr : rowG p L[nx.length] (p.chS m L[nx.length]) L [] = some (L', own)) : GrOk p m s L' (nx ++ [normR own]) := by
  obtain ⟨a1, a2, a3, a4, a5, a6⟩ := rowG_ok _ _ _ _ _ G.nd G.le hr
  have ll := a3.length_le
  refine ⟨a1, a2, ?_, fun t ht => (a5 t ht).elim (G.ok t) id, by rw [List.length_append, List.length_singleton]; omega, fun k hk hL => ?_⟩
  · obtain ⟨r, rfl⟩ := a3
    have := G.hd
    rw [List.getElem?_append_left (by omega)]
    exact this
  · by_cases q : k < nx.length
    · have hkL : k < L.length := by omega
      obtain ⟨b1, b2, b3⟩ := G.row k q hkL
      rw [pre_get a3 hkL hL]
      refine ⟨b1, fun c hc => ⟨(b2 c hc).1, a3.subset (b2 c hc).2⟩, ?_⟩
      rw [List.getElem_append_left q, b3]
      congr 1
      exact List.map_congr_left fun c hc => (atS_pre a3 a1 (b2 c hc).2).symm
    · have e : k = nx.length := by rw [List.length_append, List.length_singleton] at hk; omega
      subst e
      rw [pre_get a3 h hL]
      refine ⟨h15, a4, ?_⟩
      rw [List.getElem_append_right (Nat.le_refl _)]
      simp [a6]
theorem grI_ok {p : Passing} {m : Int} {s : Stock} (hs : p.StockOk s) : ∀ (i : Nat) {L : List Stock} {nx : List (List Int)}, grI p m s i = some (L, nx) → GrOk p m s L nx ∧ (nx.length = i ∨ nx.length = L.length)
  | 0, L, nx, h => by
    simp only [grI, Option.some.injEq, Prod.mk.injEq] at h
    obtain ⟨rfl, rfl⟩ := h
    exact ⟨GrOk.start hs, .inl rfl⟩
  | i + 1, L, nx, h => by
    unfold grI at h
    rw [Option.bind_eq_some_iff] at h
    obtain ⟨⟨L0, n0⟩, h1, h2⟩ := h
    obtain ⟨G, hl⟩ := grI_ok hs i h1
    unfold stepG at h2
    dsimp only at h2
    split at h2
    · rename_i hlt
      split at h2
      · rename_i h15
        rw [Option.map_eq_some_iff] at h2
        obtain ⟨⟨L', own⟩, hr, e⟩ := h2
        simp only [Prod.mk.injEq] at e
        obtain ⟨rfl, rfl⟩ := e
        refine ⟨G.next hlt h15 hr, .inl ?_⟩
        rw [List.length_append, List.length_singleton]; omega
      · cases h2
    · rename_i hlt
      simp only [Option.some.injEq, Prod.mk.injEq] at h2
      obtain ⟨rfl, rfl⟩ := h2
      exact ⟨G, .inr (by have := G.nl; omega)⟩
theorem grI_none {p : Passing} {m : Int} {s : Stock} {i : Nat} (h : grI p m s i = none) : ∀ j, grI p m s (i + j) = none
  | 0 => h
  | j + 1 => by rw [← Nat.add_assoc, grI, grI_none h j]; rfl
theorem grI_done {p : Passing} {m : Int} {s : Stock} {i : Nat} {L : List Stock} {nx : List (List Int)} (h : grI p m s i = some (L, nx)) (hl : nx.length = L.length) : ∀ j, grI p m s (i + j) = some (L, nx)
  | 0 => h
  | j + 1 => by
    rw [← Nat.add_assoc, grI, grI_done h hl j]
    show stepG p m (L, nx) = _
    unfold stepG
    dsimp only
    rw [dif_neg (by omega)]
/-- The whole graph, if no limit is met. -/
noncomputable def grF (p : Passing) (m : Int) (s : Stock) : Option (List Stock × List (List Int)) := grI p m s 200
theorem grF_none {p : Passing} {m : Int} {s : Stock} {i : Nat} (hi : i ≤ 200) (h : grI p m s i = none) : grF p m s = none := by
  have := grI_none h (200 - i)
  rwa [show i + (200 - i) = 200 by omega] at this
theorem grF_done {p : Passing} {m : Int} {s : Stock} {i : Nat} (hi : i ≤ 200) {L : List Stock} {nx : List (List Int)} (h : grI p m s i = some (L, nx)) (hl : nx.length = L.length) : grF p m s = some (L, nx) := by
  have := grI_done h hl (200 - i)
  rwa [show i + (200 - i) = 200 by omega] at this
theorem grF_ok {p : Passing} {m : Int} {s : Stock} (hs : p.StockOk s) {L : List Stock} {nx : List (List Int)} (h : grF p m s = some (L, nx)) : GrOk p m s L nx ∧ nx.length = L.length := by
  obtain ⟨G, q⟩ := grI_ok hs 200 h
  refine ⟨G, ?_⟩
  have := G.nl
  have := G.le
  omega
theorem grI_step {p : Passing} {m : Int} {s : Stock} {L : List Stock} {nx : List (List Int)} (h : grI p m s nx.length = some (L, nx)) (hl : nx.length < L.length) :
    grI p m s (nx.length + 1) = if (p.allC L[nx.length]).length ≤ 1500 then (rowG p L[nx.length] (p.chS m L[nx.length]) L []).map fun (L', own) => (L', nx ++ [normR own]) else none := by
  rw [grI, h]
  show stepG p m (L, nx) = _
  unfold stepG
  dsimp only
  rw [dif_pos hl]
noncomputable def resPassGraph (p : Passing) (m : Int) (s : Stock) : List Stock × List (List Int) := (grF p m s).getD ([], [])
noncomputable def codePassGraph (p : Passing) (m : Int) (s : Stock) : Int := if (grF p m s).isSome then 0 else 3
/-- How far a row has been read. -/
structure RowAt (p : Passing) (s : Stock) (cs : List (List Int)) (L : List Stock) (c : Nat) (L' : List Stock) (own : List Int) : Prop where
  cl : c ≤ cs.length
  e : rowG p s (cs.drop c) L' own = rowG p s cs L []
  pre : L <+: L'
  nd : L'.Nodup
  le : L'.length ≤ 200
  ok : ∀ t ∈ L', p.StockOk t
  ol : own.length = c
theorem RowAt.start {p : Passing} {s : Stock} {cs : List (List Int)} {L : List Stock} (nd : L.Nodup) (le : L.length ≤ 200) (ok : ∀ t ∈ L, p.StockOk t) : RowAt p s cs L 0 L [] := ⟨Nat.zero_le _, rfl, List.prefix_refl _, nd, le, ok, rfl⟩
theorem RowAt.bad {p : Passing} {s : Stock} {cs : List (List Int)} {L L' : List Stock} {c : Nat} {own : List Int} (R : RowAt p s cs L c L' own) (hc : c < cs.length) (h : ¬ p.StockOk (p.after s cs[c])) : rowG p s cs L [] = none := by
  rw [← R.e, List.drop_eq_getElem_cons hc, rowG, if_neg h]
theorem RowAt.full {p : Passing} {s : Stock} {cs : List (List Int)} {L L' : List Stock} {c : Nat} {own : List Int} (R : RowAt p s cs L c L' own) (hc : c < cs.length) (h : p.StockOk (p.after s cs[c])) (hm : p.after s cs[c] ∉ L') (hl : ¬ L'.length < 200) : rowG p s cs L [] = none := by
  rw [← R.e, List.drop_eq_getElem_cons hc, rowG, if_pos h, if_neg hm, if_neg hl]
theorem RowAt.hit {p : Passing} {s : Stock} {cs : List (List Int)} {L L' : List Stock} {c : Nat} {own : List Int} (R : RowAt p s cs L c L' own) (hc : c < cs.length) (h : p.StockOk (p.after s cs[c])) (hm : p.after s cs[c] ∈ L') : RowAt p s cs L (c + 1) L' (own ++ [atS L' (p.after s cs[c])]) :=
  ⟨hc, by rw [← R.e, List.drop_eq_getElem_cons hc, rowG, if_pos h, if_pos hm], R.pre, R.nd, R.le, R.ok, by rw [List.length_append, R.ol]; rfl⟩
theorem RowAt.new {p : Passing} {s : Stock} {cs : List (List Int)} {L L' : List Stock} {c : Nat} {own : List Int} (R : RowAt p s cs L c L' own) (hc : c < cs.length) (h : p.StockOk (p.after s cs[c])) (hm : p.after s cs[c] ∉ L') (hl : L'.length < 200) : RowAt p s cs L (c + 1) (L' ++ [p.after s cs[c]]) (own ++ [atS L' (p.after s cs[c])]) := by
  refine ⟨hc, by rw [← R.e, List.drop_eq_getElem_cons hc, rowG, if_pos h, if_neg hm, if_pos hl], R.pre.trans (List.prefix_append _ _), ?_, by rw [List.length_append, List.length_singleton]; omega, fun t ht => ?_, by rw [List.length_append, R.ol]; rfl⟩
  · rw [List.nodup_append]
    refine ⟨R.nd, by simp, fun a ha b hb e => ?_⟩
    rw [List.mem_singleton] at hb
    subst hb; subst e
    exact hm ha
  · rcases List.mem_append.1 ht with q | q
    · exact R.ok t q
    · rw [List.mem_singleton] at q; subst q; exact h
theorem RowAt.done {p : Passing} {s : Stock} {cs : List (List Int)} {L L' : List Stock} {c : Nat} {own : List Int} (R : RowAt p s cs L c L' own) (hc : c = cs.length) : rowG p s cs L [] = some (L', own) := by
  rw [← R.e, hc, List.drop_length, rowG]
theorem normR_snoc (own : List Int) (n : Int) : normR (own ++ [n]) = putK (normR own) n := by
  unfold normR putsK; rw [List.foldl_append]; rfl
theorem normR_len (own : List Int) : (normR own).length ≤ own.length := by
  have key : ∀ (own l : List Int), (putsK l own).length ≤ l.length + own.length := by
    intro own
    induction own with
    | nil => intro l; exact Nat.le_refl _
    | cons n own ih =>
      intro l
      have h1 := ih (putK l n)
      have h2 := putK_len l n
      rw [List.length_cons]
      show (putsK (putK l n) own).length ≤ _
      omega
  have := key own []
  rw [List.length_nil, Nat.zero_add] at this
  exact this
theorem atS_in {L : List Stock} {t : Stock} : 0 ≤ atS L t ∧ atS L t ≤ L.length := by
  unfold atS
  split
  · omega
  · have : fIdx (fun u => u = t) L < L.length ∨ fIdx (fun u => u = t) L = -1 := by
      unfold fIdx; split <;> omega
    omega
theorem mem_fIdx {L : List Stock} {t : Stock} : t ∈ L ↔ ¬ fIdx (fun u => u = t) L < 0 := by
  have := fIdx_ex (fun u => u = t) L
  constructor
  · intro h; have := this.2 ⟨t, h, rfl⟩; omega
  · intro h
    obtain ⟨u, hu, rfl⟩ := this.1 (by omega)
    exact hu
theorem putK_lt {a : List Int} {n : Int} (h : ∀ x ∈ a, x < n) : putK a n = a ++ [n] := by
  unfold putK
  rw [List.filter_eq_self.2 (fun x hx => decide_eq_true (h x hx)), List.filter_eq_nil_iff.2 (fun x hx q => by have := h x hx; have := of_decide_eq_true q; omega)]
theorem putK_app {a : List Int} {n x : Int} (hx : n < x) : putK (a ++ [x]) n = putK a n ++ [x] := by
  unfold putK
  rw [List.filter_append, List.filter_append]
  simp only [List.filter_cons, List.filter_nil]
  rw [if_neg (by simp; omega), if_pos (by simp; omega), List.append_nil, List.append_assoc]
  rfl
theorem putK_eq {a : List Int} {n : Int} (h : ∀ x ∈ a, x < n) : putK (a ++ [n]) n = a ++ [n] := by
  have e : (a.filter fun x => decide (n < x)) = [] := List.filter_eq_nil_iff.2 fun x hx q => by have := h x hx; have := of_decide_eq_true q; omega
  unfold putK
  rw [List.filter_append, List.filter_append, List.filter_eq_self.2 (fun x hx => decide_eq_true (h x hx)), e]
  simp
end Go.Proofs.YtbpmmdecaonopaaGreat

/-
  The data of the laws' theme 7, as structures, and the helpers of the laws over them: sizes, copies, comparisons. No condition but that the sizes are at most 1048576.
-/
namespace Go.Proofs.YtbpmmdecaonopaaGreat
open Go.AI
set_option maxRecDepth 8000

structure Cnf where
  vars : Int
  clauses : List (List Int)
  deriving DecidableEq, Inhabited
/-- What its size tells of it. -/
structure OkCnf (x : Cnf) : Prop where
  clauses : x.clauses.length ≤ 1048576 ∧ ∀ r ∈ x.clauses, r.length ≤ 1048576
structure Group where
  charge : Int
  contents : List Int
  count : Int
  deriving DecidableEq, Inhabited
/-- What its size tells of it. -/
structure OkGroup (x : Group) : Prop where
  contents : x.contents.length ≤ 1048576
structure Colony where
  skin : List Int
  groups : List Group
  deriving DecidableEq, Inhabited
/-- What its size tells of it. -/
structure OkColony (x : Colony) : Prop where
  skin : x.skin.length ≤ 1048576
  groups : x.groups.length ≤ 1048576 ∧ ∀ r ∈ x.groups, OkGroup r
structure DivRule where
  kind : Int
  charge : Int
  object : Int
  to : Int
  first : List Int
  toB : Int
  second : List Int
  deriving DecidableEq, Inhabited
/-- What its size tells of it. -/
structure OkDivRule (x : DivRule) : Prop where
  first : x.first.length ≤ 1048576
  second : x.second.length ≤ 1048576
structure Division where
  objects : Int
  rules : List DivRule
  deriving DecidableEq, Inhabited
/-- What its size tells of it. -/
structure OkDivision (x : Division) : Prop where
  rules : x.rules.length ≤ 1048576 ∧ ∀ r ∈ x.rules, OkDivRule r
end Go.Proofs.YtbpmmdecaonopaaGreat

/-
  Formulas: what the reference's and the program's ValidCnf compute. No condition.
-/
namespace Go.Proofs.YtbpmmdecaonopaaGreat
open Go.AI
set_option maxRecDepth 8000
set_option maxHeartbeats 1600000

end Go.Proofs.YtbpmmdecaonopaaGreat

/-
  Formulas, colonies, divisions: what the comparisons of the reference and of the program compute. No condition.
-/
namespace Go.Proofs.YtbpmmdecaonopaaGreat
open Go.AI
set_option maxRecDepth 8000
set_option maxHeartbeats 1600000

theorem ext_of {α : Type} {a b : List α} (hl : a.length = b.length) (h : ∀ i (h : i < a.length), some a[i] = b[i]?) : a = b :=
  List.ext_getElem hl (fun i h1 h2 => by have := h i h1; rw [List.getElem?_eq_getElem h2] at this; exact Option.some.inj this)

theorem c_slEqual (a b : List Int) : Gives Tryz.prog 54 [.sl (a.map Go.AI.encI), .sl (b.map Go.AI.encI)] (.raw (.bool (dec (a = b)))) := by
  refine fn_of_run tyOk ztOk mix Tryz.func54 rfl (by decide) Tryz.ntmps54 (fun w0 h => ?_)
  refine run_len (t := 0) rfl (fun hl => ?_)
  refine run_len (t := 1) rfl (fun hl2 => ?_)
  rw [List.length_map] at hl hl2
  repeat' (first
      | (refine j_go ?_; first
        | refine j_op0 rfl rfl rfl rfl ?_ | (refine j_kLen rfl ?_; first | refine j_len rfl rfl rfl rfl rfl rfl ?_))
      | refine j_nil ?_
      | (refine r_go ?_; first | refine run_seq ?_ | refine run_region ?_ | (refine (run_ifn rfl (fun hb => ?_) (fun hb => ?_)) <;> first | (exfalso; omega) | skip) | refine run_block ?_ | refine run_ret ?_ | refine run_skip ?_)
      | refine seqQ_normal ?_ | refine seqQ_ret ?_)
  · exact end1 rfl (by first | exact List.Sublist.refl _ | exact sub1 | exact sub2 | exact sub3) (rbF (fun q => by rw [q] at hb; omega)) (.inl rfl)
  · refine run_loop (fun k : Nat => [(0, .sl (a.map Go.AI.encI)), (1, .sl (b.map Go.AI.encI)), (12, .int a.length), (13, .int (k : Int))]) (fun _ => _) (fun k => k ≤ a.length ∧ (∀ i (h : i < a.length), i < k → some a[i] = b[i]?)) (fun k => a.length - k) 0 ⟨rfl, rfl, rfl, rfl, trivial⟩ rfl ⟨Nat.zero_le _, by first | (intros; omega) | (simp; done) | rfl | trivial | exact ⟨by simp [sumF], by intros; omega⟩ | exact ⟨by omega, by simp⟩⟩ (fun k ⟨kl, kp⟩ => ?_)
    repeat' (first
      | (refine j_go ?_; first
        | refine j_op0 rfl rfl rfl rfl ?_ | (refine j_kIdx rfl ?_; first | refine j_idx rfl rfl rfl rfl rfl (by omega) rfl rfl rfl ?_) | (refine j_kBin rfl ?_; first | refine j_in rfl rfl ⟨by omega, by omega⟩ rfl rfl ?_))
      | refine j_nil ?_
      | (refine r_go ?_; first | refine run_seq ?_ | refine run_region ?_ | (refine (run_if rfl (fun hb => ?_) (fun hb => ?_)) <;> first | (exfalso; omega) | skip) | (refine (run_ifn rfl (fun hb => ?_) (fun hb => ?_)) <;> first | (exfalso; omega) | skip) | refine run_block ?_ | refine run_ret ?_ | refine run_exit ?_ | refine run_skip ?_ | refine run_regionD (by kernel_rfl) ?_)
      | refine seqQ_normal ?_ | refine seqQ_ret ?_ | refine seqQ_exit ?_ | refine blockQ_normal ?_ | refine blockQ_ret ?_ | refine blockQ_eq ?_ | refine loopQ_ret ?_ | refine loopQ_exit ?_)
    · exact end1 rfl (by first | exact List.Sublist.refl _ | exact sub1 | exact sub2 | exact sub3) (rbF (fun q => by subst q; exact hb rfl)) (.inl rfl)
    · exact loopQ_nextD (k + 1) ⟨by omega, all_step kp (fun _ => by rw [hb]; simp)⟩ (by omega) (by first | exact List.Sublist.refl _ | exact sub1 | exact sub2 | exact sub3) ⟨rfl, rfl, rfl, nx _, trivial⟩
    · exact end1 rfl (by first | exact List.Sublist.refl _ | exact sub1 | exact sub2 | exact sub3) (rbT (ext_of (by omega) (fun i h => kp i h (by omega)))) (.inl rfl)

theorem c_slEqualFuncCl (f : FuncId) (hf : ∀ x y : List Int, Gives Tryz.prog f [.sl (x.map Go.AI.encI), .sl (y.map Go.AI.encI)] (.raw (.bool (dec (x = y))))) (a b : List (List Int)) : Gives Tryz.prog 53 [.sl (a.map (encS Go.AI.encI)), .sl (b.map (encS Go.AI.encI)), .fn f []] (.raw (.bool (dec (a = b)))) := by
  refine fn_of_run tyOk ztOk mix Tryz.func53 rfl (by decide) Tryz.ntmps53 (fun w0 h => ?_)
  refine run_len (t := 0) rfl (fun hl => ?_)
  refine run_len (t := 1) rfl (fun hl2 => ?_)
  rw [List.length_map] at hl hl2
  repeat' (first
      | (refine j_go ?_; first
        | refine j_op0 rfl rfl rfl rfl ?_ | (refine j_kLen rfl ?_; first | refine j_len rfl rfl rfl rfl rfl rfl ?_))
      | refine j_nil ?_
      | (refine r_go ?_; first | refine run_seq ?_ | refine run_region ?_ | (refine (run_ifn rfl (fun hb => ?_) (fun hb => ?_)) <;> first | (exfalso; omega) | skip) | refine run_block ?_ | refine run_ret ?_ | refine run_skip ?_)
      | refine seqQ_normal ?_ | refine seqQ_ret ?_)
  · exact end1 rfl (by first | exact List.Sublist.refl _ | exact sub1 | exact sub2 | exact sub3) (rbF (fun q => by rw [q] at hb; omega)) (.inl rfl)
  · refine run_loop (fun k : Nat => [(1, .sl (b.map (encS Go.AI.encI))), (2, .fn f []), (15, .sl (a.map (encS Go.AI.encI))), (16, .int a.length), (17, .int (k : Int))]) (fun _ => _) (fun k => k ≤ a.length ∧ (∀ i (h : i < a.length), i < k → some a[i] = b[i]?)) (fun k => a.length - k) 0 ⟨rfl, rfl, rfl, rfl, rfl, trivial⟩ rfl ⟨Nat.zero_le _, by first | (intros; omega) | (simp; done) | rfl | trivial | exact ⟨by simp [sumF], by intros; omega⟩ | exact ⟨by omega, by simp⟩⟩ (fun k ⟨kl, kp⟩ => ?_)
    repeat' (first
      | (refine j_go ?_; first
        | refine j_op0 rfl rfl rfl rfl ?_ | (refine j_kIdx rfl ?_; first | refine j_idx rfl rfl rfl rfl rfl (by omega) rfl rfl rfl ?_) | (refine j_kBin rfl ?_; first | refine j_in rfl rfl ⟨by omega, by omega⟩ rfl rfl ?_) | (refine j_kCall rfl rfl rfl rfl ?_; first | refine jc (hf _ _) (LeL.refl _) rfl rfl ?_))
      | refine j_nil ?_
      | (refine r_go ?_; first | refine run_seq ?_ | refine run_region ?_ | (refine (run_if rfl (fun hb => ?_) (fun hb => ?_)) <;> first | (exfalso; omega) | skip) | (refine (run_ifn rfl (fun hb => ?_) (fun hb => ?_)) <;> first | (exfalso; omega) | skip) | refine run_block ?_ | refine run_ret ?_ | refine run_exit ?_ | refine run_skip ?_)
      | refine seqQ_normal ?_ | refine seqQ_ret ?_ | refine seqQ_exit ?_ | refine blockQ_normal ?_ | refine blockQ_ret ?_ | refine blockQ_eq ?_ | refine loopQ_ret ?_ | refine loopQ_exit ?_)
    · exact end1 rfl (by first | exact List.Sublist.refl _ | exact sub1 | exact sub2 | exact sub3) (rbF (fun q => by subst q; exact hb rfl)) (.inl rfl)
    · exact loopQ_nextD (k + 1) ⟨by omega, all_step kp (fun _ => by rw [hb]; simp)⟩ (by omega) (by first | exact List.Sublist.refl _ | exact sub1 | exact sub2 | exact sub3) ⟨rfl, rfl, rfl, rfl, nx _, trivial⟩
    · exact end1 rfl (by first | exact List.Sublist.refl _ | exact sub1 | exact sub2 | exact sub3) (rbT (ext_of (by omega) (fun i h => kp i h (by omega)))) (.inl rfl)










end Go.Proofs.YtbpmmdecaonopaaGreat

/-
  Stocks compared, and found in lists. No condition.
-/
namespace Go.Proofs.YtbpmmdecaonopaaGreat
open Go.AI Go.RowKit
set_option maxRecDepth 8000
set_option maxHeartbeats 1600000

theorem c_iSameStock (s t : Stock) : Gives Tryz.prog 27 [.agg (encStock s), .agg (encStock t)] (.raw (.bool (dec (s = t)))) := by
  refine fn_of_run tyOk ztOk mix Tryz.func27 rfl (by decide) Tryz.ntmps27 (fun w0 h => ?_)
  repeat' (first
      | (refine j_go ?_; first
        | refine j_op0 rfl rfl rfl rfl ?_ | refine j_off rfl rfl rfl ?_ | (refine j_kCall rfl rfl rfl rfl ?_; first | refine jc (c_slEqual _ _) (LeL.refl _) rfl rfl ?_ | refine jc (c_slEqualFuncCl _ c_slEqual _ _) (LeL.refl _) rfl rfl ?_) | (refine j_kGuard rfl ?_; first | (refine (j_if rfl rfl rfl (fun hb => ?_) (fun hb => ?_)) <;> first | (exfalso; omega) | skip)) | refine j_box rfl rfl rfl rfl rfl rfl ?_)
      | refine j_nil ?_
      | (refine r_go ?_; first | refine run_seq ?_ | refine run_region ?_ | refine run_ret ?_)
      | refine seqQ_normal ?_)
  all_goals first | exact end1 rfl (List.Sublist.refl _) (rb (by cases s; cases t; simp_all [dec_eq])) (.inl rfl) | exact end1 rfl (by first | exact List.Sublist.refl _ | exact sub1 | exact sub2 | exact sub3) (rbF (fun q => by rw [q] at hb; exact hb rfl)) (.inl rfl) | trace_state
theorem c_pg1 (u t : Stock) : Gives Tryz.prog 26 [.agg (encStock u), .ip (encStock t)] (.raw (.bool (dec (u = t)))) := by
  refine fn_of_run tyOk ztOk mix Tryz.func26 rfl (by decide) Tryz.ntmps26 (fun w0 h => ?_)
  repeat' (first
      | (refine j_go ?_; first
        | refine j_op0 rfl rfl rfl rfl ?_ | (refine j_kCall rfl rfl rfl rfl ?_; first | refine jc (c_iSameStock _ _) (LeL.refl _) rfl rfl ?_) | refine j_box rfl rfl rfl rfl rfl rfl ?_)
      | refine j_nil ?_
      | (refine r_go ?_; first | refine run_seq ?_ | refine run_region ?_ | refine run_ret ?_)
      | refine seqQ_normal ?_)
  exact end1 rfl (List.Sublist.refl _) (rfl) (.inl rfl)
theorem c_ixfK (f : FuncId) (caps : List A) (r : Stock → Prop) (l : List (Stock)) (hf : ∀ x ∈ l, Gives Tryz.prog f (.agg (encStock x) :: caps) (.raw (.bool (dec (r x))))) : Gives Tryz.prog 25 [.sl (l.map encStock), .fn f caps] (.int (fIdx r l)) := by
  refine fn_of_run tyOk ztOk mix Tryz.func25 rfl (by decide) Tryz.ntmps25 (fun w0 h => ?_)
  refine run_len (t := 0) rfl (fun hl => ?_)
  rw [List.length_map] at hl
  repeat' (first
      | (refine j_go ?_; first
        | refine j_op0 rfl rfl rfl rfl ?_ | (refine j_kLen rfl ?_; first | refine j_len rfl rfl rfl rfl rfl rfl ?_))
      | refine j_nil ?_
      | (refine r_go ?_; first | refine run_seq ?_ | refine run_region ?_ | refine run_block ?_)
      | refine seqQ_normal ?_)
  refine run_loop (fun k : Nat => [(0, .sl (l.map encStock)), (1, .fn f caps), (7, .int l.length), (8, .int (k : Int))]) (fun _ => _) (fun k => k ≤ l.length ∧ (∀ i (h : i < l.length), i < k → ¬ r l[i])) (fun k => l.length - k) 0 ⟨rfl, rfl, rfl, rfl, trivial⟩ rfl ⟨Nat.zero_le _, by first | (intros; omega) | (simp; done) | rfl | trivial | exact ⟨by simp [sumF], by intros; omega⟩ | exact ⟨by omega, by simp⟩⟩ (fun k ⟨kl, kp⟩ => ?_)
  repeat' (first
      | (refine j_go ?_; first
        | refine j_op0 rfl rfl rfl rfl ?_ | (refine j_kIdx rfl ?_; first | refine j_idx rfl rfl rfl rfl rfl (by omega) rfl rfl rfl ?_) | (refine j_kBin rfl ?_; first | refine j_in rfl rfl ⟨by omega, by omega⟩ rfl rfl ?_) | (refine j_kCall rfl rfl rfl rfl ?_; first | refine jc (hf _ (List.getElem_mem _)) (LeL.refl _) rfl rfl ?_))
      | refine j_nil ?_
      | (refine r_go ?_; first | refine run_seq ?_ | refine run_region ?_ | (refine (run_if rfl (fun hb => ?_) (fun hb => ?_)) <;> first | (exfalso; omega) | skip) | refine run_block ?_ | refine run_ret ?_ | refine run_exit ?_ | refine run_skip ?_)
      | refine seqQ_normal ?_ | refine seqQ_ret ?_ | refine seqQ_exit ?_ | refine blockQ_normal ?_ | refine blockQ_ret ?_ | refine blockQ_eq ?_ | refine loopQ_ret ?_ | refine loopQ_exit ?_)
  · exact end1 rfl (List.Sublist.refl _) (ai (fIdx_at (by omega) hb kp).symm) (.inl rfl)
  · exact loopQ_nextD (k + 1) ⟨by omega, all_step kp (fun _ => hb)⟩ (by omega) (by first | exact List.Sublist.refl _ | exact sub1 | exact sub2 | exact sub3) ⟨rfl, rfl, rfl, nx _, trivial⟩
  · exact end1 rfl (List.Sublist.refl _) (ai (fIdx_none (fun i h => kp i h (by omega))).symm) (.inl rfl)

theorem c_l06Same (s t : Stock) : Gives Tryz.prog 31 [.ip (encStock s), .ip (encStock t)] (.raw (.bool (dec (s = t)))) := by
  refine fn_of_run tyOk ztOk mix Tryz.func31 rfl (by decide) Tryz.ntmps31 (fun w0 h => ?_)
  repeat' (first
      | (refine j_go ?_; first
        | refine j_op0 rfl rfl rfl rfl ?_ | refine j_off rfl rfl rfl ?_ | (refine j_kLen rfl ?_; first | refine j_len rfl rfl rfl rfl rfl rfl ?_) | (refine j_kCall rfl rfl rfl rfl ?_; first | refine jc (c_l00Same _ _) (LeL.refl _) rfl rfl ?_) | (refine j_kGuard rfl ?_; first | (refine (j_ifn rfl rfl rfl (fun hb => ?_) (fun hb => ?_)) <;> first | (exfalso; omega) | skip)))
      | refine j_nil ?_
      | (refine r_go ?_; first | refine run_seq ?_ | refine run_region ?_ | refine run_cond_t rfl ?_ | (refine (run_ifn rfl (fun hb => ?_) (fun hb => ?_)) <;> first | (exfalso; omega) | skip) | refine run_block ?_ | refine run_ret ?_ | refine run_skip ?_ | refine run_regionD (by kernel_rfl) ?_)
      | refine seqQ_normal ?_ | refine seqQ_ret ?_)
  all_goals try exact absurd rfl hb
  · exact end1 rfl (by first | exact List.Sublist.refl _ | exact sub1 | exact sub2 | exact sub3) (rbF (fun q => by rw [q] at hb; exact hb rfl)) (.inl rfl)
  · exact end1 rfl (by first | exact List.Sublist.refl _ | exact sub1 | exact sub2 | exact sub3) (rbF (fun q => by rw [q] at hb; exact hb rfl)) (.inl rfl)
  · refine run_range (t := 21) (m := s.cells.length) rfl (fun hr => ?_)
    refine run_loop (fun k : Nat => [(0, .ip (encStock s)), (1, .ip (encStock t)), (5, .int (k : Int))]) (fun _ => _) (fun k => k ≤ s.cells.length ∧ (∀ i (h : i < s.cells.length), i < k → some s.cells[i] = t.cells[i]?)) (fun k => s.cells.length - k) 0 ⟨rfl, rfl, rfl, trivial⟩ rfl ⟨Nat.zero_le _, by first | (intros; omega) | (simp; done) | rfl | trivial | exact ⟨by simp [sumF], by intros; omega⟩ | exact ⟨by omega, by simp⟩⟩ (fun k ⟨kl, kp⟩ => ?_)
    repeat' (first
      | (refine j_go ?_; first
        | refine j_op0 rfl rfl rfl rfl ?_ | (refine j_kIdx rfl ?_; first | refine j_idx rfl rfl rfl rfl rfl (by omega) rfl rfl rfl ?_) | (refine j_kBin rfl ?_; first | refine j_in rfl rfl ⟨by omega, by omega⟩ rfl rfl ?_) | (refine j_kLen rfl ?_; first | refine j_len rfl rfl rfl rfl rfl rfl ?_) | (refine j_kCall rfl rfl rfl rfl ?_; first | refine jc (c_l00Same _ _) (LeL.refl _) rfl rfl ?_))
      | refine j_nil ?_
      | (refine r_go ?_; first | refine run_seq ?_ | refine run_region ?_ | (refine (run_if rfl (fun hb => ?_) (fun hb => ?_)) <;> first | (exfalso; omega) | skip) | (refine (run_ifn rfl (fun hb => ?_) (fun hb => ?_)) <;> first | (exfalso; omega) | skip) | refine run_block ?_ | refine run_ret ?_ | refine run_exit ?_ | refine run_skip ?_ | refine run_regionD (by kernel_rfl) ?_)
      | refine seqQ_normal ?_ | refine seqQ_ret ?_ | refine seqQ_exit ?_ | refine blockQ_normal ?_ | refine blockQ_ret ?_ | refine blockQ_eq ?_ | refine loopQ_ret ?_ | refine loopQ_exit ?_)
    · exact end1 rfl (by first | exact List.Sublist.refl _ | exact sub1 | exact sub2 | exact sub3) (rbF (fun q => by subst q; exact hb rfl)) (.inl rfl)
    · exact loopQ_nextD (k + 1) ⟨by omega, all_step kp (fun _ => by rw [hb]; simp)⟩ (by omega) (by first | exact List.Sublist.refl _ | exact sub1 | exact sub2 | exact sub3) ⟨rfl, rfl, nx _, trivial⟩
    · exact end1 rfl (by first | exact List.Sublist.refl _ | exact sub1 | exact sub2 | exact sub3) (rbT (by have := ext_of (a := s.cells) (b := t.cells) (by omega) (fun i h => kp i h (by omega)); cases s; cases t; simp_all)) (.inl rfl)
theorem c_sSameStock (s t : Stock) : Gives Tryz.prog 13 [.agg (encStock s), .agg (encStock t)] (.raw (.bool (dec (s = t)))) := by
  refine fn_of_run tyOk ztOk mix Tryz.func13 rfl (by decide) Tryz.ntmps13 (fun w0 h => ?_)
  repeat' (first
      | (refine j_go ?_; first
        | refine j_op0 rfl rfl rfl rfl ?_ | (refine j_kCall rfl rfl rfl rfl ?_; first | refine jc (c_l06Same _ _) (LeL.refl _) rfl rfl ?_) | refine j_box rfl rfl rfl rfl rfl rfl ?_)
      | refine j_nil ?_
      | (refine r_go ?_; first | refine run_seq ?_ | refine run_region ?_ | refine run_ret ?_)
      | refine seqQ_normal ?_)
  exact end1 rfl (List.Sublist.refl _) (rfl) (.inl rfl)
/-- A pointer into a list of the call's own, read for a while. -/
theorem Frz.ptrAt {hT : Heap} {b T room off : Nat} {cs : List A} {cs' : List A} (hm0 : (⟨some b, T, room, cs⟩ : Blk) ∈ hT) (hl : FrzL hT ((cs.drop off).take cs'.length) cs') (hlen : off + cs'.length ≤ cs.length) : Frz hT (.op (some b) off) (.ip cs') := fun F w v hm ho r => by
  have e := r.op_inv
  simp only [Option.map_some] at e
  rw [e]
  obtain ⟨vs, rest, hb, hr, hrm⟩ := ho.at (hm _ hm0)
  have hlt := ho.lt (mem_keys (hm _ hm0) rfl)
  have hvl : vs.length = cs.length := hr.1
  have hr2 : RelL _ w ((cs.drop off).take cs'.length) ((vs.drop off).take cs'.length) := ⟨by simp [hvl], fun j hj hj' => by
    simp only [List.length_take, List.length_drop] at hj
    rw [List.getElem_take, List.getElem_drop, List.getElem_take, List.getElem_drop]
    exact hr.2 (off + j) (by omega) (by omega)⟩
  have q := hl F w _ hm ho hr2
  refine .ip cs' b off (fun j => vs.getD (off + j) undef) ⟨hlt, by simp [keys]⟩ (fun j hj => ?_) (fun j hj => ?_)
  · have hv : off + j < vs.length := by omega
    rw [cell_of_vs hb _ hv]; simp [hv]
  · have hv : j < ((vs.drop off).take cs'.length).length := by simp [hvl]; omega
    have := q.2 j hj hv
    simp only [List.getElem_take, List.getElem_drop] at this
    have hv2 : off + j < vs.length := by omega
    simpa [hv2] using this
end Go.Proofs.YtbpmmdecaonopaaGreat
