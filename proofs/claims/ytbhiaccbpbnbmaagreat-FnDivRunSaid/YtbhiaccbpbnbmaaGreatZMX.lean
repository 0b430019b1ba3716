/-
  Groups are gathered: the program's walk. No condition.
-/
import Derived.Test.YtbhiaccbpbnbmaaGreatZS7u
import Derived.Test.YtbhiaccbpbnbmaaGreatZS7x
import Derived.Test.YtbhiaccbpbnbmaaGreatZE5
namespace Go.Proofs.YtbhiaccbpbnbmaaGreat
open Go.AI
set_option maxRecDepth 8000
set_option maxHeartbeats 3200000

abbrev grO (ob : Option Nat) (cap : Nat) (L : List Tri) : Blk := ⟨ob, 54, cap * 3, (L.map Tri.cs).flatten⟩
theorem o_insSort0 (ob : Option Nat) (cap : Nat) : Does Tryz.prog 100 [.os ob 0 cap, .int 0, .int 0, .fn 64 []] [grO ob cap []] (fun _ h' => h' = [grO ob cap []]) := by
  refine fn_of_runD tyOk ztOk mix Tryz.func100 rfl (by decide) Tryz.ntmps100 (fun w0 F => ?_)
  change Run _ _ _ _ _ (_ :: F)
  repeat' (first
      | (refine j_go ?_; first
        | refine j_op0 rfl rfl rfl rfl ?_ | (refine j_kBin rfl ?_; first | refine j_in rfl rfl ⟨by omega, by omega⟩ rfl rfl ?_))
      | refine j_nil ?_
      | (refine r_go ?_; first | refine run_seq ?_ | refine run_region ?_ | refine run_block ?_)
      | refine seqQ_normal ?_)
  refine run_loop (fun _ : Unit => [(0, .os ob 0 cap), (1, .int 0), (2, .int 0), (3, .fn 64 []), (8, .int 1)]) (fun _ => grO ob cap [] :: F) (fun _ => True) (fun _ => 0) () ⟨rfl, rfl, rfl, rfl, rfl, trivial⟩ rfl trivial (fun _ _ => ?_)
  repeat' (first
      | (refine j_go ?_; first
        | refine j_op0 rfl rfl rfl rfl ?_)
      | refine j_nil ?_
      | (refine r_go ?_; first | refine run_seq ?_ | refine run_region ?_ | (refine (run_if rfl (fun hb => ?_) (fun hb => ?_)) <;> first | (exfalso; omega) | skip) | refine run_exit ?_)
      | refine seqQ_normal ?_ | refine seqQ_exit ?_ | refine blockQ_eq ?_ | refine loopQ_exit ?_)
  exact endD_ret (h1 := [_]) rfl .nil (Le.refl _) rfl (.inr rfl)
theorem o_stable0 (ob : Option Nat) (cap : Nat) : Does Tryz.prog 88 [.os ob 0 cap, .int 0, .fn 64 []] [grO ob cap []] (fun _ h' => h' = [grO ob cap []]) := by
  refine fn_of_runD tyOk ztOk mix Tryz.func88 rfl (by decide) Tryz.ntmps88 (fun w0 F => ?_)
  change Run _ _ _ _ _ (_ :: F)
  repeat' (first
      | (refine j_go ?_; first
        | refine j_op0 rfl rfl rfl rfl ?_)
      | refine j_nil ?_
      | (refine r_go ?_; first | refine run_seq ?_ | refine run_region ?_ | refine run_block ?_)
      | refine seqQ_normal ?_)
  refine run_loop (fun _ : Unit => [(0, .os ob 0 cap), (1, .int 0), (2, .fn 64 []), (6, .int 20), (7, .int 0), (8, .int 20)]) (fun _ => grO ob cap [] :: F) (fun _ => True) (fun _ => 0) () ⟨rfl, rfl, rfl, rfl, rfl, rfl, trivial⟩ rfl trivial (fun _ _ => ?_)
  repeat' (first
      | (refine j_go ?_; first
        | refine j_op0 rfl rfl rfl rfl ?_)
      | refine j_nil ?_
      | (refine r_go ?_; first | refine run_seq ?_ | refine run_region ?_ | (refine (run_if rfl (fun hb => ?_) (fun hb => ?_)) <;> first | (exfalso; omega) | skip) | refine run_exit ?_)
      | refine seqQ_normal ?_ | refine seqQ_exit ?_ | refine blockQ_eq ?_ | refine loopQ_exit ?_)
  refine j_kCall rfl rfl rfl rfl ?_
  refine jcp F (o_insSort0 ob cap) (List.Perm.refl _) (LeL.refl _) rfl rfl (fun v h1 hR => ?_)
  subst hR
  repeat' (first
      | refine j_nil ?_
      | (refine r_go ?_; first | refine run_block ?_)
      | refine seqQ_normal ?_)
  refine run_loop (fun _ : Unit => [(0, .os ob 0 cap), (1, .int 0), (2, .fn 64 []), (6, .int 20)]) (fun _ => grO ob cap [] :: F) (fun _ => True) (fun _ => 0) () ⟨rfl, rfl, rfl, rfl, trivial⟩ rfl trivial (fun _ _ => ?_)
  repeat' (first
      | (refine j_go ?_; first
        | refine j_op0 rfl rfl rfl rfl ?_)
      | refine j_nil ?_
      | (refine r_go ?_; first | refine run_seq ?_ | refine run_region ?_ | (refine (run_if rfl (fun hb => ?_) (fun hb => ?_)) <;> first | (exfalso; omega) | skip) | refine run_exit ?_)
      | refine seqQ_normal ?_ | refine seqQ_exit ?_ | refine blockQ_eq ?_ | refine loopQ_exit ?_)
  exact endD_ret (h1 := [_]) rfl .nil (Le.refl _) rfl (.inr rfl)
theorem o_sortG (ob : Option Nat) (cap : Nat) (hT : Heap) (L : List Tri) (hL : L.length ≤ 100000000) (hbl : ∀ t ∈ L, t.blk ∈ hT) :
    Does Tryz.prog 63 [.os ob L.length cap, .fn 64 []] (grO ob cap L :: hT)
      (fun _ h' => ∃ M, (M.Perm L ∧ M.Pairwise Tri.le) ∧ h' = grO ob cap M :: hT) := by
  refine fn_of_runD tyOk ztOk mix Tryz.func63 rfl (by decide) Tryz.ntmps63 (fun w0 F => ?_)
  change Run _ _ _ _ _ (_ :: (hT ++ F))
  cases L with
  | nil =>
    repeat' (first
      | (refine j_go ?_; first
        | refine j_op0 rfl rfl rfl rfl ?_ | (refine j_kLen rfl ?_; first | refine j_op rfl rfl rfl rfl ?_))
      | (refine r_go ?_; first | refine run_region ?_))
    refine j_kCall rfl rfl rfl rfl ?_
    refine jcp (hT ++ F) (o_stable0 ob cap) (List.Perm.refl _) (LeL.refl _) rfl rfl (fun v h1 hR => ?_)
    subst hR
    repeat' (first
      | refine j_nil ?_)
    exact endD_ret (h1 := _ :: hT) rfl .nil (Le.refl _) ⟨[], ⟨List.Perm.refl _, List.Pairwise.nil⟩, rfl⟩ (.inr rfl)
  | cons x L =>
    refine run_some 0 rfl (by simp [Tri.cs]) (fun b hb => ?_)
    subst hb
    repeat' (first
      | (refine j_go ?_; first
        | refine j_op0 rfl rfl rfl rfl ?_ | (refine j_kLen rfl ?_; first | refine j_op rfl rfl rfl rfl ?_))
      | (refine r_go ?_; first | refine run_region ?_))
    refine j_kCall rfl rfl rfl rfl ?_
    refine jcp F (o_stable b cap hT (x :: L) hL hbl) (List.Perm.refl _) (LeL.refl _) rfl rfl (fun v h1 hR => ?_)
    obtain ⟨M, hM, rfl⟩ := hR
    repeat' (first
      | refine j_nil ?_)
    exact endD_ret (h1 := _ :: hT) rfl .nil (Le.refl _) ⟨M, hM, rfl⟩ (.inr rfl)

/-- The groups with cells, their contents in order. -/
def normG (gs : List Group) : List Group := (gs.filter fun g => decide (0 < g.count)).map fun g => ⟨g.charge, sortI g.contents, g.count⟩
theorem normG_t {gs : List Group} {k : Nat} (hk : k < gs.length) (h : 0 < gs[k].count) : normG (gs.take (k + 1)) = normG (gs.take k) ++ [⟨gs[k].charge, sortI gs[k].contents, gs[k].count⟩] := by
  unfold normG
  rw [List.take_succ_eq_append_getElem hk, List.filter_append, List.map_append]
  simp [h]
theorem normG_f {gs : List Group} {k : Nat} (hk : k < gs.length) (h : ¬ 0 < gs[k].count) : normG (gs.take (k + 1)) = normG (gs.take k) := by
  unfold normG
  rw [List.take_succ_eq_append_getElem hk, List.filter_append, List.map_append]
  simp [h]
theorem normG_len (gs : List Group) : (normG gs).length ≤ gs.length := by
  unfold normG; rw [List.length_map]; exact List.length_filter_le _ _
def toT3 (t : Tri) : Cells 3 := ⟨t.cs, rfl⟩
theorem tri_cells (L : List Tri) : (L.map Tri.cs).flatten = ((L.map toT3).map Subtype.val).flatten := by rw [List.map_map]; rfl
theorem blks_snoc (L : List Tri) (t : Tri) : ((L ++ [t]).map Tri.blk).reverse = t.blk :: (L.map Tri.blk).reverse := by rw [List.map_append, List.reverse_append]; rfl
theorem grp_ne {M : List Tri} {j : Nat} (h : j < M.length) : (M.map Tri.cs).flatten ≠ [] := by
  cases M with
  | nil => exact absurd h (Nat.not_lt_zero _)
  | cons x M => exact fun q => absurd q (by simp [Tri.cs])
/-- What stands in own memory as groups brought together. -/
theorem own_groups (ob : Option Nat) (cap : Nat) (K : List Tri) : ROGroups (K.map Tri.g) (.os ob K.length cap) (grO ob cap K :: K.map Tri.blk) :=
  .inl ⟨ob, cap, K.map toT3, K.map fun t => [t.blk], by simp, by simp, fun i hi h1 h2 => by
    simp only [List.getElem_map]
    exact ⟨_, .inl ⟨_, _, rfl, rfl⟩, rfl⟩, by simp, by
    rw [← tri_cells]
    congr 1
    induction K with
    | nil => rfl
    | cons x K ih => rw [List.map_cons, List.map_cons, List.flatten_cons, ← ih]; rfl⟩
theorem set_cntT (u : Tri) (s : Int) : ∀ U : List Tri, (((U ++ [u]).map Tri.cs).flatten).set (U.length * 3 + 2) (.int s) = ((U ++ [(⟨⟨u.g.charge, u.g.contents, s⟩, u.b, u.cap⟩ : Tri)]).map Tri.cs).flatten
  | [] => rfl
  | x :: U => by
    have e : (x :: U).length * 3 + 2 = (U.length * 3 + 2) + 1 + 1 + 1 := by rw [List.length_cons]; omega
    rw [e]
    have ih := set_cntT u s U
    simp only [List.cons_append, List.map_cons, List.flatten_cons]
    rw [← ih]; rfl
theorem get_cntT (u : Tri) (U : List Tri) (h : U.length * 3 + 2 < (((U ++ [u]).map Tri.cs).flatten).length) : (((U ++ [u]).map Tri.cs).flatten)[U.length * 3 + 2] = .int u.g.count := by
  have := flat_get (f := Tri.cs) (z := 3) (U ++ [u]) U.length 2 (by simp) (show 2 < 3 by omega) (fun _ => rfl)
  rw [List.getElem?_eq_getElem h] at this
  have := Option.some.inj this
  rw [this]
  simp [Tri.cs]
structure GaOk (M : List Tri) (j : Nat) (K : List Tri) : Prop where
  agg : Agg ((M.take j).map Tri.g) (K.map Tri.g)
  blk : (K.map Tri.blk).Sublist ((M.take j).map Tri.blk)
  low : ∀ u ∈ K, ∀ t ∈ M.drop j, ¬ Before t.g u.g
  cnt : ∀ u ∈ K, 0 ≤ u.g.count ∧ u.g.count ≤ 5000 * (j : Int)
  len : K.length ≤ j
theorem GaOk.zero (M : List Tri) : GaOk M 0 [] := ⟨Agg.nil, List.Sublist.refl _, fun _ h => absurd h (by simp), fun _ h => absurd h (by simp), Nat.le_refl _⟩
theorem GaOk.add {M : List Tri} {j : Nat} {U : List Tri} {u : Tri} (h : GaOk M j (U ++ [u])) (hj : j < M.length) (h0 : 0 < M[j].g.count ∧ M[j].g.count ≤ 5000) (hs : ¬ Before u.g M[j].g) {u' : Tri} (e : u' = ⟨⟨u.g.charge, u.g.contents, u.g.count + M[j].g.count⟩, u.b, u.cap⟩) : GaOk M (j + 1) (U ++ [u']) := by
  subst e
  have hl := h.low u (by simp) M[j] (List.mem_drop_iff_getElem.2 ⟨0, by omega, by simp⟩)
  have hk := bef_tri hs hl
  refine ⟨?_, ?_, fun x hx t ht => ?_, fun x hx => ?_, ?_⟩
  · have := h.agg
    rw [List.take_succ_eq_append_getElem hj]
    simp only [List.map_append, List.map_cons, List.map_nil] at this ⊢
    exact this.add (V := []) h0.1 hk ⟨rfl, rfl⟩ rfl
  · have := h.blk
    rw [List.take_succ_eq_append_getElem hj]
    simp only [List.map_append, List.map_cons, List.map_nil] at this ⊢
    exact this.trans (List.sublist_append_left _ _)
  · have ht' : t ∈ M.drop j := by rw [List.drop_eq_getElem_cons hj]; exact List.mem_cons_of_mem _ ht
    rcases List.mem_append.1 hx with q | q
    · exact h.low x (List.mem_append_left _ q) t ht'
    · rw [List.mem_singleton] at q; subst q
      exact h.low u (by simp) t ht'
  · rcases List.mem_append.1 hx with q | q
    · have := h.cnt x (List.mem_append_left _ q); omega
    · rw [List.mem_singleton] at q; subst q
      have := h.cnt u (by simp)
      dsimp only; omega
  · have := h.len
    simp only [List.length_append, List.length_cons, List.length_nil] at this ⊢; omega
theorem GaOk.put {M : List Tri} {j : Nat} {K : List Tri} (h : GaOk M j K) (hM : M.Pairwise Tri.le) (hj : j < M.length) (h0 : 0 < M[j].g.count ∧ M[j].g.count ≤ 5000) (hs : ∀ U u, K = U ++ [u] → Before u.g M[j].g) : GaOk M (j + 1) (K ++ [M[j]]) := by
  refine ⟨?_, ?_, fun x hx t ht => ?_, fun x hx => ?_, ?_⟩
  · have := h.agg
    rw [List.take_succ_eq_append_getElem hj]
    simp only [List.map_append, List.map_cons, List.map_nil]
    rw [← List.append_nil (K.map Tri.g)] at this
    refine this.put (V := []) h0.1 (fun x hx => ?_) (fun _ hx => absurd hx (by simp))
    rcases List.eq_nil_or_concat K with rfl | ⟨U, u, rfl⟩
    · exact absurd hx (by simp)
    · have hb := hs U u (by simp)
      have hA := h.agg.asc
      simp only [List.concat_eq_append, List.map_append, List.map_cons, List.map_nil] at hx hA
      rcases List.mem_append.1 hx with q | q
      · exact bef_trans ((List.pairwise_append.1 hA).2.2 x q u.g (by simp)) hb
      · rw [List.mem_singleton] at q; subst q; exact hb
  · rw [List.take_succ_eq_append_getElem hj]
    simp only [List.map_append, List.map_cons, List.map_nil]
    exact h.blk.append (List.Sublist.refl _)
  · have ht' : t ∈ M.drop j := by rw [List.drop_eq_getElem_cons hj]; exact List.mem_cons_of_mem _ ht
    rcases List.mem_append.1 hx with q | q
    · exact h.low x q t ht'
    · rw [List.mem_singleton] at q; subst q
      have hp : (M.drop j).Pairwise Tri.le := hM.sublist (List.drop_sublist _ _)
      rw [List.drop_eq_getElem_cons hj] at hp
      exact (List.pairwise_cons.1 hp).1 t ht
  · rcases List.mem_append.1 hx with q | q
    · have := h.cnt x q; omega
    · rw [List.mem_singleton] at q; subst q; omega
  · have := h.len
    simp only [List.length_append, List.length_cons, List.length_nil]; omega
theorem o_gather (skin : List Int) (gs : List Group) (hs : skin.length ≤ 1048576) (hl : gs.length ≤ 1048576) (hc : ∀ g ∈ gs, g.contents.length ≤ 1048576 ∧ 0 ≤ g.count ∧ g.count ≤ 5000) :
    Does Tryz.prog 37 [.sl (skin.map Go.AI.encI), .sl (gs.map encGroup)] [] (fun v h' => ∃ ks, Agg (normG gs) ks ∧ ROColony ⟨sortI skin, ks⟩ v h') := by
  refine fn_of_runD tyOk ztOk mix Tryz.func37 rfl (by decide) Tryz.ntmps37 (fun w0 F => ?_)
  change Run _ _ _ _ _ F
  repeat' (first
      | (refine j_go ?_; first
        | refine j_op0 rfl rfl rfl rfl ?_ | refine j_alloc rfl rfl rfl rfl rfl (fun _ => ?_))
      | refine j_nil ?_
      | (refine r_go ?_; first | refine run_seq ?_ | refine run_region ?_)
      | refine seqQ_normal ?_)
  rename_i b4
  refine j_kCall rfl rfl rfl rfl ?_
  refine jcp (_ :: F) (o_ordered skin (by omega)) (List.Perm.refl _) (LeL.refl _) rfl rfl (fun v h1 hR => ?_)
  obtain ⟨bs, cs, rfl, rfl⟩ := hR
  have ssl : (sortI skin).length = skin.length := List.length_mergeSort _
  repeat' (first
      | (refine j_go ?_; first
        | refine j_op0 rfl rfl rfl rfl ?_ | (refine j_kLen rfl ?_; first | refine j_len rfl rfl rfl rfl rfl rfl ?_) | (refine j_kStore rfl ?_; first | refine j_storeN 0 rfl rfl rfl rfl rfl rfl rfl rfl rfl rfl rfl ?_) | (refine j_kBsl rfl ?_; first | refine j_bs0 rfl rfl rfl rfl rfl rfl ?_) | refine j_build rfl rfl rfl rfl rfl rfl rfl ?_ | refine j_alloc rfl rfl rfl rfl rfl (fun _ => ?_))
      | refine j_nil ?_
      | (refine r_go ?_; first | refine run_seq ?_ | refine run_region ?_ | refine run_block ?_)
      | refine seqQ_normal ?_)
  rename_i b5
  refine run_view (view_none 54 (0 * 3) rfl) ?_
  refine run_loop (fun z : Nat × List Tri × Option Nat × Nat => [(4, .op (some b4) 0), (5, .op (some b5) 0), (16, .sl (gs.map encGroup)), (17, .int gs.length), (6, .os z.2.2.1 z.2.1.length z.2.2.2), (18, .int (z.1 : Int))])
    (fun z => grO z.2.2.1 z.2.2.2 z.2.1 :: ((z.2.1.map Tri.blk).reverse ++ (⟨some b5, 30, 2, [.os bs (sortI skin).length cs, .os none 0 0]⟩ :: ⟨bs, 2, cs * 1, ((sortI skin).map Go.AI.encI).flatten⟩ :: ⟨some b4, 30, 2, [.os none 0 0, .os none 0 0]⟩ :: F)))
    (fun z => z.1 ≤ gs.length ∧ z.2.1.map Tri.g = normG (gs.take z.1)) (fun z => gs.length - z.1) (0, [], none, 0) ⟨rfl, rfl, rfl, rfl, rfl, rfl, trivial⟩ rfl ⟨Nat.zero_le _, rfl⟩ (fun ⟨k, L, ob, cap⟩ ⟨kl, hL⟩ => ?_)
  dsimp only at kl hL ⊢
  have Ll : L.length ≤ k := by
    have h1 := congrArg List.length hL
    have h2 := normG_len (gs.take k)
    rw [List.length_map] at h1
    rw [List.length_take] at h2
    omega
  by_cases hk : k < gs.length
  · have hgk := hc _ (List.getElem_mem hk)
    by_cases hp : 0 < gs[k].count
    · repeat' (first
      | (refine j_go ?_; first
        | refine j_op0 rfl rfl rfl rfl ?_ | (refine j_kIdx rfl ?_; first | refine j_idx rfl rfl rfl rfl rfl (by omega) rfl rfl rfl ?_) | (refine j_kLoad rfl ?_; first | refine j_mload 0 rfl rfl rfl rfl rfl rfl rfl ?_) | (refine j_kStore rfl ?_; first | refine j_storeN 0 rfl rfl rfl rfl rfl rfl rfl rfl rfl rfl rfl ?_) | refine j_alloc rfl rfl rfl rfl rfl (fun _ => ?_))
      | refine j_nil ?_
      | (refine j_goO ?_; first
        | refine j_op0O rfl rfl rfl rfl ?_ | (refine j_kLoadO rfl ?_; first | refine j_mloadO 0 rfl rfl rfl rfl rfl rfl rfl rfl ?_ | refine j_mloadS 0 rfl rfl rfl rfl rfl rfl rfl ?_))
      | (refine r_go ?_; first | refine run_seq ?_ | refine run_region ?_ | (refine (run_if rfl (fun hb => ?_) (fun hb => ?_)) <;> first | (exfalso; omega) | skip) | refine run_block ?_ | refine run_skip ?_ | refine run_opn 7 [⟨0, false, false, 0⟩, ⟨1, false, false, 0⟩, ⟨2, false, false, 0⟩, ⟨3, true, false, 0⟩, ⟨4, true, false, 0⟩, ⟨6, false, false, 0⟩, ⟨7, false, false, 0⟩, ⟨5, false, true, 0⟩, ⟨8, true, false, 0⟩, ⟨9, true, false, 0⟩, ⟨10, false, true, 0⟩, ⟨11, true, false, 0⟩] rfl rfl (by kernel_rfl) ?_)
      | refine seqQ_normal ?_)
      refine j_kCallO rfl rfl rfl rfl ?_
      refine jctO [] (o_ordered gs[k].contents (by omega)) rfl (fun k hk => by rw [memB2 hk]; exact List.mem_cons_self) (fun _ hk => nomatch hk) (FrzL.cons (Frz.same _ _) (FrzL.nil _)) (fun v h1 hR => hR.clo) rfl rfl (fun v h1 hR => ?_)
      obtain ⟨b1, c1, rfl, rfl⟩ := hR
      have csl : (sortI gs[k].contents).length = gs[k].contents.length := List.length_mergeSort _
      repeat' (first
      | (refine j_goO ?_; first
        | (refine j_kBslO rfl ?_; first | refine j_bslO rfl rfl rfl rfl rfl rfl rfl rfl rfl rfl rfl ?_) | refine j_buildO rfl rfl rfl rfl rfl rfl rfl ?_))
      refine j_appendO 2 (g := Tri.cs) (ys := L) [⟨⟨gs[k].charge, sortI gs[k].contents, gs[k].count⟩, b1, c1⟩] rfl (fun k hk => by rw [memB2 hk]; exact List.mem_cons_of_mem _ List.mem_cons_self) rfl rfl rfl rfl rfl rfl rfl rfl rfl rfl rfl (by
        show _ = some (A.sl [[.int gs[k].charge, .os b1 (sortI gs[k].contents).length c1, .int gs[k].count]])
        rw [csl]; rfl) (fun _ => rfl) (fun _ hy => by simp only [List.mem_singleton] at hy; subst hy; rfl) ⟨by simp only [List.length_cons, List.length_nil]; omega, by simp only [List.length_cons, List.length_nil]; omega⟩ rfl rfl (fun b' cap' => ?_)
      repeat' (first
      | (refine j_go ?_; first
        | refine j_op0 rfl rfl rfl rfl ?_ | (refine j_kBin rfl ?_; first | refine j_in rfl rfl ⟨by omega, by omega⟩ rfl rfl ?_))
      | refine j_nil ?_
      | (refine j_goO ?_; first
        | refine j_op0O rfl rfl rfl rfl ?_)
      | refine j_nilO ?_
      | (refine r_go ?_; first | refine run_region ?_)
      | refine seqQ_normal ?_ | refine blockQ_normal ?_)
      refine loopQ_view (view_erase 1) ?_
      refine loopQ_view (view_perm (List.Perm.swap _ _ _)) ?_
      exact loopQ_next (k + 1, L ++ [⟨⟨gs[k].charge, sortI gs[k].contents, gs[k].count⟩, b1, c1⟩], b', cap') ⟨by dsimp only; omega, by dsimp only; rw [normG_t hk hp, List.map_append, hL]; rfl⟩ (by dsimp only; omega) (by dsimp only; rw [blks_snoc]; rfl) ⟨rfl, rfl, rfl, rfl, rfl, nx _, trivial⟩
    · repeat' (first
      | (refine j_go ?_; first
        | refine j_op0 rfl rfl rfl rfl ?_ | (refine j_kIdx rfl ?_; first | refine j_idx rfl rfl rfl rfl rfl (by omega) rfl rfl rfl ?_) | (refine j_kBin rfl ?_; first | refine j_in rfl rfl ⟨by omega, by omega⟩ rfl rfl ?_) | (refine j_kLoad rfl ?_; first | refine j_mload 0 rfl rfl rfl rfl rfl rfl rfl ?_) | (refine j_kStore rfl ?_; first | refine j_storeN 0 rfl rfl rfl rfl rfl rfl rfl rfl rfl rfl rfl ?_) | refine j_alloc rfl rfl rfl rfl rfl (fun _ => ?_))
      | refine j_nil ?_
      | (refine r_go ?_; first | refine run_seq ?_ | refine run_region ?_ | (refine (run_if rfl (fun hb => ?_) (fun hb => ?_)) <;> first | (exfalso; omega) | skip) | refine run_block ?_ | refine run_skip ?_)
      | refine seqQ_normal ?_ | refine blockQ_normal ?_)
      exact loopQ_nextD (k + 1, L, ob, cap) ⟨by dsimp only; omega, by dsimp only; rw [normG_f hk hp, hL]⟩ (by dsimp only; omega) (List.sublist_cons_self _ _) ⟨rfl, rfl, rfl, rfl, rfl, nx _, trivial⟩
  obtain rfl : k = gs.length := by omega
  rw [List.take_length] at hL
  repeat' (first
      | (refine j_go ?_; first
        | refine j_op0 rfl rfl rfl rfl ?_)
      | refine j_nil ?_
      | (refine r_go ?_; first | refine run_seq ?_ | refine run_region ?_ | (refine (run_if rfl (fun hb => ?_) (fun hb => ?_)) <;> first | (exfalso; omega) | skip) | refine run_exit ?_)
      | refine seqQ_normal ?_ | refine seqQ_exit ?_ | refine blockQ_eq ?_ | refine loopQ_exit ?_)
  refine j_kCall rfl rfl rfl rfl ?_
  refine jcp _ (o_sortG ob cap (L.map Tri.blk).reverse L (by omega) (fun t ht => List.mem_reverse.2 (List.mem_map_of_mem ht))) (List.Perm.refl _) (LeL.refl _) rfl rfl (fun v h1 hR => ?_)
  obtain ⟨M, ⟨pM, sM⟩, rfl⟩ := hR
  have lM := pM.length_eq
  have gM : ∀ t ∈ M, 0 < t.g.count ∧ t.g.count ≤ 5000 := fun t ht => by
    have h1 : t.g ∈ normG gs := by rw [← hL]; exact List.mem_map_of_mem (pM.mem_iff.1 ht)
    unfold normG at h1
    obtain ⟨g, hg, e⟩ := List.mem_map.1 h1
    obtain ⟨hg1, hg2⟩ := List.mem_filter.1 hg
    have h3 := hc g hg1
    have h4 : 0 < g.count := by simpa using hg2
    rw [← e]; exact ⟨h4, h3.2.2⟩
  have pB : (L.map Tri.blk).reverse.Perm (M.map Tri.blk) := (List.reverse_perm _).trans (pM.symm.map _)
  repeat' (first
      | (refine j_go ?_; first
        | refine j_op0 rfl rfl rfl rfl ?_ | (refine j_kLen rfl ?_; first | refine j_op rfl rfl rfl rfl ?_))
      | refine j_nil ?_
      | (refine r_go ?_; first | refine run_seq ?_ | refine run_region ?_ | refine run_block ?_)
      | refine seqQ_normal ?_)
  refine run_view (view_perm (List.Perm.cons _ (pB.append_right _))) ?_
  refine run_view (view_none 54 (0 * 3) rfl) ?_
  rw [← lM]
  refine run_loop (fun z : Nat × List Tri × Option Nat × Nat => [(4, .op (some b4) 0), (5, .op (some b5) 0), (39, .os ob M.length cap), (40, .int M.length), (41, .int (z.1 : Int))])
    (fun z => grO z.2.2.1 z.2.2.2 z.2.1 :: grO ob cap M :: (M.map Tri.blk ++ (⟨some b5, 30, 2, [.os bs (sortI skin).length cs, .os z.2.2.1 z.2.1.length z.2.2.2]⟩ :: ⟨bs, 2, cs * 1, ((sortI skin).map Go.AI.encI).flatten⟩ :: ⟨some b4, 30, 2, [.os none 0 0, .os none 0 0]⟩ :: F)))
    (fun z => z.1 ≤ M.length ∧ GaOk M z.1 z.2.1) (fun z => M.length - z.1) (0, [], none, 0) ⟨rfl, rfl, rfl, rfl, rfl, trivial⟩ rfl ⟨Nat.zero_le _, GaOk.zero M⟩ (fun ⟨j, K, bk, ck⟩ ⟨jl, ok⟩ => ?_)
  dsimp only at jl ok ⊢
  have Kl := ok.len
  -- the colony's block stands behind the contents
  refine run_view (view_perm (h' := ⟨some b5, 30, 2, [.os bs (sortI skin).length cs, .os bk K.length ck]⟩ :: grO bk ck K :: grO ob cap M :: (M.map Tri.blk ++ (⟨bs, 2, cs * 1, ((sortI skin).map Go.AI.encI).flatten⟩ :: ⟨some b4, 30, 2, [.os none 0 0, .os none 0 0]⟩ :: F))) (List.perm_middle (l₁ := _ :: _ :: M.map Tri.blk))) ?_
  by_cases hj : j < M.length
  · have gj := gM _ (List.getElem_mem hj)
    obtain ⟨t, ht⟩ : ∃ t, t = M[j] := ⟨_, rfl⟩
    have ej : M[j] = t := ht.symm
    have tin : t.blk ∈ M.map Tri.blk := by rw [ht]; exact List.mem_map_of_mem (List.getElem_mem hj)
    refine run_some 2 rfl (grp_ne hj) (fun b0 hb0 => ?_)
    subst hb0
    rcases List.eq_nil_or_concat K with hK | ⟨U, u, hK⟩
    · subst hK
      repeat' (first
      | (refine j_go ?_; first
        | refine j_op0 rfl rfl rfl rfl ?_ | (refine j_kIdx rfl ?_; first | refine j_midx rfl rfl rfl rfl rfl (by first | omega | (simp only [List.length_append, List.length_cons, List.length_nil]; omega)) rfl rfl ?_))
      | refine j_nil ?_
      | (refine r_go ?_; first | refine run_seq ?_ | refine run_region ?_ | (refine (run_if rfl (fun hb => ?_) (fun hb => ?_)) <;> first | (exfalso; omega) | skip) | refine run_block ?_ | refine run_skip ?_)
      | refine seqQ_normal ?_)
      refine j_ldT 2 j (L := M) rfl rfl rfl rfl (by first | rfl | omega) hj ej (fun _ _ => loadSt rfl rfl) rfl rfl ?_
      repeat' (first
      | (refine j_go ?_; first
        | refine j_op0 rfl rfl rfl rfl ?_ | refine j_off rfl rfl rfl ?_ | (refine j_kBin rfl ?_; first | refine j_in rfl rfl ⟨by omega, by omega⟩ rfl rfl ?_) | (refine j_kLen rfl ?_; first | refine j_op rfl rfl rfl rfl ?_) | (refine j_kLoad rfl ?_; first | refine j_mload 0 rfl rfl rfl rfl rfl rfl rfl ?_ | refine j_mload 1 rfl rfl rfl rfl rfl rfl rfl ?_) | (refine j_kStore rfl ?_; first | refine j_storeN 0 rfl rfl rfl rfl rfl rfl rfl rfl rfl rfl rfl ?_) | (refine j_kBsl rfl ?_; first | refine j_bsl rfl rfl rfl rfl rfl rfl rfl rfl rfl rfl rfl ?_) | (refine j_kGuard rfl ?_; first | (refine (j_if rfl rfl rfl (fun hb => ?_) (fun hb => ?_)) <;> first | (exfalso; omega) | skip)) | refine j_alloc rfl rfl rfl rfl rfl (fun _ => ?_))
      | refine j_nil ?_
      | (refine r_go ?_; first | refine run_seq ?_ | refine run_region ?_ | refine run_cond_f rfl ?_ | refine run_regionD (by kernel_rfl) ?_)
      | refine seqQ_normal ?_)
      all_goals try (exfalso; simp only [List.length_nil] at *; omega)
      refine j_append 2 (g := Tri.cs) (ys := []) [t] rfl rfl rfl rfl rfl rfl rfl rfl rfl rfl rfl rfl (fun _ => rfl) (fun _ hy => by simp only [List.mem_singleton] at hy; subst hy; rfl) ⟨by simp only [List.length_cons, List.length_nil]; omega, by simp only [List.length_cons, List.length_nil]; omega⟩ rfl rfl (fun b' cap' => ?_)
      repeat' (first
      | (refine j_go ?_; first
        | refine j_op0 rfl rfl rfl rfl ?_ | (refine j_kBin rfl ?_; first | refine j_in rfl rfl ⟨by omega, by omega⟩ rfl rfl ?_) | (refine j_kStore rfl ?_; first | refine j_store 1 rfl rfl rfl rfl rfl rfl rfl rfl rfl rfl rfl ?_))
      | refine j_nil ?_
      | (refine r_go ?_; first | refine run_region ?_)
      | refine seqQ_normal ?_ | refine blockQ_normal ?_)
      refine loopQ_view (view_erase 0) ?_
      refine loopQ_view (view_perm (List.perm_middle (l₁ := _ :: _ :: M.map Tri.blk)).symm) ?_
      exact loopQ_next (j + 1, [t], b', cap') ⟨by dsimp only; omega, by
        have := ok.put sM hj gj (fun U u q => absurd q (by simp))
        rw [ej] at this; exact this⟩ (by dsimp only; omega) rfl ⟨rfl, rfl, rfl, rfl, nx _, trivial⟩
    · rw [List.concat_eq_append] at hK
      subst hK
      have lU : (U ++ [u]).length = U.length + 1 := by simp
      have gU : (U ++ [u])[U.length]'(by omega) = u := by simp
      have uin : u.blk ∈ M.map Tri.blk := by
        have h1 : u.blk ∈ (U ++ [u]).map Tri.blk := List.mem_map_of_mem (by simp)
        have h2 := ok.blk.subset h1
        rw [List.map_take] at h2
        exact List.mem_of_mem_take h2
      have c2 := c_compareGroups u.g t.g
      have hlo : ¬ Before t.g u.g := by rw [ht]; exact ok.low u (by simp) _ (List.mem_drop_iff_getElem.2 ⟨0, by omega, by simp⟩)
      refine run_some 1 rfl (grp_ne (j := U.length) (by omega)) (fun b1 hb1 => ?_)
      subst hb1
      repeat' (first
      | (refine j_go ?_; first
        | refine j_op0 rfl rfl rfl rfl ?_ | (refine j_kIdx rfl ?_; first | refine j_midx rfl rfl rfl rfl rfl (by first | omega | (simp only [List.length_append, List.length_cons, List.length_nil]; omega)) rfl rfl ?_))
      | refine j_nil ?_
      | (refine r_go ?_; first | refine run_seq ?_ | refine run_region ?_ | (refine (run_if rfl (fun hb => ?_) (fun hb => ?_)) <;> first | (exfalso; omega) | skip) | refine run_block ?_ | refine run_skip ?_)
      | refine seqQ_normal ?_)
      refine j_ldT 2 j (L := M) rfl rfl rfl rfl (by first | rfl | omega) hj ej (fun _ _ => loadSt rfl rfl) rfl rfl ?_
      repeat' (first
      | (refine j_go ?_; first
        | refine j_op0 rfl rfl rfl rfl ?_ | (refine j_kIdx rfl ?_; first | refine j_midxz rfl rfl rfl rfl rfl (by first | omega | (simp only [List.length_append, List.length_cons, List.length_nil]; omega)) rfl rfl ?_) | (refine j_kBin rfl ?_; first | refine j_in rfl rfl ⟨by omega, by omega⟩ rfl rfl ?_) | (refine j_kLen rfl ?_; first | refine j_op rfl rfl rfl rfl ?_) | (refine j_kLoad rfl ?_; first | refine j_mload 1 rfl rfl rfl rfl rfl rfl rfl ?_) | (refine j_kStore rfl ?_; first | refine j_storeN 0 rfl rfl rfl rfl rfl rfl rfl rfl rfl rfl rfl ?_) | (refine j_kGuard rfl ?_; first | (refine (j_if rfl rfl rfl (fun hb => ?_) (fun hb => ?_)) <;> first | (exfalso; omega) | skip)) | refine j_alloc rfl rfl rfl rfl rfl (fun _ => ?_))
      | refine j_nil ?_
      | (refine r_go ?_; first | refine run_seq ?_ | refine run_region ?_ | refine run_regionD (by kernel_rfl) ?_)
      | refine seqQ_normal ?_)
      all_goals try (exfalso; omega)
      refine j_ldT 2 U.length (L := U ++ [u]) rfl rfl rfl rfl (by first | rfl | omega) (by omega) gU (fun _ _ => loadSt rfl rfl) rfl rfl ?_
      repeat' (first
      | (refine j_go ?_; first
        | (refine j_kLoad rfl ?_; first | refine j_mload 0 rfl rfl rfl rfl rfl rfl rfl ?_)))
      by_cases hbf : Before u.g t.g
      · rw [cmp3_l hbf] at c2
        refine j_kCall rfl rfl rfl rfl ?_
        refine jctq (M.map Tri.blk) c2 (Clo.int _) (fun k hk => List.mem_cons_of_mem _ (List.mem_cons_of_mem _ (List.mem_cons_of_mem _ (List.mem_cons_of_mem _ (List.mem_append_left _ hk))))) (fz_cmp uin tin) rfl rfl ?_
        repeat' (first
      | (refine j_go ?_; first
        | refine j_op0 rfl rfl rfl rfl ?_ | (refine j_kLoad rfl ?_; first | refine j_mload 0 rfl rfl rfl rfl rfl rfl rfl ?_ | refine j_mload 1 rfl rfl rfl rfl rfl rfl rfl ?_) | (refine j_kBsl rfl ?_; first | refine j_bsl rfl rfl rfl rfl rfl rfl rfl rfl rfl rfl rfl ?_))
      | refine j_nil ?_
      | (refine r_go ?_; first | refine run_region ?_ | (refine (run_if rfl (fun hb => ?_) (fun hb => ?_)) <;> first | (exfalso; omega) | skip))
      | refine seqQ_normal ?_)
        refine j_append 2 (g := Tri.cs) (ys := U ++ [u]) [t] rfl rfl rfl rfl rfl rfl rfl rfl rfl rfl rfl rfl (fun _ => rfl) (fun _ hy => by simp only [List.mem_singleton] at hy; subst hy; rfl) ⟨by simp only [List.length_cons, List.length_nil]; omega, by simp only [List.length_cons, List.length_nil]; omega⟩ rfl rfl (fun b' cap' => ?_)
        repeat' (first
      | (refine j_go ?_; first
        | refine j_op0 rfl rfl rfl rfl ?_ | (refine j_kBin rfl ?_; first | refine j_in rfl rfl ⟨by omega, by omega⟩ rfl rfl ?_) | (refine j_kStore rfl ?_; first | refine j_store 1 rfl rfl rfl rfl rfl rfl rfl rfl rfl rfl rfl ?_))
      | refine j_nil ?_
      | (refine r_go ?_; first | refine run_region ?_)
      | refine seqQ_normal ?_ | refine blockQ_normal ?_)
        refine loopQ_view (view_erase 0) ?_
        refine loopQ_view (view_perm (List.perm_middle (l₁ := _ :: _ :: M.map Tri.blk)).symm) ?_
        exact loopQ_next (j + 1, U ++ [u] ++ [t], b', cap') ⟨by dsimp only; omega, by
          have := ok.put sM hj gj (fun U2 u2 q => by
            have := List.append_inj_right' q rfl
            have e : u = u2 := by simpa using this
            rw [ej, ← e]; exact hbf)
          rw [ej] at this; exact this⟩ (by dsimp only; omega) rfl ⟨rfl, rfl, rfl, rfl, nx _, trivial⟩
      · rw [cmp3_e hbf hlo] at c2
        refine j_kCall rfl rfl rfl rfl ?_
        refine jctq (M.map Tri.blk) c2 (Clo.int _) (fun k hk => List.mem_cons_of_mem _ (List.mem_cons_of_mem _ (List.mem_cons_of_mem _ (List.mem_cons_of_mem _ (List.mem_append_left _ hk))))) (fz_cmp uin tin) rfl rfl ?_
        have fl := flat_len (f := Tri.cs) (z := 3) (fun _ => rfl) (U ++ [u])
        have eV : ((U ++ [u]).map Tri.cs).flatten = (((U ++ [u]).map Tri.cs).flatten.map fun a => [a]).flatten := (sing_flat _).symm
        have gv := get_cntT u U (by omega)
        have cu := ok.cnt u (by simp)
        have eT : t.g.count = M[j].g.count := by rw [ht]
        have put := ok.add hj gj (by rw [ej]; exact hbf) (u' := ⟨⟨u.g.charge, u.g.contents, u.g.count + t.g.count⟩, u.b, u.cap⟩) (by rw [ej])
        repeat' (first
      | (refine j_go ?_; first
        | refine j_op0 rfl rfl rfl rfl ?_)
      | refine j_nil ?_
      | (refine j_goO ?_; first
        | refine j_op0O rfl rfl rfl rfl ?_ | (refine j_kIdxO rfl ?_; first | refine j_midxzO rfl rfl rfl rfl rfl (by first | omega | (simp only [List.length_append, List.length_cons, List.length_nil]; omega)) rfl rfl ?_) | (refine j_kLoadO rfl ?_; first | refine j_mloadO 1 rfl rfl rfl rfl rfl rfl rfl rfl ?_))
      | (refine r_go ?_; first | (refine (run_if rfl (fun hb => ?_) (fun hb => ?_)) <;> first | (exfalso; omega) | skip) | refine run_opn 15 [⟨0, true, false, 0⟩, ⟨1, true, false, 0⟩, ⟨2, true, false, 0⟩, ⟨3, true, false, 0⟩, ⟨4, true, false, 0⟩, ⟨5, true, false, 0⟩, ⟨6, true, false, 0⟩, ⟨7, true, false, 0⟩, ⟨8, true, false, 0⟩, ⟨9, true, false, 0⟩, ⟨10, true, false, 0⟩, ⟨11, false, true, 0⟩] rfl rfl (by kernel_rfl) ?_)
      | refine seqQ_normal ?_)
        refine j_mloadEO 2 (U.length * 3 + 2) (g := fun a => [a]) (L := ((U ++ [u]).map Tri.cs).flatten) (z := 1) rfl rfl rfl rfl (by rw [← eV]; rfl) (fun _ => rfl) (by omega) (by omega) (fun _ => by rw [gv]; rfl) rfl rfl ?_
        repeat' (first
      | (refine j_goO ?_; first
        | refine j_op0O rfl rfl rfl rfl ?_ | (refine j_kIdxO rfl ?_; first | refine j_midxzO rfl rfl rfl rfl rfl (by first | omega | (simp only [List.length_append, List.length_cons, List.length_nil]; omega)) rfl rfl ?_) | (refine j_kBinO rfl ?_; first | refine j_inO rfl rfl ⟨by omega, by omega⟩ rfl rfl ?_) | (refine j_kLoadO rfl ?_; first | refine j_mloadO 0 rfl rfl rfl rfl rfl rfl rfl rfl ?_)))
        refine j_storeEO 2 (U.length * 3 + 2) (g := fun a => [a]) (L := ((U ++ [u]).map Tri.cs).flatten) (A.int (u.g.count + t.g.count)) rfl rfl rfl rfl rfl rfl (by rw [← eV]; rfl) rfl rfl rfl (fun _ => rfl) (by omega) (by omega) (fun _ hk => nomatch hk) ?_
        repeat' (first
      | (refine j_go ?_; first
        | refine j_op0 rfl rfl rfl rfl ?_ | (refine j_kBin rfl ?_; first | refine j_in rfl rfl ⟨by omega, by omega⟩ rfl rfl ?_))
      | refine j_nil ?_
      | refine j_nilO ?_
      | (refine r_go ?_; first | refine run_region ?_)
      | refine seqQ_normal ?_ | refine blockQ_normal ?_)
        refine loopQ_view (view_erase 0) ?_
        refine loopQ_view (view_perm (List.perm_middle (l₁ := _ :: _ :: M.map Tri.blk)).symm) ?_
        exact loopQ_next (j + 1, U ++ [⟨⟨u.g.charge, u.g.contents, u.g.count + t.g.count⟩, u.b, u.cap⟩], some b1, ck) ⟨by dsimp only; omega, put⟩ (by dsimp only; omega) (by dsimp only [grO]; rw [← set_cntT u (u.g.count + t.g.count) U, sing_flat]; simp only [List.length_append]; rfl) ⟨rfl, rfl, rfl, rfl, nx _, trivial⟩
  obtain rfl : j = M.length := by omega
  have oa := ok.agg
  have ob' := ok.blk
  rw [List.take_length] at oa ob'
  refine run_view (view_perm (h' := ⟨some b4, 30, 2, [.os none 0 0, .os none 0 0]⟩ :: ⟨some b5, 30, 2, [.os bs (sortI skin).length cs, .os bk K.length ck]⟩ :: grO bk ck K :: grO ob cap M :: (M.map Tri.blk ++ (⟨bs, 2, cs * 1, ((sortI skin).map Go.AI.encI).flatten⟩ :: F))) (by
    have := List.perm_middle (a := (⟨some b4, 30, 2, [.os none 0 0, .os none 0 0]⟩ : Blk)) (l₁ := ⟨some b5, 30, 2, [.os bs (sortI skin).length cs, .os bk K.length ck]⟩ :: grO bk ck K :: grO ob cap M :: (M.map Tri.blk ++ [⟨bs, 2, cs * 1, ((sortI skin).map Go.AI.encI).flatten⟩])) (l₂ := F)
    simpa only [List.cons_append, List.append_assoc, List.nil_append] using this)) ?_
  repeat' (first
      | (refine j_go ?_; first
        | refine j_op0 rfl rfl rfl rfl ?_ | (refine j_kLoad rfl ?_; first | refine j_mload 1 rfl rfl rfl rfl rfl rfl rfl ?_) | (refine j_kStore rfl ?_; first | refine j_storeN 0 rfl rfl rfl rfl rfl rfl rfl rfl rfl rfl rfl ?_))
      | refine j_nil ?_
      | (refine r_go ?_; first | refine run_seq ?_ | refine run_region ?_ | (refine (run_if rfl (fun hb => ?_) (fun hb => ?_)) <;> first | (exfalso; omega) | skip) | refine run_ret ?_ | refine run_exit ?_)
      | refine seqQ_normal ?_ | refine seqQ_exit ?_ | refine blockQ_eq ?_ | refine loopQ_exit ?_)
  refine endD_view (view_freezeP 0 4 rfl rfl) ?_
  refine endD_view (view_sub (h0 := grO bk ck K :: (K.map Tri.blk ++ (⟨bs, 2, cs * 1, ((sortI skin).map Go.AI.encI).flatten⟩ :: F))) ?_) ?_
  · exact List.Sublist.cons _ (List.Sublist.cons_cons _ (List.Sublist.cons _ (ob'.append (List.Sublist.refl _))))
  refine endD_view (view_perm (h' := ⟨bs, 2, cs * 1, ((sortI skin).map Go.AI.encI).flatten⟩ :: grO bk ck K :: (K.map Tri.blk ++ F)) (List.perm_middle (l₁ := _ :: K.map Tri.blk))) ?_
  exact endD_ret (h1 := _ :: _ :: K.map Tri.blk) rfl (.cons (.cellI rfl rfl) .nil) (Le.refl _) ⟨K.map Tri.g, oa.perm (by rw [← hL]; exact pM.map _), _, [_], .inl ⟨bs, cs, rfl, rfl⟩, _, _, own_groups bk ck K, rfl, rfl⟩ (.inl rfl)
end Go.Proofs.YtbhiaccbpbnbmaaGreat

/-
  GatherColony of the reference. No condition.
-/
namespace Go.Proofs.YtbhiaccbpbnbmaaGreat
open Go.AI
set_option maxRecDepth 8000
set_option maxHeartbeats 3200000

/-- The groups brought together one by one. -/
noncomputable def ksG (gs : List Group) : List Group := (normG gs).foldl insM []
theorem agg_fold : ∀ (l a ks : List Group), (∀ g ∈ l, 0 < g.count ∧ g.charge ≤ 1) → Agg a ks → Agg (a ++ l) (l.foldl insM ks)
  | [], a, ks, _, h => by rw [List.append_nil]; exact h
  | x :: l, a, ks, hl, h => by
    have := agg_fold l (a ++ [x]) (insM ks x) (fun g hg => hl g (List.mem_cons_of_mem _ hg)) (h.ins (hl x List.mem_cons_self).1 (hl x List.mem_cons_self).2)
    rw [List.append_assoc] at this
    exact this
/-- A group is in order for a system of so many objects. -/
def GrpOk (o : Int) (g : Group) : Prop := (-1 ≤ g.charge ∧ g.charge ≤ 1) ∧ (0 ≤ g.count ∧ g.count ≤ 5000) ∧ ObjsIn o g.contents
theorem normG_mem {o : Int} {gs : List Group} (h : ∀ g ∈ gs, GrpOk o g) : ∀ g ∈ normG gs, 0 < g.count ∧ g.count ≤ 5000 ∧ g.charge ≤ 1 := fun g hg => by
  unfold normG at hg
  obtain ⟨x, hx, rfl⟩ := List.mem_map.1 hg
  obtain ⟨h1, h2⟩ := List.mem_filter.1 hx
  have h3 := h x h1
  have h4 : 0 < x.count := by simpa using h2
  exact ⟨h4, h3.2.1.2, h3.1.2⟩
theorem ksG_agg {o : Int} {gs : List Group} (h : ∀ g ∈ gs, GrpOk o g) : Agg (normG gs) (ksG gs) := by
  have := agg_fold (normG gs) [] [] (fun g hg => ⟨(normG_mem h g hg).1, (normG_mem h g hg).2.2⟩) Agg.nil
  rw [List.nil_append] at this; exact this
def GoodC (d : Division) (skin : List Int) (gs : List Group) : Prop := ObjsIn d.objects skin ∧ ∀ g ∈ gs, GrpOk d.objects g
noncomputable def colG (skin : List Int) (gs : List Group) : Colony := ⟨sortI skin, ksG gs⟩
open Classical in
noncomputable def resGatherColony (d : Division) (skin : List Int) (gs : List Group) : Colony := if d.Valid ∧ GoodC d skin gs ∧ (colG skin gs).Ok d.objects then colG skin gs else ⟨[], []⟩
noncomputable def codeGatherColony (d : Division) (skin : List Int) (gs : List Group) : Int := cdG d.Valid (GoodC d skin gs) ((colG skin gs).Ok d.objects)
theorem rg_t {d : Division} {skin : List Int} {gs : List Group} (h : d.Valid ∧ GoodC d skin gs ∧ (colG skin gs).Ok d.objects) : resGatherColony d skin gs = colG skin gs := if_pos h
theorem rg_f {d : Division} {skin : List Int} {gs : List Group} (h : ¬ (d.Valid ∧ GoodC d skin gs ∧ (colG skin gs).Ok d.objects)) : resGatherColony d skin gs = ⟨[], []⟩ := if_neg h
end Go.Proofs.YtbhiaccbpbnbmaaGreat
