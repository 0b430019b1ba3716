/-
  GatherColony of the reference. No condition.
-/
import Derived.Test.YtandldhceabdiaaZS7x
import Derived.Test.YtandldhceabdiaaZVC
import Derived.Test.YtandldhceabdiaaZG7
namespace Go.Proofs.Ytandldhceabdiaa
open Go.AI
set_option maxRecDepth 8000
set_option maxHeartbeats 3200000

/-- The groups brought together one by one. -/
noncomputable def ksG (gs : List Group) : List Group := (normG gs).foldl insM []
theorem agg_fold : ∀ (l a ks : List Group), (∀ g ∈ l, 0 < g.count ∧ g.charge ≤ 1) → Agg a ks → Agg (a ++ l) (l.foldl insM ks)
  | [], a, ks, _, h => by rw [List.append_nil]; exact h
  | x :: l, a, ks, hl, h => by
    have := agg_fold l (a ++ [x]) (insM ks x) (fun g hg => hl g (List.mem_cons_of_mem _ hg)) (h.ins (hl x List.mem_cons_self).1 (hl x List.mem_cons_self).2)
    rw [List.append_assoc] at this
    exact this
theorem fold_len : ∀ (l ks : List Group), ks.length ≤ (l.foldl insM ks).length
  | [], ks => Nat.le_refl _
  | x :: l, ks => Nat.le_trans (insM_len2 ks x) (fold_len l (insM ks x))
theorem normG_app (a b : List Group) : normG (a ++ b) = normG a ++ normG b := by unfold normG; rw [List.filter_append, List.map_append]
/-- A group is in order for a system of so many objects. -/
def GrpOk (o : Int) (g : Group) : Prop := (-1 ≤ g.charge ∧ g.charge ≤ 1) ∧ (0 ≤ g.count ∧ g.count ≤ 5000) ∧ ObjsIn o g.contents
theorem normG_mem {o : Int} {gs : List Group} (h : ∀ g ∈ gs, GrpOk o g) : ∀ g ∈ normG gs, 0 < g.count ∧ g.count ≤ 5000 ∧ g.charge ≤ 1 := fun g hg => by
  unfold normG at hg
  obtain ⟨x, hx, rfl⟩ := List.mem_map.1 hg
  obtain ⟨h1, h2⟩ := List.mem_filter.1 hx
  have h3 := h x h1
  have h4 : 0 < x.count := by simpa using h2
  exact ⟨h4, h3.2.1.2, h3.1.2⟩
theorem ksG_agg {o : Int} {gs : List Group} (h : ∀ g ∈ gs, GrpOk o g) : Agg (normG gs) (ksG gs) := by
  have := agg_fold (normG gs) [] [] (fun g hg => ⟨(normG_mem h g hg).1, (normG_mem h g hg).2.2⟩) Agg.nil
  rw [List.nil_append] at this; exact this
theorem ksG_t {gs : List Group} {k : Nat} (hk : k < gs.length) (h : 0 < gs[k].count) : ksG (gs.take (k + 1)) = insM (ksG (gs.take k)) ⟨gs[k].charge, sortI gs[k].contents, gs[k].count⟩ := by
  unfold ksG; rw [normG_t hk h, List.foldl_append]; rfl
theorem ksG_f {gs : List Group} {k : Nat} (hk : k < gs.length) (h : ¬ 0 < gs[k].count) : ksG (gs.take (k + 1)) = ksG (gs.take k) := by
  unfold ksG; rw [normG_f hk h]
theorem ksG_mono (gs : List Group) (k : Nat) : (ksG (gs.take k)).length ≤ (ksG gs).length := by
  have e : normG gs = normG (gs.take k) ++ normG (gs.drop k) := by rw [← normG_app, List.take_append_drop]
  unfold ksG
  rw [e, List.foldl_append]
  exact fold_len _ _
theorem sumN_mono {o : Int} {gs : List Group} (h : ∀ g ∈ gs, GrpOk o g) (k : Nat) : sumF Group.count (normG (gs.take k)) ≤ sumF Group.count (normG gs) := by
  have e : normG gs = normG (gs.take k) ++ normG (gs.drop k) := by rw [← normG_app, List.take_append_drop]
  have := sumF_nn Group.count (normG (gs.drop k)) (fun x hx => by have := normG_mem (fun g hg => h g (List.mem_of_mem_drop hg)) x hx; omega)
  rw [e, sumF_ap2]; omega
theorem le_sumF : ∀ (l : List Group), (∀ x ∈ l, 0 < x.count) → ∀ x ∈ l, x.count ≤ sumF Group.count l
  | [], _, x, h => absurd h (by simp)
  | y :: l, hp, x, h => by
    have h1 := sumF_nn Group.count l (fun z hz => by have := hp z (List.mem_cons_of_mem _ hz); omega)
    have h2 := hp y List.mem_cons_self
    simp only [sumF]
    rcases List.mem_cons.1 h with rfl | h
    · omega
    · have := le_sumF l (fun z hz => hp z (List.mem_cons_of_mem _ hz)) x h
      omega
theorem sumN_t {gs : List Group} {k : Nat} (hk : k < gs.length) (h : 0 < gs[k].count) : sumF Group.count (normG (gs.take (k + 1))) = sumF Group.count (normG (gs.take k)) + gs[k].count := by
  rw [normG_t hk h, sumF_app]
theorem sumN_nn {o : Int} {gs : List Group} (h : ∀ g ∈ gs, GrpOk o g) (k : Nat) : 0 ≤ sumF Group.count (normG (gs.take k)) :=
  sumF_nn _ _ fun x hx => by have := normG_mem (fun g hg => h g (List.mem_of_mem_take hg)) x hx; omega
def GoodC (d : Division) (skin : List Int) (gs : List Group) : Prop := ObjsIn d.objects skin ∧ ∀ g ∈ gs, GrpOk d.objects g
noncomputable def colG (skin : List Int) (gs : List Group) : Colony := ⟨sortI skin, ksG gs⟩
open Classical in
noncomputable def resGatherColony (d : Division) (skin : List Int) (gs : List Group) : Colony := if d.Valid ∧ GoodC d skin gs ∧ (colG skin gs).Ok d.objects then colG skin gs else ⟨[], []⟩
noncomputable def codeGatherColony (d : Division) (skin : List Int) (gs : List Group) : Int := cdG d.Valid (GoodC d skin gs) ((colG skin gs).Ok d.objects)
theorem rg_t {d : Division} {skin : List Int} {gs : List Group} (h : d.Valid ∧ GoodC d skin gs ∧ (colG skin gs).Ok d.objects) : resGatherColony d skin gs = colG skin gs := if_pos h
theorem rg_f {d : Division} {skin : List Int} {gs : List Group} (h : ¬ (d.Valid ∧ GoodC d skin gs ∧ (colG skin gs).Ok d.objects)) : resGatherColony d skin gs = ⟨[], []⟩ := if_neg h
theorem c_sGatherColony (d : Division) (skin : List Int) (gs : List Group) (hs : skin.length ≤ 1048576) (hl : gs.length ≤ 1048576) (hcl : ∀ g ∈ gs, g.contents.length ≤ 1048576) : Gives Try.prog 35 [.agg (encDivision d), .sl (skin.map Go.AI.encI), .sl (gs.map encGroup)] (.tup [.agg (encColony (resGatherColony d skin gs)), .int (codeGatherColony d skin gs)]) := by
  refine fn_of_run tyOk ztOk mix Try.func35 rfl (by decide) Try.ntmps35 (fun w0 h => ?_)
  unfold codeGatherColony
  repeat' (first
      | (refine j_go ?_; first
        | refine j_op0 rfl rfl rfl rfl ?_ | (refine j_kCall rfl rfl rfl rfl ?_; first | refine jc (c_l07Ok _) (LeL.refl _) rfl rfl ?_) | (refine j_kStore rfl ?_; first | refine j_storeN 0 rfl rfl rfl rfl rfl rfl rfl rfl rfl rfl rfl ?_) | refine j_box rfl rfl rfl rfl rfl rfl ?_ | refine j_build rfl rfl rfl rfl rfl rfl rfl ?_ | refine j_alloc rfl rfl rfl rfl rfl (fun _ => ?_))
      | refine j_nil ?_
      | (refine r_go ?_; first | refine run_seq ?_ | refine run_region ?_ | (refine (run_ifn rfl (fun hb => ?_) (fun hb => ?_)) <;> first | (exfalso; omega) | skip) | refine run_ret ?_ | refine run_skip ?_)
      | refine seqQ_normal ?_ | refine seqQ_ret ?_)
  · rw [rg_f (fun q => hb q.1), cdG_f hb]
    refine end_view (view_freezeP 0 6 rfl rfl) (end_le (List.Sublist.refl _) (vs := [_, _]) (.cons (.cellI rfl rfl) (.cons (.tmp rfl) .nil)) (Le.tup2 (Le.agg (LeL.cons (Le.nil 0) (LeL.cons (Le.nil 0) LeL.nil)))) (.inl rfl))
  have hv := hb
  have hd := hv.1
  repeat' (first
      | (refine j_go ?_; first
        | refine j_op0 rfl rfl rfl rfl ?_ | (refine j_kCall rfl rfl rfl rfl ?_; first | refine jc (c_l07Objects _ _ hd) (LeL.refl _) rfl rfl ?_))
      | refine j_nil ?_
      | (refine r_go ?_; first | refine run_seq ?_ | refine run_region ?_ | refine run_block ?_)
      | refine seqQ_normal ?_)
  rename_i b6
  refine run_loop (fun k : Nat => [(1, .sl (skin.map Go.AI.encI)), (2, .sl (gs.map encGroup)), (3, .ip (encDivision d)), (6, .op (some b6) 0), (8, .raw (.bool (dec (ObjsIn d.objects skin ∧ ∀ i (h : i < gs.length), i < k → GrpOk d.objects gs[i])))), (9, .int (k : Int))])
    (fun _ => ⟨some b6, 70, 2, [.os none 0 0, .os none 0 0]⟩ :: h) (fun k => k ≤ gs.length) (fun k => gs.length - k) 0 ⟨rfl, rfl, rfl, rfl, congrArg some (rbD ⟨fun q => ⟨q, fun i _ r => absurd r (Nat.not_lt_zero _)⟩, fun q => q.1⟩), rfl, trivial⟩ rfl (Nat.zero_le _) (fun k kl => ?_)
  by_cases hk : k < gs.length
  · have tr : ∀ {b : Bool}, (b = true ↔ (ObjsIn d.objects skin ∧ ∀ i (h : i < gs.length), i < k + 1 → GrpOk d.objects gs[i])) → some (A.raw (.bool b)) = some (A.raw (.bool (dec (ObjsIn d.objects skin ∧ ∀ i (h : i < gs.length), i < k + 1 → GrpOk d.objects gs[i])))) := fun {b} q => by
      cases b with
      | true => rw [dec_t (q.1 rfl)]
      | false => rw [dec_f fun z => absurd (q.2 z) (by decide)]
    by_cases hP : ObjsIn d.objects skin ∧ ∀ i (h : i < gs.length), i < k → GrpOk d.objects gs[i]
    · rw [dec_t hP]
      repeat' (first
      | (refine j_go ?_; first
        | refine j_op0 rfl rfl rfl rfl ?_ | refine j_off rfl rfl rfl ?_ | (refine j_kIdx rfl ?_; first | refine j_idx rfl rfl rfl rfl rfl (by omega) rfl rfl rfl ?_) | (refine j_kBin rfl ?_; first | refine j_in rfl rfl ⟨by omega, by omega⟩ rfl rfl ?_) | (refine j_kLen rfl ?_; first | refine j_len rfl rfl rfl rfl rfl rfl ?_) | (refine j_kCall rfl rfl rfl rfl ?_; first | refine jc (c_l07Charge _) (LeL.refl _) rfl rfl ?_ | refine jc (c_l00In _ _ _) (LeL.refl _) rfl rfl ?_ | refine jc (c_l07Objects _ _ hd) (LeL.refl _) rfl rfl ?_) | (refine j_kGuard rfl ?_; first | (refine (j_if rfl rfl rfl (fun hb => ?_) (fun hb => ?_)) <;> first | (exfalso; omega) | skip)))
      | refine j_nil ?_
      | (refine r_go ?_; first | refine run_seq ?_ | refine run_region ?_ | (refine (run_if rfl (fun hb => ?_) (fun hb => ?_)) <;> first | (exfalso; omega) | skip) | refine run_block ?_ | refine run_skip ?_ | refine run_regionD (by kernel_rfl) ?_)
      | refine seqQ_normal ?_ | refine blockQ_normal ?_)
      all_goals first
        | exact loopQ_next (k + 1) (by omega) (by omega) rfl ⟨rfl, rfl, rfl, rfl, tr ⟨fun q => ⟨hP.1, all_step hP.2 (fun _ => ⟨by assumption, by assumption, by first | exact dec_iff.1 q | assumption⟩)⟩, fun q => by first | rfl | exact dec_t (q.2 k hk (by omega)).2.2⟩, nx _, trivial⟩
        | exact loopQ_next (k + 1) (by omega) (by omega) rfl ⟨rfl, rfl, rfl, rfl, tr ⟨fun q => absurd q (by decide), fun q => absurd (q.2 k hk (by omega)) (fun z => by first | exact hb z.1 | exact hb z.2.1 | exact hb z.2.2)⟩, nx _, trivial⟩
        | trace_state
    · rw [dec_f hP]
      repeat' (first
      | (refine j_go ?_; first
        | refine j_op0 rfl rfl rfl rfl ?_ | refine j_off rfl rfl rfl ?_ | (refine j_kIdx rfl ?_; first | refine j_idx rfl rfl rfl rfl rfl (by omega) rfl rfl rfl ?_) | (refine j_kBin rfl ?_; first | refine j_in rfl rfl ⟨by omega, by omega⟩ rfl rfl ?_) | (refine j_kLen rfl ?_; first | refine j_len rfl rfl rfl rfl rfl rfl ?_))
      | refine j_nil ?_
      | (refine r_go ?_; first | refine run_seq ?_ | refine run_region ?_ | (refine (run_if rfl (fun hb => ?_) (fun hb => ?_)) <;> first | (exfalso; omega) | skip) | refine run_block ?_ | refine run_skip ?_ | refine run_regionD (by kernel_rfl) ?_)
      | refine seqQ_normal ?_ | refine blockQ_normal ?_)
      exact loopQ_next (k + 1) (by omega) (by omega) rfl ⟨rfl, rfl, rfl, rfl, tr ⟨fun q => absurd q (by decide), fun q => absurd ⟨q.1, fun i h r => q.2 i h (by omega)⟩ hP⟩, nx _, trivial⟩
  obtain rfl : k = gs.length := by omega
  repeat' (first
      | (refine j_go ?_; first
        | refine j_op0 rfl rfl rfl rfl ?_ | (refine j_kLen rfl ?_; first | refine j_len rfl rfl rfl rfl rfl rfl ?_) | (refine j_kStore rfl ?_; first | refine j_storeN 0 rfl rfl rfl rfl rfl rfl rfl rfl rfl rfl rfl ?_) | refine j_build rfl rfl rfl rfl rfl rfl rfl ?_)
      | refine j_nil ?_
      | (refine r_go ?_; first | refine run_seq ?_ | refine run_region ?_ | (refine (run_if rfl (fun hb => ?_) (fun hb => ?_)) <;> first | (exfalso; omega) | skip) | (refine (run_ifn rfl (fun hb => ?_) (fun hb => ?_)) <;> first | (exfalso; omega) | skip) | refine run_ret ?_ | refine run_exit ?_ | refine run_skip ?_)
      | refine seqQ_normal ?_ | refine seqQ_ret ?_ | refine seqQ_exit ?_ | refine blockQ_eq ?_ | refine loopQ_exit ?_)
  · have hg : ¬ GoodC d skin gs := fun q => hb ⟨q.1, fun i h _ => q.2 _ (List.getElem_mem h)⟩
    rw [rg_f (fun q => hg q.2.1), cdG_r hv hg]
    exact end_view (view_freezeP 0 6 rfl rfl) (end_le (List.Sublist.refl _) (vs := [_, _]) (.cons (.cellI rfl rfl) (.cons (.tmp rfl) .nil)) (Le.tup2 (Le.agg (LeL.cons (Le.nil 0) (LeL.cons (Le.nil 0) LeL.nil)))) (.inl rfl))
  have hG : ∀ g ∈ gs, GrpOk d.objects g := fun g hg => by
    obtain ⟨i, hi, rfl⟩ := List.getElem_of_mem hg
    exact hb.2 i hi hi
  have hg : GoodC d skin gs := ⟨hb.1, hG⟩
  have cS := c_l07Sorted d.objects skin hd (by omega) hg.1
  rw [srt_sort hd.1 hg.1] at cS
  repeat' (first
      | (refine j_go ?_; first
        | refine j_op0 rfl rfl rfl rfl ?_ | (refine j_kCall rfl rfl rfl rfl ?_; first | refine jc (cS) (LeL.refl _) rfl rfl ?_) | (refine j_kStore rfl ?_; first | refine j_storeN 0 rfl rfl rfl rfl rfl rfl rfl rfl rfl rfl rfl ?_) | refine j_build rfl rfl rfl rfl rfl rfl rfl ?_ | refine j_alloc rfl rfl rfl rfl rfl (fun _ => ?_))
      | refine j_nil ?_
      | (refine r_go ?_; first | refine run_seq ?_ | refine run_region ?_ | refine run_block ?_)
      | refine seqQ_normal ?_)
  rename_i b11
  refine run_view (view_none 130 (0 * 3) rfl) ?_
  refine run_loop (fun z : Nat × Option Nat × Nat => [(2, .sl (gs.map encGroup)), (3, .ip (encDivision d)), (6, .op (some b6) 0), (11, .op (some b11) 0), (12, .int (sumF Group.count (normG (gs.take z.1)))), (13, .int (z.1 : Int))])
    (fun z => ⟨z.2.1, 130, z.2.2 * 3, ((ksG (gs.take z.1)).map encGroup).flatten⟩ :: ⟨some b11, 70, 2, [.sl ((sortI skin).map Go.AI.encI), .os z.2.1 (ksG (gs.take z.1)).length z.2.2]⟩ :: ⟨some b6, 70, 2, [.os none 0 0, .os none 0 0]⟩ :: h)
    (fun z => z.1 ≤ gs.length ∧ sumF Group.count (normG (gs.take z.1)) ≤ 5000 ∧ (ksG (gs.take z.1)).length ≤ 201) (fun z => gs.length - z.1) (0, none, 0) ⟨rfl, rfl, rfl, rfl, rfl, rfl, trivial⟩ rfl ⟨Nat.zero_le _, show (0 : Int) ≤ 5000 by decide, show 0 ≤ 201 by decide⟩ (fun ⟨k, b, cap⟩ ⟨kl, hsum, hlen⟩ => ?_)
  dsimp only at kl hsum hlen ⊢
  have s0 := sumN_nn hG k
  have ag := ksG_agg (o := d.objects) (gs := gs.take k) (fun g h => hG g (List.mem_of_mem_take h))
  have hcnt : ∀ x ∈ ksG (gs.take k), 0 ≤ x.count ∧ x.count ≤ 1000000000000 := fun x hx => by
    have h1 := ag.pos x hx
    have h2 := le_sumF _ ag.pos x hx
    have h3 := ag.sum
    omega
  have il := insM_len (ksG (gs.take k))
  by_cases hk : k < gs.length
  · have hgk := hG _ (List.getElem_mem hk)
    have hcl2 := hcl _ (List.getElem_mem hk)
    have cK := c_l07Sorted d.objects gs[k].contents hd (by omega) hgk.2.2
    rw [srt_sort hd.1 hgk.2.2] at cK
    have ch := hgk.1
    have ct := hgk.2.1
    have aS := (ksG_agg hG).sum
    have mo := sumN_mono hG (k + 1)
    have ml := ksG_mono gs k
    by_cases hp : 0 < gs[k].count
    · have sn := sumN_t hk hp
      repeat' (first
      | (refine j_go ?_; first
        | refine j_op0 rfl rfl rfl rfl ?_ | refine j_off rfl rfl rfl ?_ | (refine j_kIdx rfl ?_; first | refine j_idx rfl rfl rfl rfl rfl (by omega) rfl rfl rfl ?_) | (refine j_kBin rfl ?_; first | refine j_in rfl rfl ⟨by omega, by omega⟩ rfl rfl ?_) | (refine j_kLen rfl ?_; first | refine j_len rfl rfl rfl rfl rfl rfl ?_ | refine j_op rfl rfl rfl rfl ?_) | (refine j_kLoad rfl ?_; first | refine j_mload 1 rfl rfl rfl rfl rfl rfl rfl ?_) | (refine j_kStore rfl ?_; first | refine j_storeN 2 rfl rfl rfl rfl rfl rfl rfl rfl rfl rfl rfl ?_) | (refine j_kGuard rfl ?_; first | (refine (j_if rfl rfl rfl (fun hb => ?_) (fun hb => ?_)) <;> first | (exfalso; omega) | skip)) | refine j_build rfl rfl rfl rfl rfl rfl rfl ?_)
      | refine j_nil ?_
      | (refine j_goO ?_; first
        | refine j_op0O rfl rfl rfl rfl ?_ | (refine j_kIdxO rfl ?_; first | refine j_idxO rfl rfl rfl rfl rfl (by omega) rfl rfl rfl ?_) | (refine j_kCallO rfl rfl rfl rfl ?_; first | refine jcO (cK) (LeL.refl _) rfl rfl ?_) | (refine j_kLoadO rfl ?_; first | refine j_mloadO 1 rfl rfl rfl rfl rfl rfl rfl rfl ?_) | refine j_buildO rfl rfl rfl rfl rfl rfl rfl ?_)
      | (refine r_go ?_; first | refine run_seq ?_ | refine run_region ?_ | refine run_cond_t rfl ?_ | (refine (run_if rfl (fun hb => ?_) (fun hb => ?_)) <;> first | (exfalso; omega) | skip) | refine run_block ?_ | refine run_ret ?_ | refine run_skip ?_ | refine run_opn 20 [⟨0, true, false, 0⟩, ⟨1, true, false, 0⟩, ⟨2, true, false, 0⟩, ⟨3, true, false, 0⟩, ⟨4, true, false, 0⟩, ⟨5, true, false, 0⟩, ⟨6, true, false, 0⟩, ⟨7, true, false, 0⟩, ⟨8, true, false, 0⟩, ⟨9, true, false, 0⟩, ⟨10, true, false, 0⟩, ⟨11, true, false, 0⟩, ⟨12, true, false, 0⟩, ⟨13, true, false, 0⟩, ⟨14, true, false, 0⟩, ⟨15, true, false, 0⟩, ⟨16, true, false, 0⟩, ⟨17, true, false, 0⟩, ⟨18, true, false, 0⟩, ⟨19, true, false, 0⟩, ⟨20, true, false, 0⟩, ⟨21, false, true, 0⟩, ⟨22, true, false, 0⟩, ⟨23, false, true, 0⟩] rfl rfl (by kernel_rfl) ?_)
      | refine seqQ_normal ?_ | refine seqQ_ret ?_ | refine blockQ_ret ?_ | refine loopQ_ret ?_)
      all_goals try
        first
        | (have hn : ¬ (colG skin gs).Ok d.objects := fun q => by
             have q1 := q.2.1
             have q2 := q.2.2.2
             have e : (colG skin gs).groups = ksG gs := rfl
             rw [e] at q1 q2
             omega
           rw [rg_f (fun q => hn q.2.2), cdG_l hv hg hn]
           exact end_view (view_freezeP 2 6 rfl rfl) (end_le (List.Sublist.cons _ (List.Sublist.cons _ (List.Sublist.refl _))) (vs := [_, _]) (.cons (.cellI rfl rfl) (.cons (.tmp rfl) .nil)) (Le.tup2 (Le.agg (LeL.cons (Le.nil 0) (LeL.cons (Le.nil 0) LeL.nil)))) (.inl rfl)))
      refine j_kCallO rfl rfl rfl rfl ?_
      refine jcpO (_ :: _ :: h) (o_l07Insert (ksG (gs.take k)) ⟨gs[k].charge, sortI gs[k].contents, gs[k].count⟩ b cap (by omega) hcnt (by dsimp only; omega) (by dsimp only; omega)) rfl (List.Perm.refl _) (LeL.refl _) rfl rfl (fun v h1 hR => ?_)
      obtain ⟨b', c', rfl, rfl⟩ := hR
      rw [← ksG_t hk hp]
      repeat' (first
      | (refine j_go ?_; first
        | refine j_op0 rfl rfl rfl rfl ?_ | (refine j_kBin rfl ?_; first | refine j_in rfl rfl ⟨by omega, by omega⟩ rfl rfl ?_))
      | refine j_nil ?_
      | (refine j_goO ?_; first
        | refine j_op0O rfl rfl rfl rfl ?_ | (refine j_kStoreO rfl ?_; first | refine j_storeO 1 rfl rfl rfl rfl rfl rfl rfl rfl rfl rfl rfl rfl (by first | (intro _ hk; exact absurd hk List.not_mem_nil) | (intro k hk; simp at hk ⊢; try simp [hk])) ?_))
      | refine j_nilO ?_
      | (refine r_go ?_; first | refine run_region ?_)
      | refine seqQ_normal ?_ | refine blockQ_normal ?_)
      have il2 := il ⟨gs[k].charge, sortI gs[k].contents, gs[k].count⟩
      rw [← ksG_t hk hp] at il2
      exact loopQ_next (k + 1, b', c') ⟨by dsimp only; omega, by dsimp only; omega, by dsimp only; omega⟩ (by dsimp only; omega) rfl ⟨rfl, rfl, rfl, rfl, si (by dsimp only; omega), nx _, trivial⟩
    · have z : gs[k].count = 0 := by omega
      repeat' (first
      | (refine j_go ?_; first
        | refine j_op0 rfl rfl rfl rfl ?_ | (refine j_kIdx rfl ?_; first | refine j_idx rfl rfl rfl rfl rfl (by omega) rfl rfl rfl ?_) | (refine j_kBin rfl ?_; first | refine j_in rfl rfl ⟨by omega, by omega⟩ rfl rfl ?_) | (refine j_kLen rfl ?_; first | refine j_len rfl rfl rfl rfl rfl rfl ?_))
      | refine j_nil ?_
      | (refine r_go ?_; first | refine run_seq ?_ | refine run_region ?_ | (refine (run_if rfl (fun hb => ?_) (fun hb => ?_)) <;> first | (exfalso; omega) | skip) | refine run_block ?_ | refine run_exit ?_ | refine run_skip ?_)
      | refine seqQ_normal ?_ | refine seqQ_exit ?_ | refine blockQ_eq ?_)
      all_goals first
        | exact loopQ_next (k + 1, b, cap) ⟨by dsimp only; omega, by dsimp only; rw [normG_f hk hp]; exact hsum, by dsimp only; rw [ksG_f hk hp]; exact hlen⟩ (by dsimp only; omega) (by dsimp only; rw [ksG_f hk hp]; try rfl) ⟨rfl, rfl, rfl, rfl, (by dsimp only; rw [normG_f hk hp]; try rfl), nx _, trivial⟩
        | (exfalso; omega)
        | trace_state
  obtain rfl : k = gs.length := by omega
  rw [List.take_length]
  refine run_view (view_cellF (k := 1) (b := some b11) (h1 := [_]) (F := _ :: h) (List.Perm.swap _ _ _) rfl (FrzF.flat (g := encGroup) (ys := ksG gs) (z := 3) rfl rfl (fun _ => rfl) rfl rfl)) ?_
  refine run_view (view_freezeP 0 11 rfl rfl) ?_
  have cC : Gives Try.prog 100 [.ip (encDivision d), .ip [.sl ((sortI skin).map Go.AI.encI), .sl ((ksG gs).map encGroup)]] _ := c_l07Colony d (colG skin gs) hd
  repeat' (first
      | (refine j_go ?_; first
        | refine j_op0 rfl rfl rfl rfl ?_ | (refine j_kLen rfl ?_; first | refine j_len rfl rfl rfl rfl rfl rfl ?_) | (refine j_kCall rfl rfl rfl rfl ?_; first | refine jc (cC) (LeL.refl _) rfl rfl ?_) | (refine j_kStore rfl ?_; first | refine j_storeN 0 rfl rfl rfl rfl rfl rfl rfl rfl rfl rfl rfl ?_) | refine j_build rfl rfl rfl rfl rfl rfl rfl ?_)
      | refine j_nil ?_
      | (refine r_go ?_; first | refine run_seq ?_ | refine run_region ?_ | (refine (run_if rfl (fun hb => ?_) (fun hb => ?_)) <;> first | (exfalso; omega) | skip) | (refine (run_ifn rfl (fun hb => ?_) (fun hb => ?_)) <;> first | (exfalso; omega) | skip) | refine run_ret ?_ | refine run_exit ?_ | refine run_skip ?_)
      | refine seqQ_normal ?_ | refine seqQ_ret ?_ | refine seqQ_exit ?_ | refine blockQ_eq ?_ | refine loopQ_exit ?_)
  · rw [rg_f (fun q => hb q.2.2), cdG_l hv hg hb]
    exact end_view (view_freezeP 0 6 rfl rfl) (end_le (List.Sublist.refl _) (vs := [_, _]) (.cons (.cellI rfl rfl) (.cons (.tmp rfl) .nil)) (Le.tup2 (Le.agg (LeL.cons (Le.nil 0) (LeL.cons (Le.nil 0) LeL.nil)))) (.inl rfl))
  · rw [rg_t ⟨hv, hg, hb⟩, cdG_o hv hg hb]
    exact end_view (view_freezeP 0 6 rfl rfl) (end_le (List.Sublist.refl _) (vs := [_, _]) (.cons (.cellI rfl rfl) (.cons (.tmp rfl) .nil)) (Le.refl _) (.inl rfl))
end Go.Proofs.Ytandldhceabdiaa

/-
  GatherColony of the program. No condition.
-/
namespace Go.Proofs.Ytandldhceabdiaa
open Go.AI
set_option maxRecDepth 8000
set_option maxHeartbeats 3200000

theorem mid_get {α : Type} : ∀ (a : List α) (x : α) (b : List α), (a ++ x :: b)[a.length]? = some x
  | [], _, _ => rfl
  | _ :: a, x, b => mid_get a x b
theorem mid_set {α : Type} : ∀ (a : List α) (x y : α) (b : List α), (a ++ x :: b).set a.length y = a ++ y :: b
  | [], _, _, _ => rfl
  | z :: a, x, y, b => congrArg (z :: ·) (mid_set a x y b)
/-- A colony and a code in memory of the call's own. -/
def ColR (c : Colony) (cd : Int) (v : A) (h : Heap) : Prop := ∃ a, v = .tup [a, .int cd] ∧ ROColony c a h
theorem ColR.nil {c : Int} : ColR ⟨[], []⟩ c (.tup [.agg [.sl [], .sl []], .int c]) [] := ⟨_, rfl, .sl [], [], .inr ⟨rfl, rfl, rfl⟩, .sl [], [], .inr ⟨rfl, rfl, rfl⟩, rfl, rfl⟩
open Classical in
theorem o_colonyOrLimit (d : Division) (c : Colony) (a : A) (h0 : Heap) (hd : 1 ≤ d.objects ∧ d.objects ≤ 64) (o : ROColony c a h0) :
    Does Try.prog 95 [.agg (encDivision d), a] h0 (ColR (if c.Ok d.objects then c else ⟨[], []⟩) (if c.Ok d.objects then 0 else 3)) := by
  refine fn_of_runD tyOk ztOk mix Try.func95 rfl (by decide) Try.ntmps95 (fun w0 F => ?_)
  change Run _ _ _ _ _ (h0 ++ F)
  have fz := o.frz
  obtain ⟨a0, a1, rfl, okc⟩ := o.cells
  repeat' (first
      | (refine j_go ?_; first
        | refine j_op0 rfl rfl rfl rfl ?_ | refine j_box rfl rfl rfl rfl rfl rfl ?_ | refine j_alloc rfl rfl rfl rfl rfl (fun _ => ?_))
      | refine j_nil ?_
      | (refine r_go ?_; first | refine run_seq ?_ | refine run_region ?_)
      | refine seqQ_normal ?_)
  refine j_kCall rfl rfl rfl rfl ?_
  refine jctq h0 (c_isColony d c hd) (Clo.raw _) (fun k hk => List.mem_cons_of_mem _ (List.mem_append_left _ hk)) (FrzL.cons (Frz.same _ _) (FrzL.cons fz (FrzL.nil _))) rfl rfl ?_
  repeat' (first
      | (refine j_go ?_; first
        | refine j_op0 rfl rfl rfl rfl ?_ | (refine j_kStore rfl ?_; first | refine j_storeN 0 rfl rfl rfl rfl rfl rfl rfl rfl rfl rfl rfl ?_) | refine j_build rfl rfl rfl rfl rfl rfl rfl ?_)
      | refine j_nil ?_
      | (refine r_go ?_; first | refine run_seq ?_ | refine run_region ?_ | (refine (run_ifn rfl (fun hb => ?_) (fun hb => ?_)) <;> first | (exfalso; omega) | skip) | refine run_ret ?_ | refine run_skip ?_)
      | refine seqQ_normal ?_ | refine seqQ_ret ?_)
  · rw [if_neg hb, if_neg hb]
    refine endD_view (view_freezeP 0 4 rfl rfl) ?_
    refine endD_view (view_sub (List.sublist_append_right h0 F)) ?_
    exact endD_ret (h1 := []) rfl (.cons (.cellI rfl rfl) (.cons (.tmp rfl) .nil)) (Le.tup2 (Le.agg (LeL.cons (Le.nil 0) (LeL.cons (Le.nil 0) LeL.nil)))) ColR.nil (.inl rfl)
  · rw [if_pos hb, if_pos hb]
    refine j_storeN 0 rfl rfl rfl rfl rfl rfl rfl rfl okc rfl rfl ?_
    repeat' (first
      | (refine j_go ?_; first
        | refine j_op0 rfl rfl rfl rfl ?_)
      | refine j_nil ?_
      | (refine r_go ?_; first | refine run_ret ?_)
      | refine seqQ_normal ?_)
    refine endD_view (view_freezeP 0 4 rfl rfl) ?_
    exact endD_ret (h1 := h0) rfl (.cons (.cellI rfl rfl) (.cons (.tmp rfl) .nil)) (Le.refl _) ⟨_, rfl, o⟩ (.inl rfl)
theorem c_gatC1 (d : Division) (x : Int) (hd : 1 ≤ d.objects ∧ d.objects ≤ 64) : Gives Try.prog 91 [.int x, .ip (encDivision d)] (.raw (.bool (dec (¬ (0 ≤ x ∧ x ≤ d.objects - 1))))) := by
  refine fn_of_run tyOk ztOk mix Try.func91 rfl (by decide) Try.ntmps91 (fun w0 h => ?_)
  repeat' (first
      | (refine j_go ?_; first
        | refine j_op0 rfl rfl rfl rfl ?_ | (refine j_kCall rfl rfl rfl rfl ?_; first | refine jc (c_isObject _ _ hd) (LeL.refl _) rfl rfl ?_))
      | refine j_nil ?_
      | (refine r_go ?_; first | refine run_seq ?_ | refine run_region ?_ | refine run_ret ?_)
      | refine seqQ_normal ?_)
  exact end1 rfl (List.Sublist.refl _) (rbN Iff.rfl) (.inl rfl)
theorem c_gatC2 (d : Division) (g : Group) (hd : 1 ≤ d.objects ∧ d.objects ≤ 64) : Gives Try.prog 93 [.agg (encGroup g), .ip [.fn 91 [.ip (encDivision d)]]] (.raw (.bool (dec (¬ GrpOk d.objects g)))) := by
  refine fn_of_run tyOk ztOk mix Try.func93 rfl (by decide) Try.ntmps93 (fun w0 h => ?_)
  repeat' (first
      | (refine j_go ?_; first
        | refine j_op0 rfl rfl rfl rfl ?_ | refine j_off rfl rfl rfl ?_ | (refine j_kCall rfl rfl rfl rfl ?_; first | refine jc (c_cfI _ _ (fun x => ¬ (0 ≤ x ∧ x ≤ d.objects - 1)) g.contents (fun x _ => c_gatC1 d x hd)) (LeL.refl _) rfl rfl ?_ | refine jc (c_isCharge _) (LeL.refl _) rfl rfl ?_ | refine jc (c_inRange _ _ _) (LeL.refl _) rfl rfl ?_) | (refine j_kGuard rfl ?_; first | (refine (j_if rfl rfl rfl (fun hb => ?_) (fun hb => ?_)) <;> first | (exfalso; omega) | skip) | (refine (j_ifn rfl rfl rfl (fun hb => ?_) (fun hb => ?_)) <;> first | (exfalso; omega) | skip)) | refine j_box rfl rfl rfl rfl rfl rfl ?_)
      | refine j_nil ?_
      | (refine r_go ?_; first | refine run_seq ?_ | refine run_region ?_ | refine run_ret ?_)
      | refine seqQ_normal ?_)
  all_goals first
    | exact end1 rfl (by first | exact List.Sublist.refl _ | exact sub1 | exact sub2 | exact sub3) (rbT (fun q => absurd hb (objs_iff.2 q.2.2))) (.inl rfl)
    | exact end1 rfl (by first | exact List.Sublist.refl _ | exact sub1 | exact sub2 | exact sub3) (rbT (fun q => hb q.1)) (.inl rfl)
    | exact end1 rfl (List.Sublist.refl _) (rbN ⟨fun q z => q z.2.1, fun q z => q ⟨by assumption, z, objs_iff.1 (by assumption)⟩⟩) (.inl rfl)
    | trace_state
theorem rcG_le {o : Int} : ∀ {l : List Group}, (∀ g ∈ l, g.contents.length ≤ 60) → mcnt rcGroup l ≤ 62 * l.length := fun {l} h => by
  have := mcnt_le2 (f := rcGroup) (l := l) (M := 62) (N := l.length) (Nat.le_refl _) (fun g hg => by have := h g hg; unfold rcGroup; omega)
  omega
theorem len_GatherColony (d : Division) (skin : List Int) (gs : List Group) : rcColony (resGatherColony d skin gs) ≤ 1000000 := by
  by_cases q : d.Valid ∧ GoodC d skin gs ∧ (colG skin gs).Ok d.objects
  · rw [rg_t q]
    have h1 := q.2.2.1.2
    have h2 := q.2.2.2.1
    have h3 := rcG_le (o := 0) (l := (colG skin gs).groups) (fun g hg => by
      obtain ⟨i, hi, rfl⟩ := List.getElem_of_mem hg
      have := (q.2.2.2.2.1 i hi).1.2.1.2
      omega)
    unfold rcColony
    omega
  · rw [rg_f q]; decide
open Classical in
theorem c_iGatherColony (d : Division) (skin : List Int) (gs : List Group) (hs : skin.length ≤ 1048576) (hl : gs.length ≤ 1048576) (hcl : ∀ g ∈ gs, g.contents.length ≤ 1048576) : Does Try.prog 32 [.agg (encDivision d), .sl (skin.map Go.AI.encI), .sl (gs.map encGroup)] [] (ColR (resGatherColony d skin gs) (codeGatherColony d skin gs)) := by
  refine fn_of_runD tyOk ztOk mix Try.func32 rfl (by decide) Try.ntmps32 (fun w0 F => ?_)
  change Run _ _ _ _ _ F
  unfold codeGatherColony
  repeat' (first
      | (refine j_go ?_; first
        | refine j_op0 rfl rfl rfl rfl ?_ | (refine j_kCall rfl rfl rfl rfl ?_; first | refine jc (c_iValidDivision _) (LeL.refl _) rfl rfl ?_) | (refine j_kLoad rfl ?_; first | refine j_mload 0 rfl rfl rfl rfl rfl rfl rfl ?_) | (refine j_kStore rfl ?_; first | refine j_store 0 rfl rfl rfl rfl rfl rfl rfl rfl rfl rfl rfl ?_ | refine j_storeN 0 rfl rfl rfl rfl rfl rfl rfl rfl rfl rfl rfl ?_) | refine j_box rfl rfl rfl rfl rfl rfl ?_ | refine j_build rfl rfl rfl rfl rfl rfl rfl ?_ | refine j_alloc rfl rfl rfl rfl rfl (fun _ => ?_))
      | refine j_nil ?_
      | (refine r_go ?_; first | refine run_seq ?_ | refine run_region ?_ | (refine (run_ifn rfl (fun hb => ?_) (fun hb => ?_)) <;> first | (exfalso; omega) | skip) | refine run_ret ?_ | refine run_skip ?_)
      | refine seqQ_normal ?_ | refine seqQ_ret ?_)
  · rw [rg_f (fun q => hb q.1), cdG_f hb]
    refine endD_view (view_freezeP 0 6 rfl rfl) ?_
    exact endD_ret (h1 := []) rfl (.cons (.cellI rfl rfl) (.cons (.tmp rfl) .nil)) (Le.tup2 (Le.agg (LeL.cons (Le.nil 0) (LeL.cons (Le.nil 0) LeL.nil)))) ColR.nil (.inl rfl)
  have hv := hb
  have hd := hv.1
  skip
  refine j_view (view_freezeP 0 8 rfl rfl) ?_
  repeat' (first
      | (refine j_go ?_; first
        | refine j_op0 rfl rfl rfl rfl ?_ | refine j_off rfl rfl rfl ?_ | (refine j_kCall rfl rfl rfl rfl ?_; first | refine jc (c_cfI _ _ (fun x => ¬ (0 ≤ x ∧ x ≤ d.objects - 1)) skin (fun x _ => c_gatC1 d x hd)) (LeL.refl _) rfl rfl ?_ | refine jc (c_cfG _ _ (fun g => ¬ GrpOk d.objects g) gs (fun g _ => c_gatC2 d g hd)) (LeL.refl _) rfl rfl ?_) | (refine j_kStore rfl ?_; first | refine j_storeN 0 rfl rfl rfl rfl rfl rfl rfl rfl rfl rfl rfl ?_) | (refine j_kGuard rfl ?_; first | (refine (j_if rfl rfl rfl (fun hb => ?_) (fun hb => ?_)) <;> first | (exfalso; omega) | skip)) | refine j_build rfl rfl rfl rfl rfl rfl rfl ?_)
      | refine j_nil ?_
      | (refine j_goO ?_; first
        | refine j_op0O rfl rfl rfl rfl ?_)
      | (refine r_go ?_; first | refine run_seq ?_ | refine run_region ?_ | refine run_cond_t rfl ?_ | (refine (run_if rfl (fun hb => ?_) (fun hb => ?_)) <;> first | (exfalso; omega) | skip) | refine run_ret ?_ | refine run_skip ?_ | refine run_opn 6 [⟨0, false, false, 0⟩, ⟨1, true, false, 0⟩, ⟨2, true, false, 0⟩, ⟨3, false, true, 0⟩, ⟨4, false, true, 0⟩, ⟨5, true, false, 0⟩, ⟨6, true, false, 0⟩, ⟨7, false, true, 0⟩, ⟨8, true, false, 0⟩] rfl rfl (by kernel_rfl) ?_)
      | refine seqQ_normal ?_ | refine seqQ_ret ?_)
  · have hg : ¬ GoodC d skin gs := fun q => objs_iff.2 q.1 hb
    rw [rg_f (fun q => hg q.2.1), cdG_r hv hg]
    refine endD_view (view_freezeP 0 6 rfl rfl) ?_
    exact endD_ret (h1 := []) rfl (.cons (.cellI rfl rfl) (.cons (.tmp rfl) .nil)) (Le.tup2 (Le.agg (LeL.cons (Le.nil 0) (LeL.cons (Le.nil 0) LeL.nil)))) ColR.nil (.inl rfl)
  · have hg : ¬ GoodC d skin gs := fun q => by
      obtain ⟨g, h1, h2⟩ := hb
      exact h2 (q.2 g h1)
    rw [rg_f (fun q => hg q.2.1), cdG_r hv hg]
    refine endD_view (view_freezeP 0 6 rfl rfl) ?_
    exact endD_ret (h1 := []) rfl (.cons (.cellI rfl rfl) (.cons (.tmp rfl) .nil)) (Le.tup2 (Le.agg (LeL.cons (Le.nil 0) (LeL.cons (Le.nil 0) LeL.nil)))) ColR.nil (.inl rfl)
  have hG : ∀ g ∈ gs, GrpOk d.objects g := fun g hg => Classical.byContradiction fun q => hb ⟨g, hg, q⟩
  have hg : GoodC d skin gs := ⟨objs_iff.1 (by assumption), hG⟩
  refine j_kCallO rfl rfl rfl rfl ?_
  refine jcpO (_ :: F) (o_gather skin gs hs hl (fun g hg => ⟨hcl g hg, (hG g hg).2.1⟩)) rfl (List.Perm.refl _) (LeL.refl _) rfl rfl (fun v h1 hR => ?_)
  obtain ⟨ks, ag, oC⟩ := hR
  obtain rfl := ag.uniq (ksG_agg hG)
  skip
  refine j_kCallO rfl rfl rfl rfl ?_
  refine jcpO (_ :: F) (o_colonyOrLimit d (colG skin gs) v h1 hd oC) rfl (List.Perm.refl _) (LeL.refl _) rfl rfl (fun v2 h2 hR => ?_)
  obtain ⟨a2, rfl, o2⟩ := hR
  obtain ⟨c0, c1, rfl, okc⟩ := o2.cells
  repeat' (first
      | (refine j_goO ?_; first
        | refine j_op0O rfl rfl rfl rfl ?_))
  refine j_storeNO h2.length rfl rfl rfl rfl rfl rfl (mid_get _ _ _) rfl rfl okc rfl rfl (fun _ hk => nomatch hk) ?_
  rw [mid_set]
  repeat' (first
      | (refine j_goO ?_; first
        | refine j_op0O rfl rfl rfl rfl ?_)
      | refine j_nilO ?_
      | (refine r_go ?_; first | refine run_ret ?_)
      | refine seqQ_normal ?_)
  refine endD_view (view_perm List.perm_middle) ?_
  refine endD_view (view_freezeP 0 6 rfl rfl) ?_
  have er : (if (colG skin gs).Ok d.objects then colG skin gs else ⟨[], []⟩) = resGatherColony d skin gs := by
    by_cases q : (colG skin gs).Ok d.objects
    · rw [if_pos q, rg_t ⟨hv, hg, q⟩]
    · rw [if_neg q, rg_f (fun z => q z.2.2)]
  have ec : (if (colG skin gs).Ok d.objects then (0 : Int) else 3) = cdG d.Valid (GoodC d skin gs) ((colG skin gs).Ok d.objects) := by
    by_cases q : (colG skin gs).Ok d.objects
    · rw [if_pos q, cdG_o hv hg q]
    · rw [if_neg q, cdG_l hv hg q]
  rw [er] at o2
  rw [ec]
  exact endD_ret (h1 := h2) rfl (.cons (.cellI rfl rfl) (.cons (.tmp rfl) .nil)) (Le.refl _) ⟨_, rfl, o2⟩ (.inl rfl)
end Go.Proofs.Ytandldhceabdiaa
