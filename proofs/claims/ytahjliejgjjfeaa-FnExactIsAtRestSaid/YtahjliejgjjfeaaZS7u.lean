/-
  A step of a colony: the reference lets a group act. No condition.
-/
import Derived.Test.YtahjliejgjjfeaaZS7s
import Derived.Test.YtahjliejgjjfeaaZE5
namespace Go.Proofs.Ytahjliejgjjfeaa
open Go.AI
set_option maxRecDepth 8000
set_option maxHeartbeats 1600000

theorem c_l00Min (a b : Int) : Gives Try.prog 200 [.int a, .int b] (.int (min a b)) := by
  refine fn_of_run tyOk ztOk mix Try.func200 rfl (by decide) Try.ntmps200 (fun w0 h => ?_)
  repeat' (first
      | (refine j_go ?_; first
        | refine j_op0 rfl rfl rfl rfl ?_)
      | refine j_nil ?_
      | (refine r_go ?_; first | refine run_seq ?_ | refine run_region ?_ | (refine (run_if rfl (fun hb => ?_) (fun hb => ?_)) <;> first | (exfalso; omega) | skip) | refine run_ret ?_ | refine run_skip ?_)
      | refine seqQ_normal ?_ | refine seqQ_ret ?_)
  all_goals exact end1 rfl (List.Sublist.refl _) (ai (by omega)) (.inl rfl)
theorem o_mvGroup (x : Nat) (d : Division) (left sk : List Int) (gs : List Group) (g : Group) (B : Nat) (U : Prop) (bs bc : Option Nat) (cs cc : Nat) (hv : d.Valid) (hn : 1 ≤ g.count ∧ g.count ≤ 5000) (hch : -1 ≤ g.charge ∧ g.charge ≤ 1) (hl : left.length ≤ 1000) (hg : HeapOf d.objects g.contents 60) (hok : MvOk d B sk gs) (hB : B ≤ 80000) :
    Does Try.prog 147 [.op (some x) 0, .ip (encGroup g)] [mvB x d left bs sk.length cs bc gs.length cc (.raw (.bool (dec U))), mvS bs cs sk, mvC bc cc gs]
      (MvR x d (B + 241) (stG d left g) (.raw (.bool (dec (U ∨ usedG d left g))))) := by
  refine fn_of_runD tyOk ztOk mix Try.func147 rfl (by decide) Try.ntmps147 (fun w0 F => ?_)
  change Run _ _ _ _ _ (_ :: _ :: _ :: F)
  have hd := hv.1
  have r120 := hv.2.1
  have hg60 := hg.2
  have hgr := hg.rng
  repeat' (first
      | (refine j_go ?_; first
        | refine j_op0 rfl rfl rfl rfl ?_)
      | refine j_nil ?_
      | (refine r_go ?_; first | refine run_seq ?_ | refine run_region ?_ | refine run_block ?_)
      | refine seqQ_normal ?_)
  have e0 : dec U = dec (U ∨ (stK d g left 0).2 < g.count) := dec_congr ⟨.inl, fun q => q.resolve_right (Int.lt_irrefl _)⟩
  refine run_loop (fun s : Nat × List Int × List Group × Option Nat × Nat × Option Nat × Nat => [(0, .op (some x) 0), (1, .ip (encGroup g)), (4, .int (stK d g left s.1).2), (5, .int (s.1 : Int))])
    (fun s => mvB x d (stK d g left s.1).1 s.2.2.2.1 s.2.1.length s.2.2.2.2.1 s.2.2.2.2.2.1 s.2.2.1.length s.2.2.2.2.2.2 (.raw (.bool (dec (U ∨ (stK d g left s.1).2 < g.count)))) :: mvS s.2.2.2.1 s.2.2.2.2.1 s.2.1 :: mvC s.2.2.2.2.2.1 s.2.2.2.2.2.2 s.2.2.1 :: F)
    (fun s => s.1 ≤ d.rules.length ∧ MvOk d (B + 2 * s.1) s.2.1 s.2.2.1) (fun s => d.rules.length - s.1) (0, sk, gs, bs, cs, bc, cc) ⟨rfl, rfl, rfl, rfl, trivial⟩ (by rw [e0]; rfl) ⟨Nat.zero_le _, hok⟩ (fun ⟨k, sk, gs, bs, cs, bc, cc⟩ ⟨kl, ok⟩ => ?_)
  dsimp only at kl ok ⊢
  have sb := stK_bnd (d := d) (g := g) (l := left) (k := k) (by omega)
  have es := @stK_succ d g left k
  have ez := @stK_zero d g left k
  have ek : k = d.rules.length → stK d g left d.rules.length = stK d g left k := fun q => by rw [q]
  have uG : ∀ y, stK d g left d.rules.length = y → (stG d left g = y.1 ∧ usedG d left g = (y.2 < g.count ∨ (0 < y.2 ∧ ∃ x ∈ g.contents, d.hasR 1 g.charge x))) := fun y q => by subst q; exact ⟨rfl, rfl⟩
  generalize stK d g left k = s at sb es ez ek ⊢
  obtain ⟨l, c⟩ := s
  dsimp only at sb es ez ek ⊢
  have sl := sb.1.length_le
  by_cases hx : k < d.rules.length ∧ 0 < c
  case pos =>
    obtain ⟨hk, hc⟩ := hx
    have hr := hv.2.2 _ (List.getElem_mem hk)
    have hr7 := hr.1
    have es := es hk
    have step : ∀ (n : Int), manyOf g l c d.rules[k] = n → stK d g left (k + 1) = (if d.rules[k].kind = 5 then eraseN d.rules[k].object n.toNat l else l, c - n) := fun n q => by rw [es, ← q]; rfl
    have skip : manyOf g l c d.rules[k] = 0 → stK d g left (k + 1) = (l, c) := fun q => by rw [es, stR_0 q]
    repeat' (first
      | (refine j_go ?_; first
        | refine j_op0 rfl rfl rfl rfl ?_ | refine j_off rfl rfl rfl ?_ | (refine j_kIdx rfl ?_; first | refine j_idx rfl rfl rfl rfl rfl (by omega) rfl rfl rfl ?_) | (refine j_kBin rfl ?_; first | refine j_in rfl rfl ⟨by omega, by omega⟩ rfl rfl ?_) | (refine j_kLen rfl ?_; first | refine j_len rfl rfl rfl rfl rfl rfl ?_) | (refine j_kCall rfl rfl rfl rfl ?_; first | refine jc (c_l00Has g.contents d.rules[k].object) (LeL.refl _) rfl rfl ?_) | (refine j_kLoad rfl ?_; first | refine j_mload 0 rfl rfl rfl rfl rfl rfl rfl ?_) | (refine j_kGuard rfl ?_; first | (refine (j_if rfl rfl rfl (fun hb => ?_) (fun hb => ?_)) <;> first | (exfalso; omega) | skip)))
      | refine j_nil ?_
      | (refine r_go ?_; first | refine run_seq ?_ | refine run_region ?_ | refine run_cond_t rfl ?_ | (refine (run_if rfl (fun hb => ?_) (fun hb => ?_)) <;> first | (exfalso; omega) | skip) | (refine (run_ifn rfl (fun hb => ?_) (fun hb => ?_)) <;> first | (exfalso; omega) | skip) | refine run_block ?_ | refine run_exit ?_ | refine run_skip ?_ | refine run_regionD (by kernel_rfl) ?_)
      | refine seqQ_normal ?_ | refine seqQ_exit ?_ | refine blockQ_normal ?_ | refine blockQ_eq ?_)
    · exact loopQ_next (k + 1, sk, gs, bs, cs, bc, cc) ⟨by dsimp only; omega, ok.mono (by dsimp only; omega)⟩ (by dsimp only; omega) (by dsimp only; rw [skip (many_no (by omega))]) ⟨rfl, rfl, (by dsimp only; rw [skip (many_no (by omega))]; rfl), nx _, trivial⟩
    · exact loopQ_next (k + 1, sk, gs, bs, cs, bc, cc) ⟨by dsimp only; omega, ok.mono (by dsimp only; omega)⟩ (by dsimp only; omega) (by dsimp only; rw [skip (many_no (by omega))]) ⟨rfl, rfl, (by dsimp only; rw [skip (many_no (by omega))]; rfl), nx _, trivial⟩
    · have h5 : d.rules[k].kind = 5 := by assumption
      have hm : ¬ (d.rules[k].kind = 1 ∨ d.rules[k].kind = 2 ∨ d.rules[k].charge ≠ g.charge ∨ c = 0) := by omega
      refine j_kCall rfl rfl rfl rfl ?_
      refine jcp (_ :: _ :: F) (o_mvCount x l d.rules[k].object _ _ _ _ (by omega)) (List.Perm.refl _) (LeL.refl _) rfl rfl (fun v h3 hR => ?_)
      obtain ⟨rfl, rfl⟩ := hR
      have ob := occ_bnd d.rules[k].object l
      repeat' (first
      | (refine j_go ?_; first
        | refine j_op0 rfl rfl rfl rfl ?_ | (refine j_kBin rfl ?_; first | refine j_in rfl rfl ⟨by omega, by omega⟩ rfl rfl ?_) | (refine j_kCall rfl rfl rfl rfl ?_; first | refine jc (c_l00Min c (occ d.rules[k].object l)) (LeL.refl _) rfl rfl ?_))
      | refine j_nil ?_
      | (refine r_go ?_; first | refine run_seq ?_ | refine run_region ?_ | (refine (run_if rfl (fun hb => ?_) (fun hb => ?_)) <;> first | (exfalso; omega) | skip) | refine run_skip ?_)
      | refine seqQ_normal ?_ | refine blockQ_normal ?_)
      · refine j_kCall rfl rfl rfl rfl ?_
        refine jcp F (o_mvMain x d l sk gs g d.rules[k] (min c (occ d.rules[k].object l)) (B + 2 * k) (dec (U ∨ c < g.count)) bs bc cs cc hv hr (by omega) (by omega) (by omega) hg ok (by omega)) (List.Perm.refl _) (LeL.refl _) rfl rfl (fun v h3 hR => ?_)
        obtain ⟨sk2, gs2, b2, c2, b3, c3, ok2, rfl⟩ := hR
        rw [if_pos h5]
        have es2 := step _ (many_in hm h5)
        rw [if_pos h5] at es2
        have eD : dec (U ∨ c - (min c (occ d.rules[k].object l)) < g.count) = true := dec_t (.inr (by omega))
        repeat' (first
      | (refine j_go ?_; first
        | refine j_op0 rfl rfl rfl rfl ?_ | (refine j_kBin rfl ?_; first | refine j_in rfl rfl ⟨by omega, by omega⟩ rfl rfl ?_))
      | refine j_nil ?_
      | (refine r_go ?_; first | refine run_region ?_)
      | refine seqQ_normal ?_ | refine blockQ_normal ?_)
        exact loopQ_next (k + 1, sk2, gs2, b2, c2, b3, c3) ⟨by dsimp only; omega, ok2.mono (by dsimp only; omega)⟩ (by dsimp only; omega) (by dsimp only; rw [es2, eD]; try rfl) ⟨rfl, rfl, (by dsimp only; rw [es2]; rfl), nx _, trivial⟩
      · exact loopQ_next (k + 1, sk, gs, bs, cs, bc, cc) ⟨by dsimp only; omega, ok.mono (by dsimp only; omega)⟩ (by dsimp only; omega) (by dsimp only; rw [skip (by rw [many_in hm h5]; omega)]; try rfl) ⟨rfl, rfl, (by dsimp only; rw [skip (by rw [many_in hm h5]; omega)]; rfl), nx _, trivial⟩
    · have h5 : ¬ d.rules[k].kind = 5 := by assumption
      have hm : ¬ (d.rules[k].kind = 1 ∨ d.rules[k].kind = 2 ∨ d.rules[k].charge ≠ g.charge ∨ c = 0) := by omega
      refine j_kCall rfl rfl rfl rfl ?_
      refine jcp F (o_mvMain x d l sk gs g d.rules[k] (c) (B + 2 * k) (dec (U ∨ c < g.count)) bs bc cs cc hv hr (by omega) (by omega) (by omega) hg ok (by omega)) (List.Perm.refl _) (LeL.refl _) rfl rfl (fun v h3 hR => ?_)
      obtain ⟨sk2, gs2, b2, c2, b3, c3, ok2, rfl⟩ := hR
      rw [if_neg h5]
      have es2 := step _ (many_yes hm h5 (by assumption))
      rw [if_neg h5] at es2
      have eD : dec (U ∨ c - (c) < g.count) = true := dec_t (.inr (by omega))
      repeat' (first
      | (refine j_go ?_; first
        | refine j_op0 rfl rfl rfl rfl ?_ | (refine j_kBin rfl ?_; first | refine j_in rfl rfl ⟨by omega, by omega⟩ rfl rfl ?_))
      | refine j_nil ?_
      | (refine r_go ?_; first | refine run_region ?_)
      | refine seqQ_normal ?_ | refine blockQ_normal ?_)
      exact loopQ_next (k + 1, sk2, gs2, b2, c2, b3, c3) ⟨by dsimp only; omega, ok2.mono (by dsimp only; omega)⟩ (by dsimp only; omega) (by dsimp only; rw [es2, eD]; try rfl) ⟨rfl, rfl, (by dsimp only; rw [es2]; rfl), nx _, trivial⟩
    · have h5 : ¬ d.rules[k].kind = 5 := by assumption
      have hm : ¬ (d.rules[k].kind = 1 ∨ d.rules[k].kind = 2 ∨ d.rules[k].charge ≠ g.charge ∨ c = 0) := by omega
      exact loopQ_next (k + 1, sk, gs, bs, cs, bc, cc) ⟨by dsimp only; omega, ok.mono (by dsimp only; omega)⟩ (by dsimp only; omega) (by dsimp only; rw [skip (many_out hm h5 (by assumption))]) ⟨rfl, rfl, (by dsimp only; rw [skip (many_out hm h5 (by assumption))]; rfl), nx _, trivial⟩
  case neg =>
    have eK : stK d g left d.rules.length = (l, c) := by
      by_cases hk : k < d.rules.length
      · exact ez (by omega)
      · exact ek (by omega)
    obtain ⟨u1, u2⟩ := uG _ eK
    rw [u1, u2]
    dsimp only
    have hgw := grown_rng hv (kind := 1) (charge := g.charge) hgr
    have gl := grown_len hv (kind := 1) (charge := g.charge) g.contents
    have eU0 : ¬ 0 < c → dec (U ∨ (c < g.count ∨ (0 < c ∧ ∃ x ∈ g.contents, d.hasR 1 g.charge x))) = dec (U ∨ c < g.count) := fun q => dec_congr ⟨fun z => z.elim .inl (fun z => z.elim .inr (fun z => absurd z.1 q)), fun z => z.elim .inl (fun z => .inr (.inl z))⟩
    have eU1 : (U ∨ c < g.count) → dec (U ∨ (c < g.count ∨ (0 < c ∧ ∃ x ∈ g.contents, d.hasR 1 g.charge x))) = true := fun q => dec_t (q.elim .inl (fun z => .inr (.inl z)))
    have eU2 : ¬ (U ∨ c < g.count) → 0 < c → dec (U ∨ (c < g.count ∨ (0 < c ∧ ∃ x ∈ g.contents, d.hasR 1 g.charge x))) = dec (∃ x ∈ g.contents, d.hasR 1 g.charge x) := fun q q2 => dec_congr ⟨fun z => z.elim (fun z => absurd (.inl z) q) (fun z => z.elim (fun z => absurd (.inr z) q) (fun z => z.2)), fun z => .inr (.inr ⟨q2, z⟩)⟩
    repeat' (first
      | (refine j_go ?_; first
        | refine j_op0 rfl rfl rfl rfl ?_ | refine j_off rfl rfl rfl ?_ | (refine j_kLen rfl ?_; first | refine j_len rfl rfl rfl rfl rfl rfl ?_) | (refine j_kCall rfl rfl rfl rfl ?_; first | refine jc (c_l07Grown d 1 g.charge g.contents hv (by omega)) (LeL.refl _) rfl rfl ?_) | (refine j_kLoad rfl ?_; first | refine j_mload 0 rfl rfl rfl rfl rfl rfl rfl ?_) | (refine j_kStore rfl ?_; first | refine j_store 0 rfl rfl rfl rfl rfl rfl rfl rfl rfl rfl rfl ?_) | (refine j_kBsl rfl ?_; first | refine j_bs0 rfl rfl rfl rfl rfl rfl ?_) | (refine j_kGuard rfl ?_; first | (refine (j_if rfl rfl rfl (fun hb => ?_) (fun hb => ?_)) <;> first | (exfalso; omega) | skip)))
      | refine j_nil ?_
      | (refine r_go ?_; first | refine run_seq ?_ | refine run_region ?_ | refine run_cond_f rfl ?_ | (refine (run_if rfl (fun hb => ?_) (fun hb => ?_)) <;> first | (exfalso; omega) | skip) | refine run_exit ?_ | refine run_skip ?_ | refine run_regionD (by kernel_rfl) ?_)
      | refine seqQ_normal ?_ | refine seqQ_exit ?_ | refine blockQ_eq ?_ | refine loopQ_exit ?_)
    · exact endD_ret (h1 := [_, _, _]) rfl .nil (Le.refl _) ⟨sk, gs, bs, cs, bc, cc, ok.mono (by omega), by rw [eU0 (by omega)]⟩ (.inr rfl)
    · refine j_kCall rfl rfl rfl rfl ?_
      refine jcp (_ :: F) (o_mvAdd x d gs g.charge c (d.grown 1 g.charge g.contents) [] _ _ _ bc cc hd (by have := ok.2.2.1; omega) (fun y hy => by have := ok.2.2.2 y hy; omega) (by omega) (by omega) (by omega) (by simp) hgw (by simp)) (List.Perm.cons _ (List.Perm.swap _ _ _)) (by repeat' (first | exact LeL.nil | refine LeL.cons ?_ ?_ | exact Le.refl _ | exact Le.nilm _ _ | exact Le.nil _)) rfl rfl (fun v h3 hR => ?_)
      obtain ⟨b2, c2, rfl⟩ := hR
      have ok1 := ok.add (g := ⟨g.charge, srtL d.objects (d.grown 1 g.charge g.contents ++ []), c⟩) ⟨by dsimp only; omega, by dsimp only; omega⟩
      repeat' (first
      | refine j_nil ?_)
      refine endD_view (view_perm (List.Perm.cons _ (List.Perm.swap _ _ _))) ?_
      exact endD_ret (h1 := [_, _, _]) rfl .nil (Le.refl _) ⟨sk, _, bs, cs, _, _, ok1.mono (by omega), by rw [eU1 (by assumption)]; try rfl⟩ (.inr rfl)
    · refine j_kCall rfl rfl rfl rfl ?_
      refine jcp (_ :: F) (o_mvAdd x d gs g.charge c (d.grown 1 g.charge g.contents) [] _ _ _ bc cc hd (by have := ok.2.2.1; omega) (fun y hy => by have := ok.2.2.2 y hy; omega) (by omega) (by omega) (by omega) (by simp) hgw (by simp)) (List.Perm.cons _ (List.Perm.swap _ _ _)) (by repeat' (first | exact LeL.nil | refine LeL.cons ?_ ?_ | exact Le.refl _ | exact Le.nilm _ _ | exact Le.nil _)) rfl rfl (fun v h3 hR => ?_)
      obtain ⟨b2, c2, rfl⟩ := hR
      have ok1 := ok.add (g := ⟨g.charge, srtL d.objects (d.grown 1 g.charge g.contents ++ []), c⟩) ⟨by dsimp only; omega, by dsimp only; omega⟩
      repeat' (first
      | refine j_nil ?_)
      refine endD_view (view_perm (List.Perm.cons _ (List.Perm.swap _ _ _))) ?_
      exact endD_ret (h1 := [_, _, _]) rfl .nil (Le.refl _) ⟨sk, _, bs, cs, _, _, ok1.mono (by omega), by rw [eU2 (by assumption) (by omega)]; try rfl⟩ (.inr rfl)
    · exact endD_ret (h1 := [_, _, _]) rfl .nil (Le.refl _) ⟨sk, gs, bs, cs, bc, cc, ok.mono (by omega), by rw [eU0 (by omega)]⟩ (.inr rfl)
end Go.Proofs.Ytahjliejgjjfeaa

/-
  Colonies at rest: what the reference computes. No condition.
-/
namespace Go.Proofs.Ytahjliejgjjfeaa
open Go.AI
set_option maxRecDepth 8000
set_option maxHeartbeats 1600000

theorem memB2 {k : Nat × Blk} {i j : Nat} {b : Blk} (h : k ∈ [(i, b), (j, b)]) : k.2 = b := by
  rcases List.mem_cons.1 h with rfl | h
  · rfl
  · rw [List.mem_singleton] at h; rw [h]
/-- What a step hands back: a colony, and whether a rule was used. -/
def StepR (d : Division) (c : Colony) : A → Heap → Prop := fun v h' => ∃ b n cp b2 n2 c2 k, v = .tup [.agg [.os b n cp, .os b2 n2 c2], .raw (.bool (dec (¬ Rests d c)))] ∧ h' = [k]
theorem o_l07Step (d : Division) (c : Colony) (hv : d.Valid) (hc : c.Ok d.objects) : Does Try.prog 65 [.ip (encDivision d), .ip (encColony c)] [] (StepR d c) := by
  refine fn_of_runD tyOk ztOk mix Try.func65 rfl (by decide) Try.ntmps65 (fun w0 h => ?_)
  change Run _ _ _ _ _ h
  have hd := hv.1
  have r120 := hv.2.1
  have sk300 := hc.1.2
  have g200 := hc.2.1
  have hnn : ∀ g ∈ c.groups, 0 ≤ g.count := hc.nn
  repeat' (first
      | (refine j_go ?_; first
        | refine j_op0 rfl rfl rfl rfl ?_ | (refine j_kCall rfl rfl rfl rfl ?_; first | refine jc (c_l00Own c.skin (by omega)) (LeL.refl _) rfl rfl ?_) | refine j_build rfl rfl rfl rfl rfl rfl rfl ?_ | refine j_alloc rfl rfl rfl rfl rfl (fun _ => ?_))
      | refine j_nil ?_
      | (refine r_go ?_; first | refine run_seq ?_ | refine run_region ?_)
      | refine seqQ_normal ?_)
  rename_i b0
  refine j_boxM rfl rfl rfl rfl rfl rfl (fun b1 => ?_)
  repeat' (first
      | (refine j_go ?_; first
        | refine j_op0 rfl rfl rfl rfl ?_)
      | refine j_nil ?_
      | (refine r_go ?_; first | refine run_seq ?_ | refine run_region ?_ | refine run_block ?_)
      | refine seqQ_normal ?_)
  refine run_view (view_none 2 (0 * 1) rfl) ?_
  refine run_view (view_none 141 (0 * 3) rfl) ?_
  refine run_view (view_perm rev3) ?_
  have e0 : dec (stA d c 0).2 = false := dec_f (fun q => q)
  refine run_loop (fun s : Nat × List Int × List Group × Option Nat × Nat × Option Nat × Nat => [(0, .ip (encDivision d)), (1, .ip (encColony c)), (4, .op (some b0) 0), (6, .op (some b1) 0), (7, .int (s.1 : Int))])
    (fun s => mvB b1 d (stA d c s.1).1 s.2.2.2.1 s.2.1.length s.2.2.2.2.1 s.2.2.2.2.2.1 s.2.2.1.length s.2.2.2.2.2.2 (.raw (.bool (dec (stA d c s.1).2))) :: mvS s.2.2.2.1 s.2.2.2.2.1 s.2.1 :: mvC s.2.2.2.2.2.1 s.2.2.2.2.2.2 s.2.2.1 :: ⟨some b0, 39, 2, [.os none 0 0, .os none 0 0]⟩ :: h)
    (fun s => s.1 ≤ c.groups.length ∧ MvOk d (241 * s.1) s.2.1 s.2.2.1) (fun s => c.groups.length - s.1) (0, [], [], none, 0, none, 0) ⟨rfl, rfl, rfl, rfl, rfl, trivial⟩ (by dsimp only; rw [e0]; rfl) ⟨Nat.zero_le _, by simp, by simp, by simp, by simp⟩ (fun ⟨k, sk, gs, bs, cs, bc, cc⟩ ⟨kl, ok⟩ => ?_)
  dsimp only at kl ok ⊢
  have sl := (stA_sub (d := d) hnn k kl).length_le
  by_cases hk : k < c.groups.length
  case pos =>
    have hu := hc.upto hk
    have hg := (hc.2.2.1 k hk).1
    repeat' (first
      | (refine j_go ?_; first
        | refine j_op0 rfl rfl rfl rfl ?_ | (refine j_kIdx rfl ?_; first | refine j_idx rfl rfl rfl rfl rfl (by omega) rfl rfl rfl ?_) | (refine j_kLen rfl ?_; first | refine j_len rfl rfl rfl rfl rfl rfl ?_))
      | refine j_nil ?_
      | (refine r_go ?_; first | refine run_seq ?_ | refine run_region ?_ | (refine (run_if rfl (fun hb => ?_) (fun hb => ?_)) <;> first | (exfalso; omega) | skip) | refine run_block ?_ | refine run_skip ?_)
      | refine seqQ_normal ?_)
    refine j_kCall rfl rfl rfl rfl ?_
    refine jcp (_ :: h) (o_mvGroup b1 d (stA d c k).1 sk gs c.groups[k] (241 * k) (stA d c k).2 bs bc cs cc hv (by omega) hg.1 (by omega) hg.2.1 ok (by omega)) (List.Perm.refl _) (LeL.refl _) rfl rfl (fun v h3 hR => ?_)
    obtain ⟨sk2, gs2, b2, c2, b3, c3, ok2, rfl⟩ := hR
    repeat' (first
      | (refine j_go ?_; first
        | refine j_op0 rfl rfl rfl rfl ?_ | (refine j_kBin rfl ?_; first | refine j_in rfl rfl ⟨by omega, by omega⟩ rfl rfl ?_))
      | refine j_nil ?_
      | (refine r_go ?_; first | refine run_region ?_)
      | refine seqQ_normal ?_ | refine blockQ_normal ?_)
    exact loopQ_next (k + 1, sk2, gs2, b2, c2, b3, c3) ⟨by dsimp only; omega, ok2.mono (by dsimp only; omega)⟩ (by dsimp only; omega) (by dsimp only; rw [stA_succ hk]; rfl) ⟨rfl, rfl, rfl, rfl, nx _, trivial⟩
  obtain rfl : k = c.groups.length := by omega
  have hsk := hc.1.rng
  have hlr : ∀ y ∈ (stA d c c.groups.length).1, 0 ≤ y ∧ y ≤ d.objects - 1 := fun y hy => hsk y ((stA_sub (d := d) hnn _ kl).subset hy)
  have gr := grown_rng hv (kind := 2) (charge := 0) hlr
  have gl := grown_len hv (kind := 2) (charge := 0) (stA d c c.groups.length).1
  repeat' (first
      | (refine j_go ?_; first
        | refine j_op0 rfl rfl rfl rfl ?_ | (refine j_kLen rfl ?_; first | refine j_len rfl rfl rfl rfl rfl rfl ?_) | (refine j_kLoad rfl ?_; first | refine j_mload 0 rfl rfl rfl rfl rfl rfl rfl ?_))
      | refine j_nil ?_
      | (refine r_go ?_; first | refine run_seq ?_ | refine run_region ?_ | (refine (run_if rfl (fun hb => ?_) (fun hb => ?_)) <;> first | (exfalso; omega) | skip) | refine run_exit ?_)
      | refine seqQ_normal ?_ | refine seqQ_exit ?_ | refine blockQ_eq ?_ | refine loopQ_exit ?_)
  refine j_kCall rfl rfl rfl rfl ?_
  refine jcp (_ :: _ :: _ :: _ :: h) (o_l07Grown d 2 0 (stA d c c.groups.length).1 hv (by omega)) (List.Perm.refl _) (LeL.refl _) rfl rfl (fun v h1 hR => ?_)
  obtain ⟨ob, cp, rfl, rfl⟩ := hR
  repeat' (first
      | (refine j_go ?_; first
        | refine j_op0 rfl rfl rfl rfl ?_)
      | refine j_nil ?_
      | (refine r_go ?_; first | refine run_seq ?_)
      | refine seqQ_normal ?_)
  have ok1 := ok.1
  refine run_view (view_cellF (k := 2) (b := some b1) (h1 := [_]) (F := _ :: _ :: _ :: h) ((List.Perm.swap _ _ _).trans (List.Perm.cons _ (List.Perm.swap _ _ _))) rfl (FrzF.flat (g := encI) (ys := sk) (z := 1) rfl rfl (fun _ => rfl) rfl rfl)) ?_
  repeat' (first
      | (refine j_goO ?_; first
        | refine j_op0O rfl rfl rfl rfl ?_ | (refine j_kLoadO rfl ?_; first | refine j_mloadO 0 rfl rfl rfl rfl rfl rfl rfl rfl ?_ | refine j_mloadS 0 rfl rfl rfl rfl rfl rfl rfl ?_))
      | (refine r_go ?_; first | refine run_opn 7 [⟨0, false, false, false⟩, ⟨1, false, false, false⟩, ⟨2, false, false, false⟩, ⟨3, false, false, false⟩, ⟨4, true, false, false⟩, ⟨5, true, false, false⟩, ⟨6, true, false, false⟩, ⟨7, true, false, false⟩, ⟨8, true, false, false⟩, ⟨11, false, false, false⟩, ⟨12, false, false, false⟩, ⟨13, false, false, false⟩, ⟨14, false, false, false⟩, ⟨16, false, false, false⟩, ⟨17, false, false, false⟩, ⟨18, false, false, false⟩, ⟨19, false, false, false⟩, ⟨9, false, true, false⟩, ⟨10, false, true, false⟩, ⟨15, true, false, false⟩, ⟨20, true, false, false⟩, ⟨21, false, false, false⟩, ⟨22, false, false, false⟩, ⟨23, false, true, false⟩, ⟨24, true, false, false⟩] rfl rfl (by kernel_rfl) ?_))
  · refine j_appendO 1 (g := encI) (ys := d.grown 2 0 (stA d c c.groups.length).1) sk rfl (fun k hk => by rw [memB2 hk]; exact List.mem_cons_self) rfl rfl rfl rfl rfl rfl rfl rfl rfl rfl rfl rfl (fun _ => rfl) (fun _ _ => rfl) ⟨by omega, by omega⟩ rfl rfl (fun b' cap' => ?_)
    refine j_kCallO rfl rfl rfl rfl ?_
    refine jctO [⟨b', 2, cap' * 1, ((d.grown 2 0 (stA d c c.groups.length).1 ++ sk).map encI).flatten⟩] (o_l07Sorted d.objects (d.grown 2 0 (stA d c c.groups.length).1 ++ sk) hd (by rw [List.length_append]; omega) (mem_rng2 gr ok.2.1)) rfl (fun k hk => by rw [memB2 hk]; exact List.mem_cons_self) (fun k hk => by rw [List.mem_singleton] at hk; subst hk; exact List.mem_cons_of_mem _ List.mem_cons_self) (FrzL.cons (Frz.same _ _) (FrzL.cons (Frz.flat (g := encI) (z := 1) rfl rfl (fun _ => rfl) rfl rfl) (FrzL.nil _))) (fun v h1 q => q.clo) rfl rfl (fun v h1 hR => ?_)
    obtain ⟨b6, c6, rfl, rfl⟩ := hR
    have dr : dec (¬ Rests d c) = dec ((stA d c c.groups.length).2 ∨ ∃ x ∈ (stA d c c.groups.length).1, d.hasR 2 0 x) := dec_congr ⟨fun q => Classical.byContradiction q, fun q z => z q⟩
    have sh : ∀ (a1 a2 a3 a4 a5 : Blk), h.Sublist (a1 :: a2 :: a3 :: a4 :: a5 :: h) := fun _ _ _ _ _ => sub2.trans sub3
    unfold StepR
    rw [dr]
    repeat' (first
      | (refine j_goO ?_; first
        | refine j_op0O rfl rfl rfl rfl ?_ | refine j_offO rfl rfl rfl ?_ | (refine j_kGuardO rfl ?_; first | (refine (j_ifO rfl rfl rfl (fun hb => ?_) (fun hb => ?_)) <;> first | (exfalso; omega) | skip)) | refine j_buildO rfl rfl rfl rfl rfl rfl rfl ?_))
    all_goals
      refine j_storeNO 4 rfl rfl rfl rfl rfl rfl rfl rfl rfl rfl rfl rfl (fun k hk => by rw [memB2 hk]; exact List.mem_cons_of_mem _ List.mem_cons_self) ?_
      repeat' (first
      | (refine j_goO ?_; first
        | refine j_op0O rfl rfl rfl rfl ?_)
      | refine j_nilO ?_
      | (refine r_go ?_; first | refine run_ret ?_)
      | refine seqQ_normal ?_)
    · refine endD_view (view_sub (sub2.trans sub2)) ?_
      exact endD_ret (h1 := [_]) rfl (vs := [_, _]) (.cons (.cellM (b := b0) rfl List.mem_cons_self rfl) (.cons (.tmp rfl) .nil)) (Le.refl _) ⟨_, _, _, _, _, _, _, by rw [dec_t (.inl (by assumption))]; rfl, rfl⟩ (.inl rfl)
    · refine endD_view (view_sub (sub2.trans sub2)) ?_
      exact endD_ret (h1 := [_]) rfl (vs := [_, _]) (.cons (.cellM (b := b0) rfl List.mem_cons_self rfl) (.cons (.tmp rfl) .nil)) (Le.refl _) ⟨_, _, _, _, _, _, _, by rw [dec_congr (show ((stA d c c.groups.length).2 ∨ ∃ x ∈ (stA d c c.groups.length).1, d.hasR 2 0 x) ↔ ∃ x ∈ (stA d c c.groups.length).1, d.hasR 2 0 x from ⟨fun q => q.resolve_left (by assumption), .inr⟩)]; rfl, rfl⟩ (.inl rfl)
theorem c_sIsAtRest (d : Division) (c : Colony) : Gives Try.prog 11 [.agg (encDivision d), .agg (encColony c)] (.tup [.raw (.bool (dec ((d.Valid ∧ c.Ok d.objects) ∧ Rests d c))), .int (cd2 d.Valid (c.Ok d.objects))]) := by
  refine fn_of_run tyOk ztOk mix Try.func11 rfl (by decide) Try.ntmps11 (fun w0 h => ?_)
  repeat' (first
      | (refine j_go ?_; first
        | refine j_op0 rfl rfl rfl rfl ?_ | (refine j_kCall rfl rfl rfl rfl ?_; first | refine jc (c_l07Asked _ _) (LeL.refl _) rfl rfl ?_) | refine j_box rfl rfl rfl rfl rfl rfl ?_)
      | refine j_nil ?_
      | (refine r_go ?_; first | refine run_seq ?_ | refine run_region ?_ | (refine (run_ifn rfl (fun hb => ?_) (fun hb => ?_)) <;> first | (exfalso; omega) | skip) | refine run_ret ?_ | refine run_skip ?_)
      | refine seqQ_normal ?_ | refine seqQ_ret ?_)
  · exact end2 rfl rfl (List.Sublist.refl _) (by rw [dec_f (fun q => hb (cd2_z.2 q.1))]; rfl) (.inl rfl)
  · have hz := hb
    have ⟨hv, hc⟩ := cd2_z.1 hb
    skip
    refine j_kCall rfl rfl rfl rfl ?_
    refine jcp h (o_l07Step d c hv hc) (List.Perm.refl _) (LeL.refl _) rfl rfl (fun v h1 hR => ?_)
    obtain ⟨b, n, cp, b2, n2, c2, k, rfl, rfl⟩ := hR
    repeat' (first
      | (refine j_go ?_; first
        | refine j_op0 rfl rfl rfl rfl ?_ | (refine j_kStore rfl ?_; first | refine j_storeN 0 rfl rfl rfl rfl rfl rfl rfl rfl rfl rfl rfl ?_) | refine j_alloc rfl rfl rfl rfl rfl (fun _ => ?_))
      | refine j_nil ?_
      | (refine r_go ?_; first | refine run_seq ?_ | refine run_region ?_ | refine run_ret ?_)
      | refine seqQ_normal ?_)
    have hd0 : A.raw (.bool (!dec (¬ Rests d c))) = A.raw (.bool (dec ((d.Valid ∧ c.Ok d.objects) ∧ Rests d c))) := rbN ⟨fun q => ⟨⟨hv, hc⟩, Classical.byContradiction q⟩, fun q z => z q.2⟩
    exact end2 rfl rfl sub2 (by rw [hz, ← hd0]; rfl) (.inl rfl)
end Go.Proofs.Ytahjliejgjjfeaa
