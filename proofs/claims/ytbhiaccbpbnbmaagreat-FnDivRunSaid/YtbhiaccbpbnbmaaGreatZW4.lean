/-
  A step of a colony: pour and main of the reference, exactly. No condition.
-/
import Derived.Test.YtbhiaccbpbnbmaaGreatZDQ
import Derived.Test.YtbhiaccbpbnbmaaGreatZS7u
namespace Go.Proofs.YtbhiaccbpbnbmaaGreat
open Go.AI
set_option maxRecDepth 8000
set_option maxHeartbeats 3200000
theorem o_mvPourX (x : Nat) (o : Int) (skin list : List Int) (n : Int) (a0 a1 a3 a4 : A) (bs : Option Nat) (cs : Nat) (hn : 0 ≤ n ∧ n ≤ 1000000) (hs : skin.length ≤ 5000) (hl : list.length ≤ 4000) (hr : ∀ y ∈ skin, 0 ≤ y ∧ y ≤ o - 1) (hr2 : ∀ y ∈ list, 0 ≤ y ∧ y ≤ o - 1) (full : List Int) (hT : TrP full skin) : Does Tryz.prog 96 [.op (some x) 0, .sl (list.map Go.AI.encI), .int n] [⟨some x, 96, 5, [a0, a1, .os bs skin.length cs, a3, a4]⟩, ⟨bs, 2, cs * 1, (skin.map Go.AI.encI).flatten⟩]
    (fun _ h' => ∃ (sk : List Int) (b' : Option Nat) (c' : Nat), sk.length ≤ 5000 ∧ (∀ y ∈ sk, 0 ≤ y ∧ y ≤ o - 1) ∧ TrP (full ++ repL n.toNat list) sk ∧ h' = [⟨some x, 96, 5, [a0, a1, .os b' sk.length c', a3, a4]⟩, ⟨b', 2, c' * 1, (sk.map Go.AI.encI).flatten⟩]) := by
  refine fn_of_runD tyOk ztOk mix Tryz.func96 rfl (by decide) Tryz.ntmps96 (fun w0 F => ?_)
  change Run _ _ _ _ _ (_ :: _ :: F)
  repeat' (first
      | (refine j_go ?_; first
        | refine j_op0 rfl rfl rfl rfl ?_)
      | refine j_nil ?_
      | (refine r_go ?_; first | refine run_seq ?_ | refine run_region ?_ | refine run_block ?_)
      | refine seqQ_normal ?_)
  refine run_loop (fun s : Nat × List Int × Option Nat × Nat => [(0, .op (some x) 0), (1, .sl (list.map Go.AI.encI)), (2, .int n), (6, .int (s.1 : Int))]) (fun s => ⟨some x, 96, 5, [a0, a1, .os s.2.2.1 s.2.1.length s.2.2.2, a3, a4]⟩ :: ⟨s.2.2.1, 2, s.2.2.2 * 1, (s.2.1.map Go.AI.encI).flatten⟩ :: F)
    (fun s => (s.1 : Int) ≤ n ∧ s.2.1.length ≤ 5000 ∧ (∀ y ∈ s.2.1, 0 ≤ y ∧ y ≤ o - 1) ∧ TrP (full ++ repL s.1 list) s.2.1) (fun s => n.toNat - s.1) (0, skin, bs, cs) ⟨rfl, rfl, rfl, rfl, trivial⟩ rfl ⟨hn.1, hs, hr, by rw [repL_zero, List.append_nil]; exact hT⟩ (fun ⟨k, sk, b', c'⟩ ⟨kl, sl, sr, st⟩ => ?_)
  dsimp only at kl sl sr st ⊢
  have xA : ¬ (k : Int) < n → TrP (full ++ repL n.toNat list) sk := fun q => by
    have : k = n.toNat := by omega
    rw [← this]; exact st
  have xB : 300 < sk.length → TrP (full ++ repL n.toNat list) sk := fun q => st.long q (by
    have := repL_mono (l := list) (show k ≤ n.toNat by omega)
    rw [List.length_append, List.length_append]; omega)
  repeat' (first
      | (refine j_go ?_; first
        | refine j_op0 rfl rfl rfl rfl ?_ | refine j_off rfl rfl rfl ?_ | (refine j_kLen rfl ?_; first | refine j_op rfl rfl rfl rfl ?_) | (refine j_kLoad rfl ?_; first | refine j_mload 0 rfl rfl rfl rfl rfl rfl rfl ?_) | (refine j_kGuard rfl ?_; first | (refine (j_if rfl rfl rfl (fun hb => ?_) (fun hb => ?_)) <;> first | (exfalso; omega) | skip)))
      | refine j_nil ?_
      | (refine r_go ?_; first | refine run_seq ?_ | refine run_region ?_ | refine run_cond_f rfl ?_ | (refine (run_if rfl (fun hb => ?_) (fun hb => ?_)) <;> first | (exfalso; omega) | skip) | refine run_block ?_ | refine run_exit ?_ | refine run_skip ?_)
      | refine seqQ_normal ?_ | refine seqQ_exit ?_ | refine blockQ_eq ?_ | refine loopQ_exit ?_)
  all_goals first
    | exact endD_ret (h1 := [_, _]) rfl .nil (Le.refl _) ⟨sk, b', c', sl, sr, (by first | exact xA (by omega) | exact xB (by omega)), rfl⟩ (.inr rfl)
    | skip
  refine j_append 1 (g := Go.AI.encI) (ys := sk) list rfl rfl rfl rfl rfl rfl rfl rfl rfl rfl rfl rfl (fun _ => rfl) (fun _ _ => rfl) ⟨by omega, by omega⟩ rfl rfl (fun b2 c2 => ?_)
  repeat' (first
      | (refine j_go ?_; first
        | refine j_op0 rfl rfl rfl rfl ?_ | (refine j_kBin rfl ?_; first | refine j_in rfl rfl ⟨by omega, by omega⟩ rfl rfl ?_) | (refine j_kStore rfl ?_; first | refine j_store 0 rfl rfl rfl rfl rfl rfl rfl rfl rfl rfl rfl ?_))
      | refine j_nil ?_
      | (refine r_go ?_; first | refine run_region ?_)
      | refine seqQ_normal ?_ | refine blockQ_normal ?_)
  exact loopQ_next (k + 1, sk ++ list, b2, c2) ⟨by dsimp only; omega, by dsimp only; rw [List.length_append]; omega, mem_rng2 sr hr2, by
    dsimp only; rw [repL_succ, ← List.append_assoc]; exact st.more list⟩ (by dsimp only; omega) rfl ⟨rfl, rfl, rfl, nx _, trivial⟩
/-- What a part of a step leaves, exactly but for a skin that is too much. -/
def MvX (x : Nat) (d : Division) (B : Nat) (left : List Int) (u : A) (gs : List Group) (full : List Int) : A → Heap → Prop := fun _ h' => ∃ (sk : List Int) (bs : Option Nat) (cs : Nat) (bc : Option Nat) (cc : Nat), MvOk d B sk gs ∧ TrP full sk ∧ h' = [mvB x d left bs sk.length cs bc gs.length cc u, mvS bs cs sk, mvC bc cc gs]
theorem o_mvMainX (x : Nat) (d : Division) (left sk : List Int) (gs : List Group) (g : Group) (r : DivRule) (n : Int) (B : Nat) (u : Bool) (bs bc : Option Nat) (cs cc : Nat) (hv : d.Valid) (hr : r.Ok d.objects) (h3 : 3 ≤ r.kind) (hn : 1 ≤ n ∧ n ≤ 5000) (hl : left.length ≤ 1000) (hg : HeapOf d.objects g.contents 60) (hok : MvOk d B sk gs) (hB : B ≤ 90000) (full : List Int) (hT : TrP full sk) :
    Does Tryz.prog 81 [.op (some x) 0, .ip (encGroup g), .ip (encDivRule r), .int n] [mvB x d left bs sk.length cs bc gs.length cc (.raw (.bool u)), mvS bs cs sk, mvC bc cc gs]
      (MvX x d (B + 2) (if r.kind = 5 then eraseN r.object n.toNat left else left) (.raw (.bool true)) (addM d.objects gs (cellsU d ⟨g, r, n⟩)) (full ++ repL n.toNat (outU d ⟨g, r, n⟩))) := by
  refine fn_of_runD tyOk ztOk mix Tryz.func81 rfl (by decide) Tryz.ntmps81 (fun w0 F => ?_)
  change Run _ _ _ _ _ (_ :: _ :: _ :: F)
  have hd := hv.1
  have hg60 := hg.2
  have hgr := hg.rng
  have hfr := hr.2.2.2.2.2.1.rng
  have hf16 := hr.2.2.2.2.2.1.2
  have hsr := hr.2.2.2.2.2.2.1.rng
  have hs16 := hr.2.2.2.2.2.2.1.2
  have hto := hr.2.2.2.1
  have htob := hr.2.2.2.2.1
  have hn2 : 0 ≤ n ∧ n ≤ 1000000 := by omega
  have hk7 := hr.1
  by_cases h5 : r.kind = 5
  case pos =>
    have eC : addM d.objects gs (cellsU d ⟨g, r, n⟩) = insM gs ⟨r.to, srtL d.objects (d.grown 1 g.charge g.contents ++ r.first), n⟩ := by
      unfold cellsU ctU; dsimp only; rw [if_pos (.inr h5), if_pos (.inr h5)]; rfl
    have eO : full ++ repL n.toNat (outU d ⟨g, r, n⟩) = full := by
      unfold outU; dsimp only; rw [if_neg (by omega), if_neg (by omega), repL_nil, List.append_nil]
    rw [if_pos h5, eC, eO]
    repeat' (first
      | (refine j_go ?_; first
        | refine j_op0 rfl rfl rfl rfl ?_ | (refine j_kStore rfl ?_; first | refine j_store 0 rfl rfl rfl rfl rfl rfl rfl rfl rfl rfl rfl ?_))
      | refine j_nil ?_
      | (refine r_go ?_; first | refine run_seq ?_ | refine run_region ?_ | (refine (run_if rfl (fun hb => ?_) (fun hb => ?_)) <;> first | (exfalso; omega) | skip) | refine run_block ?_)
      | refine seqQ_normal ?_)
    refine run_loop (fun k : Nat => [(0, .op (some x) 0), (1, .ip (encGroup g)), (2, .ip (encDivRule r)), (3, .int n), (8, .sl (g.contents.map Go.AI.encI)), (9, .int (k : Int))]) (fun k => mvB x d (eraseN r.object k left) bs sk.length cs bc gs.length cc (.raw (.bool true)) :: mvS bs cs sk :: mvC bc cc gs :: F) (fun k => (k : Int) ≤ n) (fun k => n.toNat - k) 0 ⟨rfl, rfl, rfl, rfl, rfl, rfl, trivial⟩ rfl (by omega) (fun k kl => ?_)
    by_cases hk : (k : Int) < n
    case pos =>
      have el := (eraseN_sub r.object k left).length_le
      repeat' (first
      | (refine j_go ?_; first
        | refine j_op0 rfl rfl rfl rfl ?_ | (refine j_kBin rfl ?_; first | refine j_in rfl rfl ⟨by omega, by omega⟩ rfl rfl ?_))
      | refine j_nil ?_
      | (refine j_goO ?_; first
        | refine j_op0O rfl rfl rfl rfl ?_ | (refine j_kCallO rfl rfl rfl rfl ?_; first | refine jcO (c_l07Without (eraseN r.object k left) r.object (by omega)) (LeL.refl _) rfl rfl ?_) | (refine j_kLoadO rfl ?_; first | refine j_mloadO 0 rfl rfl rfl rfl rfl rfl rfl rfl ?_) | (refine j_kStoreO rfl ?_; first | refine j_storeO 0 rfl rfl rfl rfl rfl rfl rfl rfl rfl rfl rfl rfl (by first | (intro _ hk; exact absurd hk List.not_mem_nil) | (intro k hk; simp at hk ⊢; try simp [hk])) ?_))
      | refine j_nilO ?_
      | (refine r_go ?_; first | refine run_seq ?_ | refine run_region ?_ | (refine (run_if rfl (fun hb => ?_) (fun hb => ?_)) <;> first | (exfalso; omega) | skip) | refine run_block ?_ | refine run_skip ?_ | refine run_opn 6 [⟨0, true, false, 0⟩, ⟨1, true, false, 0⟩, ⟨2, true, false, 0⟩, ⟨3, true, false, 0⟩, ⟨4, true, false, 0⟩, ⟨5, true, false, 0⟩, ⟨6, true, false, 0⟩, ⟨7, true, false, 0⟩, ⟨8, true, false, 0⟩, ⟨9, true, false, 0⟩, ⟨10, true, false, 0⟩, ⟨11, true, false, 0⟩, ⟨12, false, true, 0⟩] rfl rfl (by kernel_rfl) ?_)
      | refine seqQ_normal ?_ | refine blockQ_normal ?_)
      exact loopQ_next (k + 1) (by omega) (by omega) rfl ⟨rfl, rfl, rfl, rfl, rfl, nx _, trivial⟩
    obtain rfl : k = n.toNat := by omega
    repeat' (first
      | (refine j_go ?_; first
        | refine j_op0 rfl rfl rfl rfl ?_)
      | refine j_nil ?_
      | (refine j_goO ?_; first
        | refine j_op0O rfl rfl rfl rfl ?_ | (refine j_kLoadO rfl ?_; first | refine j_mloadO 0 rfl rfl rfl rfl rfl rfl rfl rfl ?_))
      | (refine r_go ?_; first | refine run_seq ?_ | refine run_region ?_ | (refine (run_if rfl (fun hb => ?_) (fun hb => ?_)) <;> first | (exfalso; omega) | skip) | refine run_exit ?_ | refine run_opn 8 [⟨0, true, false, 0⟩, ⟨1, true, false, 0⟩, ⟨2, true, false, 0⟩, ⟨3, true, false, 0⟩, ⟨4, true, false, 0⟩, ⟨5, true, false, 0⟩, ⟨6, true, false, 0⟩, ⟨7, true, false, 0⟩, ⟨8, true, false, 0⟩, ⟨9, false, true, 0⟩, ⟨10, true, false, 0⟩, ⟨11, true, false, 0⟩, ⟨12, true, false, 0⟩, ⟨13, true, false, 0⟩, ⟨14, true, false, 0⟩] rfl rfl (by kernel_rfl) ?_)
      | refine seqQ_normal ?_ | refine seqQ_exit ?_ | refine blockQ_eq ?_ | refine loopQ_exit ?_)
    refine j_kCallO rfl rfl rfl rfl ?_
    refine jcpO (_ :: _ :: _ :: F) (o_l07Grown d 1 g.charge g.contents hv (by omega)) rfl (List.Perm.refl _) (LeL.refl _) rfl rfl (fun v h1 hR => ?_)
    obtain ⟨ob, cp, rfl, rfl⟩ := hR
    have hgw := grown_rng hv (kind := 1) (charge := g.charge) hgr
    have gl := grown_len hv (kind := 1) (charge := g.charge) g.contents
    repeat' (first
      | (refine j_go ?_; first
        | refine j_op0 rfl rfl rfl rfl ?_)
      | refine j_nil ?_
      | (refine j_goO ?_; first
        | refine j_op0O rfl rfl rfl rfl ?_)
      | refine j_nilO ?_
      | (refine r_go ?_; first | refine run_seq ?_ | refine run_region ?_ | (refine (run_if rfl (fun hb => ?_) (fun hb => ?_)) <;> first | (exfalso; omega) | skip) | refine run_block ?_)
      | refine seqQ_normal ?_)
    · refine run_view (view_freeze (g := Go.AI.encI) (z := 1) (ys := d.grown 1 g.charge g.contents) 0 10 rfl rfl rfl (fun _ => rfl) rfl rfl) ?_
      repeat' (first
      | (refine j_goO ?_; first
        | refine j_op0O rfl rfl rfl rfl ?_)
      | (refine r_go ?_; first | refine run_opn 12 [⟨0, true, false, 0⟩, ⟨1, true, false, 0⟩, ⟨2, true, false, 0⟩, ⟨3, true, false, 0⟩, ⟨4, true, false, 0⟩, ⟨5, true, false, 0⟩, ⟨6, true, false, 0⟩, ⟨7, true, false, 0⟩, ⟨8, true, false, 0⟩, ⟨9, true, false, 0⟩, ⟨10, true, false, 0⟩, ⟨11, false, true, 0⟩] rfl rfl (by kernel_rfl) ?_))
      refine j_kCallO rfl rfl rfl rfl ?_
      refine jcpO (_ :: F) (o_mvAdd x d gs r.to n (d.grown 1 g.charge g.contents) r.first _ _ _ bc cc hd (by have := hok.2.2.1; omega) (fun y hy => by have := hok.2.2.2 y hy; omega) (by omega) (by omega) (by omega) (by omega) hgw hfr) rfl (List.Perm.cons _ (List.Perm.swap _ _ _)) (by repeat' (first | exact LeL.nil | refine LeL.cons ?_ ?_ | exact Le.refl _ | exact Le.nilm _ _ | exact Le.nil _)) rfl rfl (fun v h3 hR => ?_)
      obtain ⟨b2, c2, rfl⟩ := hR
      repeat' (first
      | refine j_nilO ?_
      | refine blockQ_normal ?_)
      refine endD_view (view_perm (List.Perm.cons _ (List.Perm.swap _ _ _))) ?_
      exact endD_ret (h1 := [_, _, _]) rfl .nil (Le.refl _) ⟨sk, bs, cs, _, _, (hok.add ⟨by dsimp only; omega, by dsimp only; omega⟩).mono (by omega), hT, rfl⟩ (.inr rfl)
  case neg =>
    rw [if_neg h5]
    have cE : ctU d g r = d.grown 1 g.charge (g.contents.erase r.object) := by unfold ctU; rw [if_neg (by omega)]
    have C3 : r.kind = 3 → addM d.objects gs (cellsU d ⟨g, r, n⟩) = insM gs ⟨r.to, srtL d.objects (d.grown 1 g.charge (g.contents.erase r.object) ++ r.first), n⟩ ∧ full ++ repL n.toNat (outU d ⟨g, r, n⟩) = full := fun q => by
      unfold cellsU outU; dsimp only; rw [if_pos (.inl q), if_neg (by omega), if_neg (by omega), repL_nil, List.append_nil, cE]; exact ⟨rfl, rfl⟩
    have C4 : r.kind = 4 → addM d.objects gs (cellsU d ⟨g, r, n⟩) = insM gs ⟨r.to, srtL d.objects (d.grown 1 g.charge (g.contents.erase r.object) ++ []), n⟩ ∧ full ++ repL n.toNat (outU d ⟨g, r, n⟩) = full ++ repL n.toNat r.first := fun q => by
      unfold cellsU outU; dsimp only; rw [if_neg (by omega), if_pos q, if_pos q, cE, List.append_nil]; exact ⟨rfl, rfl⟩
    have C6 : r.kind = 6 → addM d.objects gs (cellsU d ⟨g, r, n⟩) = insM (insM gs ⟨r.to, srtL d.objects (d.grown 1 g.charge (g.contents.erase r.object) ++ r.first), n⟩) ⟨r.toB, srtL d.objects (d.grown 1 g.charge (g.contents.erase r.object) ++ r.second), n⟩ ∧ full ++ repL n.toNat (outU d ⟨g, r, n⟩) = full := fun q => by
      unfold cellsU outU; dsimp only; rw [if_neg (by omega), if_neg (by omega), if_pos q, if_neg (by omega), if_neg (by omega), repL_nil, List.append_nil, cE]; exact ⟨rfl, rfl⟩
    have C7 : r.kind = 7 → addM d.objects gs (cellsU d ⟨g, r, n⟩) = gs ∧ full ++ repL n.toNat (outU d ⟨g, r, n⟩) = full ++ repL n.toNat (d.grown 1 g.charge (g.contents.erase r.object) ++ r.first) := fun q => by
      unfold cellsU outU; dsimp only; rw [if_neg (by omega), if_neg (by omega), if_neg (by omega), if_pos q, if_neg (by omega), if_pos q, cE]; exact ⟨rfl, rfl⟩
    repeat' (first
      | (refine j_go ?_; first
        | refine j_op0 rfl rfl rfl rfl ?_ | (refine j_kCall rfl rfl rfl rfl ?_; first | refine jc (c_l07Without g.contents r.object (by omega)) (LeL.refl _) rfl rfl ?_) | (refine j_kStore rfl ?_; first | refine j_store 0 rfl rfl rfl rfl rfl rfl rfl rfl rfl rfl rfl ?_))
      | refine j_nil ?_
      | (refine j_goO ?_; first
        | refine j_op0O rfl rfl rfl rfl ?_ | (refine j_kLoadO rfl ?_; first | refine j_mloadO 0 rfl rfl rfl rfl rfl rfl rfl rfl ?_))
      | (refine r_go ?_; first | refine run_seq ?_ | refine run_region ?_ | (refine (run_if rfl (fun hb => ?_) (fun hb => ?_)) <;> first | (exfalso; omega) | skip) | refine run_opn 8 [⟨0, true, false, 0⟩, ⟨1, true, false, 0⟩, ⟨2, true, false, 0⟩, ⟨3, true, false, 0⟩, ⟨4, true, false, 0⟩, ⟨5, true, false, 0⟩, ⟨6, true, false, 0⟩, ⟨7, true, false, 0⟩, ⟨8, true, false, 0⟩, ⟨9, false, true, 0⟩, ⟨10, true, false, 0⟩, ⟨11, true, false, 0⟩, ⟨12, true, false, 0⟩, ⟨13, true, false, 0⟩, ⟨14, true, false, 0⟩] rfl rfl (by kernel_rfl) ?_)
      | refine seqQ_normal ?_)
    refine j_kCallO rfl rfl rfl rfl ?_
    have el := (List.erase_sublist (a := r.object) (l := g.contents)).length_le
    refine jcpO (_ :: _ :: _ :: F) (o_l07Grown d 1 g.charge (g.contents.erase r.object) hv (by omega)) rfl (List.Perm.refl _) (LeL.refl _) rfl rfl (fun v h1 hR => ?_)
    obtain ⟨ob, cp, rfl, rfl⟩ := hR
    have hgw := grown_rng hv (kind := 1) (charge := g.charge) (l := g.contents.erase r.object) (fun y hy => hgr y (List.mem_of_mem_erase hy))
    have gl := grown_len hv (kind := 1) (charge := g.charge) (g.contents.erase r.object)
    repeat' (first
      | (refine j_go ?_; first
        | refine j_op0 rfl rfl rfl rfl ?_ | (refine j_kBsl rfl ?_; first | refine j_bs0 rfl rfl rfl rfl rfl rfl ?_))
      | refine j_nil ?_
      | (refine j_goO ?_; first
        | refine j_op0O rfl rfl rfl rfl ?_)
      | refine j_nilO ?_
      | (refine r_go ?_; first | refine run_seq ?_ | refine run_region ?_ | (refine (run_if rfl (fun hb => ?_) (fun hb => ?_)) <;> first | (exfalso; omega) | skip) | refine run_block ?_ | refine run_skip ?_)
      | refine seqQ_normal ?_)
    · rw [(C3 (by omega)).1, (C3 (by omega)).2]
      refine run_view (view_freeze (g := Go.AI.encI) (z := 1) (ys := d.grown 1 g.charge (g.contents.erase r.object)) 0 10 rfl rfl rfl (fun _ => rfl) rfl rfl) ?_
      repeat' (first
      | (refine j_goO ?_; first
        | refine j_op0O rfl rfl rfl rfl ?_)
      | (refine r_go ?_; first | refine run_opn 12 [⟨0, true, false, 0⟩, ⟨1, true, false, 0⟩, ⟨2, true, false, 0⟩, ⟨3, true, false, 0⟩, ⟨4, true, false, 0⟩, ⟨5, true, false, 0⟩, ⟨6, true, false, 0⟩, ⟨7, true, false, 0⟩, ⟨8, true, false, 0⟩, ⟨9, true, false, 0⟩, ⟨10, true, false, 0⟩, ⟨11, false, true, 0⟩] rfl rfl (by kernel_rfl) ?_))
      refine j_kCallO rfl rfl rfl rfl ?_
      refine jcpO (_ :: F) (o_mvAdd x d gs r.to n (d.grown 1 g.charge (g.contents.erase r.object)) r.first _ _ _ bc cc hd (by have := hok.2.2.1; omega) (fun y hy => by have := hok.2.2.2 y hy; omega) (by omega) (by omega) (by omega) (by omega) hgw hfr) rfl (List.Perm.cons _ (List.Perm.swap _ _ _)) (by repeat' (first | exact LeL.nil | refine LeL.cons ?_ ?_ | exact Le.refl _ | exact Le.nilm _ _ | exact Le.nil _)) rfl rfl (fun v h3 hR => ?_)
      obtain ⟨b2, c2, rfl⟩ := hR
      repeat' (first
      | refine j_nilO ?_
      | refine blockQ_normal ?_)
      refine endD_view (view_perm (List.Perm.cons _ (List.Perm.swap _ _ _))) ?_
      exact endD_ret (h1 := [_, _, _]) rfl .nil (Le.refl _) ⟨sk, bs, cs, _, _, (hok.add ⟨by dsimp only; omega, by dsimp only; omega⟩).mono (by omega), hT, rfl⟩ (.inr rfl)
    · rw [(C4 (by omega)).1, (C4 (by omega)).2]
      refine j_view (view_freeze (g := Go.AI.encI) (z := 1) (ys := d.grown 1 g.charge (g.contents.erase r.object)) 0 86 rfl rfl rfl (fun _ => rfl) rfl rfl) ?_
      refine j_kCall rfl rfl rfl rfl ?_
      refine jcp (_ :: F) (o_mvAdd x d gs r.to n (d.grown 1 g.charge (g.contents.erase r.object)) [] _ _ _ bc cc hd (by have := hok.2.2.1; omega) (fun y hy => by have := hok.2.2.2 y hy; omega) (by omega) (by omega) (by omega) (by simp) hgw (by simp)) (List.Perm.cons _ (List.Perm.swap _ _ _)) (by repeat' (first | exact LeL.nil | refine LeL.cons ?_ ?_ | exact Le.refl _ | exact Le.nilm _ _ | exact Le.nil _)) rfl rfl (fun v h3 hR => ?_)
      obtain ⟨b2, c2, rfl⟩ := hR
      have ok1 := hok.add (g := ⟨r.to, srtL d.objects (d.grown 1 g.charge (g.contents.erase r.object) ++ []), n⟩) ⟨by dsimp only; omega, by dsimp only; omega⟩
      repeat' (first
      | (refine j_go ?_; first
        | refine j_op0 rfl rfl rfl rfl ?_)
      | refine j_nil ?_
      | (refine r_go ?_; first | refine run_region ?_)
      | refine seqQ_normal ?_)
      refine j_kCall rfl rfl rfl rfl ?_
      refine jcp (_ :: F) (o_mvPourX x d.objects sk r.first n _ _ _ _ bs cs hn2 hok.1 (by omega) hok.2.1 hfr full hT) (List.Perm.cons _ (List.Perm.swap _ _ _)) (LeL.refl _) rfl rfl (fun v h4 hR => ?_)
      obtain ⟨sk2, b3, c3, p1, p2, p3, rfl⟩ := hR
      repeat' (first
      | refine j_nil ?_
      | refine blockQ_normal ?_)
      exact endD_ret (h1 := [_, _, _]) rfl .nil (Le.refl _) ⟨sk2, b3, c3, _, _, (ok1.mono (by omega)).skin p1 p2, p3, rfl⟩ (.inr rfl)
    · rw [(C6 (by omega)).1, (C6 (by omega)).2]
      refine run_view (view_freeze (g := Go.AI.encI) (z := 1) (ys := d.grown 1 g.charge (g.contents.erase r.object)) 0 10 rfl rfl rfl (fun _ => rfl) rfl rfl) ?_
      repeat' (first
      | (refine j_goO ?_; first
        | refine j_op0O rfl rfl rfl rfl ?_)
      | (refine r_go ?_; first | refine run_opn 17 [⟨0, true, false, 0⟩, ⟨1, true, false, 0⟩, ⟨2, true, false, 0⟩, ⟨3, true, false, 0⟩, ⟨4, true, false, 0⟩, ⟨5, true, false, 0⟩, ⟨6, true, false, 0⟩, ⟨7, true, false, 0⟩, ⟨8, true, false, 0⟩, ⟨9, true, false, 0⟩, ⟨10, true, false, 0⟩, ⟨11, false, true, 0⟩] rfl rfl (by kernel_rfl) ?_))
      refine j_kCallO rfl rfl rfl rfl ?_
      refine jcpO (_ :: F) (o_mvAdd x d gs r.to n (d.grown 1 g.charge (g.contents.erase r.object)) r.first _ _ _ bc cc hd (by have := hok.2.2.1; omega) (fun y hy => by have := hok.2.2.2 y hy; omega) (by omega) (by omega) (by omega) (by omega) hgw hfr) rfl (List.Perm.cons _ (List.Perm.swap _ _ _)) (by repeat' (first | exact LeL.nil | refine LeL.cons ?_ ?_ | exact Le.refl _ | exact Le.nilm _ _ | exact Le.nil _)) rfl rfl (fun v h3 hR => ?_)
      obtain ⟨b2, c2, rfl⟩ := hR
      have ok1 := hok.add (g := ⟨r.to, srtL d.objects (d.grown 1 g.charge (g.contents.erase r.object) ++ r.first), n⟩) ⟨by dsimp only; omega, by dsimp only; omega⟩
      repeat' (first
      | (refine j_goO ?_; first
        | refine j_op0O rfl rfl rfl rfl ?_)
      | refine j_nilO ?_
      | (refine r_go ?_; first | refine run_opn 18 [⟨0, true, false, 0⟩, ⟨1, true, false, 0⟩, ⟨2, true, false, 0⟩, ⟨3, true, false, 0⟩, ⟨4, true, false, 0⟩, ⟨5, true, false, 0⟩, ⟨6, true, false, 0⟩, ⟨7, true, false, 0⟩, ⟨8, true, false, 0⟩, ⟨9, true, false, 0⟩, ⟨10, true, false, 0⟩, ⟨11, false, true, 0⟩] rfl rfl (by kernel_rfl) ?_)
      | refine seqQ_normal ?_)
      refine j_kCallO rfl rfl rfl rfl ?_
      refine jcpO (_ :: F) (o_mvAdd x d _ r.toB n (d.grown 1 g.charge (g.contents.erase r.object)) r.second _ _ _ b2 c2 hd (by have := ok1.2.2.1; omega) (fun y hy => by have := ok1.2.2.2 y hy; omega) (by omega) (by omega) (by omega) (by omega) hgw hsr) rfl (List.Perm.refl _) (by repeat' (first | exact LeL.nil | refine LeL.cons ?_ ?_ | exact Le.refl _ | exact Le.nilm _ _ | exact Le.nil _)) rfl rfl (fun v h3 hR => ?_)
      obtain ⟨b3, c3, rfl⟩ := hR
      repeat' (first
      | refine j_nilO ?_
      | refine blockQ_normal ?_)
      refine endD_view (view_perm (List.Perm.cons _ (List.Perm.swap _ _ _))) ?_
      exact endD_ret (h1 := [_, _, _]) rfl .nil (Le.refl _) ⟨sk, bs, cs, _, _, (ok1.add ⟨by dsimp only; omega, by dsimp only; omega⟩).mono (by omega), hT, rfl⟩ (.inr rfl)
    · rw [(C7 (by omega)).1, (C7 (by omega)).2]
      refine j_append 0 (g := Go.AI.encI) (ys := d.grown 1 g.charge (g.contents.erase r.object)) r.first rfl rfl rfl rfl rfl rfl rfl rfl rfl rfl rfl rfl (fun _ => rfl) (fun _ _ => rfl) ⟨by omega, by omega⟩ rfl rfl (fun b' cap' => ?_)
      repeat' (first
      | (refine j_go ?_; first
        | refine j_op0 rfl rfl rfl rfl ?_))
      refine j_view (view_freeze (g := Go.AI.encI) (z := 1) (ys := d.grown 1 g.charge (g.contents.erase r.object) ++ r.first) 0 131 rfl rfl rfl (fun _ => rfl) rfl rfl) ?_
      refine j_kCall rfl rfl rfl rfl ?_
      refine jcp (_ :: F) (o_mvPourX x d.objects sk (d.grown 1 g.charge (g.contents.erase r.object) ++ r.first) n _ _ _ _ bs cs hn2 hok.1 (by rw [List.length_append]; omega) hok.2.1 (mem_rng2 hgw hfr) full hT) (List.Perm.refl _) (LeL.refl _) rfl rfl (fun v h4 hR => ?_)
      obtain ⟨sk2, b3, c3, p1, p2, p3, rfl⟩ := hR
      repeat' (first
      | refine j_nil ?_
      | refine blockQ_normal ?_)
      exact endD_ret (h1 := [_, _, _]) rfl .nil (Le.refl _) ⟨sk2, b3, c3, _, _, (hok.mono (by omega)).skin p1 p2, p3, rfl⟩ (.inr rfl)
end Go.Proofs.YtbhiaccbpbnbmaaGreat

/-
  A step of a colony: group of the reference, exactly. No condition.
-/
namespace Go.Proofs.YtbhiaccbpbnbmaaGreat
open Go.AI
set_option maxRecDepth 8000
set_option maxHeartbeats 3200000
theorem usK_rest {d : Division} {g : Group} {l : List Int} {k : Nat} (hk : k ≤ d.rules.length) (h : (stK d g l k).2 = 0) : usK d g l d.rules.length = usK d g l k := by
  have key : ∀ j, k + j ≤ d.rules.length → usK d g l (k + j) = usK d g l k ∧ (stK d g l (k + j)).2 = 0 := by
    intro j
    induction j with
    | zero => intro _; exact ⟨rfl, h⟩
    | succ j ih =>
      intro hj
      obtain ⟨i1, i2⟩ := ih (by omega)
      have hlt : k + j < d.rules.length := by omega
      have m0 : manyOf g (stK d g l (k + j)).1 (stK d g l (k + j)).2 d.rules[k + j] = 0 := many_no (.inr (.inr (.inr i2)))
      rw [← Nat.add_assoc]
      refine ⟨by rw [usK_no hlt (by omega), i1], ?_⟩
      rw [stK_succ hlt]
      show (stK d g l (k + j)).2 - manyOf g (stK d g l (k + j)).1 (stK d g l (k + j)).2 d.rules[k + j] = 0
      omega
  have := (key (d.rules.length - k) (by omega)).1
  rwa [show k + (d.rules.length - k) = d.rules.length by omega] at this
theorem rfl_cells (d : Division) (g : Group) (c : Int) : cellsU d ⟨g, rule0, c⟩ = [⟨g.charge, d.grown 1 g.charge g.contents, c⟩] := by
  unfold cellsU ctU rule0
  dsimp only
  rw [if_neg (by omega), if_neg (by omega), if_neg (by omega), if_neg (by omega), if_pos (.inl rfl)]
theorem o_mvGroupX (x : Nat) (d : Division) (left sk : List Int) (gs : List Group) (g : Group) (B : Nat) (U : Prop) (bs bc : Option Nat) (cs cc : Nat) (hv : d.Valid) (hn : 1 ≤ g.count ∧ g.count ≤ 5000) (hch : -1 ≤ g.charge ∧ g.charge ≤ 1) (hl : left.length ≤ 1000) (hg : HeapOf d.objects g.contents 60) (hok : MvOk d B sk gs) (hB : B ≤ 80000) (full : List Int) (hT : TrP full sk) :
    Does Tryz.prog 53 [.op (some x) 0, .ip (encGroup g)] [mvB x d left bs sk.length cs bc gs.length cc (.raw (.bool (dec U))), mvS bs cs sk, mvC bc cc gs]
      (MvX x d (B + 241) (stG d left g) (.raw (.bool (dec (U ∨ usedG d left g)))) (addM d.objects gs (cellsA d (usG d left g))) (full ++ outA d (usG d left g))) := by
  refine fn_of_runD tyOk ztOk mix Tryz.func53 rfl (by decide) Tryz.ntmps53 (fun w0 F => ?_)
  change Run _ _ _ _ _ (_ :: _ :: _ :: F)
  have hd := hv.1
  have r120 := hv.2.1
  have hg60 := hg.2
  have hgr := hg.rng
  repeat' (first
      | (refine j_go ?_; first
        | refine j_op0 rfl rfl rfl rfl ?_)
      | refine j_nil ?_
      | (refine r_go ?_; first | refine run_seq ?_ | refine run_region ?_ | refine run_block ?_)
      | refine seqQ_normal ?_)
  have e0 : dec U = dec (U ∨ (stK d g left 0).2 < g.count) := dec_congr ⟨.inl, fun q => q.resolve_right (Int.lt_irrefl _)⟩
  refine run_loop (fun s : Nat × List Int × List Group × Option Nat × Nat × Option Nat × Nat => [(0, .op (some x) 0), (1, .ip (encGroup g)), (4, .int (stK d g left s.1).2), (5, .int (s.1 : Int))])
    (fun s => mvB x d (stK d g left s.1).1 s.2.2.2.1 s.2.1.length s.2.2.2.2.1 s.2.2.2.2.2.1 s.2.2.1.length s.2.2.2.2.2.2 (.raw (.bool (dec (U ∨ (stK d g left s.1).2 < g.count)))) :: mvS s.2.2.2.1 s.2.2.2.2.1 s.2.1 :: mvC s.2.2.2.2.2.1 s.2.2.2.2.2.2 s.2.2.1 :: F)
    (fun s => s.1 ≤ d.rules.length ∧ MvOk d (B + 2 * s.1) s.2.1 s.2.2.1 ∧ s.2.2.1 = addM d.objects gs (cellsA d (usK d g left s.1)) ∧ TrP (full ++ outA d (usK d g left s.1)) s.2.1) (fun s => d.rules.length - s.1) (0, sk, gs, bs, cs, bc, cc) ⟨rfl, rfl, rfl, rfl, trivial⟩ (by rw [e0]; rfl) ⟨Nat.zero_le _, hok, rfl, by (show TrP (full ++ []) sk); rw [List.append_nil]; exact hT⟩ (fun ⟨k, sk, gs2, bs, cs, bc, cc⟩ ⟨kl, ok, eg, tr⟩ => ?_)
  dsimp only at kl ok eg tr ⊢
  have sb := stK_bnd (d := d) (g := g) (l := left) (k := k) (by omega)
  have es := @stK_succ d g left k
  have ez := @stK_zero d g left k
  have ey := @usK_yes d g left k
  have en := @usK_no d g left k
  have ef : (stK d g left k).2 = 0 → usK d g left d.rules.length = usK d g left k := fun q => usK_rest kl q
  have efl : k = d.rules.length → usK d g left d.rules.length = usK d g left k := fun q => by rw [q]
  have eG : usG d left g = usK d g left d.rules.length ++ (if 0 < (stK d g left d.rules.length).2 then [⟨g, rule0, (stK d g left d.rules.length).2⟩] else []) := rfl
  have ek : k = d.rules.length → stK d g left d.rules.length = stK d g left k := fun q => by rw [q]
  have uG : ∀ y, stK d g left d.rules.length = y → (stG d left g = y.1 ∧ usedG d left g = (y.2 < g.count ∨ (0 < y.2 ∧ ∃ x ∈ g.contents, d.hasR 1 g.charge x))) := fun y q => by subst q; exact ⟨rfl, rfl⟩
  generalize stK d g left k = s at sb es ez ek ey en ef ⊢
  obtain ⟨l, c⟩ := s
  dsimp only at sb es ez ek ey en ef ⊢
  have sl := sb.1.length_le
  by_cases hx : k < d.rules.length ∧ 0 < c
  case pos =>
    obtain ⟨hk, hc⟩ := hx
    have hr := hv.2.2 _ (List.getElem_mem hk)
    have hr7 := hr.1
    have es := es hk
    have step : ∀ (n : Int), manyOf g l c d.rules[k] = n → stK d g left (k + 1) = (if d.rules[k].kind = 5 then eraseN d.rules[k].object n.toNat l else l, c - n) := fun n q => by rw [es, ← q]; rfl
    have no : manyOf g l c d.rules[k] = 0 → gs2 = addM d.objects gs (cellsA d (usK d g left (k + 1))) ∧ TrP (full ++ outA d (usK d g left (k + 1))) sk := fun q => by
      rw [en hk (by omega)]; exact ⟨eg, tr⟩
    have yes : ∀ n, manyOf g l c d.rules[k] = n → 0 < n → ∀ sk', TrP ((full ++ outA d (usK d g left k)) ++ repL n.toNat (outU d ⟨g, d.rules[k], n⟩)) sk' → addM d.objects gs2 (cellsU d ⟨g, d.rules[k], n⟩) = addM d.objects gs (cellsA d (usK d g left (k + 1))) ∧ TrP (full ++ outA d (usK d g left (k + 1))) sk' := fun n q qn sk' z => by
      subst q
      rw [ey hk qn, cellsA_app, cellsA_one, addM_app, ← eg, outA_app, outA_one, ← List.append_assoc]
      exact ⟨rfl, z⟩
    have skip : manyOf g l c d.rules[k] = 0 → stK d g left (k + 1) = (l, c) := fun q => by rw [es, stR_0 q]
    repeat' (first
      | (refine j_go ?_; first
        | refine j_op0 rfl rfl rfl rfl ?_ | refine j_off rfl rfl rfl ?_ | (refine j_kIdx rfl ?_; first | refine j_idx rfl rfl rfl rfl rfl (by omega) rfl rfl rfl ?_) | (refine j_kBin rfl ?_; first | refine j_in rfl rfl ⟨by omega, by omega⟩ rfl rfl ?_) | (refine j_kLen rfl ?_; first | refine j_len rfl rfl rfl rfl rfl rfl ?_) | (refine j_kCall rfl rfl rfl rfl ?_; first | refine jc (c_l00Has g.contents d.rules[k].object) (LeL.refl _) rfl rfl ?_) | (refine j_kLoad rfl ?_; first | refine j_mload 0 rfl rfl rfl rfl rfl rfl rfl ?_) | (refine j_kGuard rfl ?_; first | (refine (j_if rfl rfl rfl (fun hb => ?_) (fun hb => ?_)) <;> first | (exfalso; omega) | skip)))
      | refine j_nil ?_
      | (refine r_go ?_; first | refine run_seq ?_ | refine run_region ?_ | refine run_cond_t rfl ?_ | (refine (run_if rfl (fun hb => ?_) (fun hb => ?_)) <;> first | (exfalso; omega) | skip) | (refine (run_ifn rfl (fun hb => ?_) (fun hb => ?_)) <;> first | (exfalso; omega) | skip) | refine run_block ?_ | refine run_exit ?_ | refine run_skip ?_ | refine run_regionD (by kernel_rfl) ?_)
      | refine seqQ_normal ?_ | refine seqQ_exit ?_ | refine blockQ_normal ?_ | refine blockQ_eq ?_)
    · exact loopQ_next (k + 1, sk, gs2, bs, cs, bc, cc) ⟨by dsimp only; omega, ok.mono (by dsimp only; omega), no (many_no (by omega))⟩ (by dsimp only; omega) (by dsimp only; rw [skip (many_no (by omega))]) ⟨rfl, rfl, (by dsimp only; rw [skip (many_no (by omega))]; rfl), nx _, trivial⟩
    · exact loopQ_next (k + 1, sk, gs2, bs, cs, bc, cc) ⟨by dsimp only; omega, ok.mono (by dsimp only; omega), no (many_no (by omega))⟩ (by dsimp only; omega) (by dsimp only; rw [skip (many_no (by omega))]) ⟨rfl, rfl, (by dsimp only; rw [skip (many_no (by omega))]; rfl), nx _, trivial⟩
    · have h5 : d.rules[k].kind = 5 := by assumption
      have hm : ¬ (d.rules[k].kind = 1 ∨ d.rules[k].kind = 2 ∨ d.rules[k].charge ≠ g.charge ∨ c = 0) := by omega
      refine j_kCall rfl rfl rfl rfl ?_
      refine jcp (_ :: _ :: F) (o_mvCount x l d.rules[k].object _ _ _ _ (by omega)) (List.Perm.refl _) (LeL.refl _) rfl rfl (fun v h3 hR => ?_)
      obtain ⟨rfl, rfl⟩ := hR
      have ob := occ_bnd d.rules[k].object l
      repeat' (first
      | (refine j_go ?_; first
        | refine j_op0 rfl rfl rfl rfl ?_ | (refine j_kBin rfl ?_; first | refine j_in rfl rfl ⟨by omega, by omega⟩ rfl rfl ?_) | (refine j_kCall rfl rfl rfl rfl ?_; first | refine jc (c_l00Min c (occ d.rules[k].object l)) (LeL.refl _) rfl rfl ?_))
      | refine j_nil ?_
      | (refine r_go ?_; first | refine run_seq ?_ | refine run_region ?_ | (refine (run_if rfl (fun hb => ?_) (fun hb => ?_)) <;> first | (exfalso; omega) | skip) | refine run_skip ?_)
      | refine seqQ_normal ?_ | refine blockQ_normal ?_)
      · refine j_kCall rfl rfl rfl rfl ?_
        refine jcp F (o_mvMainX x d l sk gs2 g d.rules[k] (min c (occ d.rules[k].object l)) (B + 2 * k) (dec (U ∨ c < g.count)) bs bc cs cc hv hr (by omega) (by omega) (by omega) hg ok (by omega) _ tr) (List.Perm.refl _) (LeL.refl _) rfl rfl (fun v h3 hR => ?_)
        obtain ⟨sk2, b2, c2, b3, c3, ok2, tr2, rfl⟩ := hR
        rw [if_pos h5]
        have es2 := step _ (many_in hm h5)
        rw [if_pos h5] at es2
        have eD : dec (U ∨ c - (min c (occ d.rules[k].object l)) < g.count) = true := dec_t (.inr (by omega))
        repeat' (first
      | (refine j_go ?_; first
        | refine j_op0 rfl rfl rfl rfl ?_ | (refine j_kBin rfl ?_; first | refine j_in rfl rfl ⟨by omega, by omega⟩ rfl rfl ?_))
      | refine j_nil ?_
      | (refine r_go ?_; first | refine run_region ?_)
      | refine seqQ_normal ?_ | refine blockQ_normal ?_)
        exact loopQ_next (k + 1, sk2, addM d.objects gs2 (cellsU d ⟨g, d.rules[k], (min c (occ d.rules[k].object l))⟩), b2, c2, b3, c3) ⟨by dsimp only; omega, ok2.mono (by dsimp only; omega), yes _ (many_in hm h5) (by omega) _ tr2⟩ (by dsimp only; omega) (by dsimp only; rw [es2, eD]; try rfl) ⟨rfl, rfl, (by dsimp only; rw [es2]; rfl), nx _, trivial⟩
      · exact loopQ_next (k + 1, sk, gs2, bs, cs, bc, cc) ⟨by dsimp only; omega, ok.mono (by dsimp only; omega), no (by rw [many_in hm h5]; omega)⟩ (by dsimp only; omega) (by dsimp only; rw [skip (by rw [many_in hm h5]; omega)]; try rfl) ⟨rfl, rfl, (by dsimp only; rw [skip (by rw [many_in hm h5]; omega)]; rfl), nx _, trivial⟩
    · have h5 : ¬ d.rules[k].kind = 5 := by assumption
      have hm : ¬ (d.rules[k].kind = 1 ∨ d.rules[k].kind = 2 ∨ d.rules[k].charge ≠ g.charge ∨ c = 0) := by omega
      refine j_kCall rfl rfl rfl rfl ?_
      refine jcp F (o_mvMainX x d l sk gs2 g d.rules[k] (c) (B + 2 * k) (dec (U ∨ c < g.count)) bs bc cs cc hv hr (by omega) (by omega) (by omega) hg ok (by omega) _ tr) (List.Perm.refl _) (LeL.refl _) rfl rfl (fun v h3 hR => ?_)
      obtain ⟨sk2, b2, c2, b3, c3, ok2, tr2, rfl⟩ := hR
      rw [if_neg h5]
      have es2 := step _ (many_yes hm h5 (by assumption))
      rw [if_neg h5] at es2
      have eD : dec (U ∨ c - (c) < g.count) = true := dec_t (.inr (by omega))
      repeat' (first
      | (refine j_go ?_; first
        | refine j_op0 rfl rfl rfl rfl ?_ | (refine j_kBin rfl ?_; first | refine j_in rfl rfl ⟨by omega, by omega⟩ rfl rfl ?_))
      | refine j_nil ?_
      | (refine r_go ?_; first | refine run_region ?_)
      | refine seqQ_normal ?_ | refine blockQ_normal ?_)
      exact loopQ_next (k + 1, sk2, addM d.objects gs2 (cellsU d ⟨g, d.rules[k], c⟩), b2, c2, b3, c3) ⟨by dsimp only; omega, ok2.mono (by dsimp only; omega), yes _ (many_yes hm h5 (by assumption)) (by omega) _ tr2⟩ (by dsimp only; omega) (by dsimp only; rw [es2, eD]; try rfl) ⟨rfl, rfl, (by dsimp only; rw [es2]; rfl), nx _, trivial⟩
    · have h5 : ¬ d.rules[k].kind = 5 := by assumption
      have hm : ¬ (d.rules[k].kind = 1 ∨ d.rules[k].kind = 2 ∨ d.rules[k].charge ≠ g.charge ∨ c = 0) := by omega
      exact loopQ_next (k + 1, sk, gs2, bs, cs, bc, cc) ⟨by dsimp only; omega, ok.mono (by dsimp only; omega), no (many_out hm h5 (by assumption))⟩ (by dsimp only; omega) (by dsimp only; rw [skip (many_out hm h5 (by assumption))]) ⟨rfl, rfl, (by dsimp only; rw [skip (many_out hm h5 (by assumption))]; rfl), nx _, trivial⟩
  case neg =>
    have eK : stK d g left d.rules.length = (l, c) := by
      by_cases hk : k < d.rules.length
      · exact ez (by omega)
      · exact ek (by omega)
    obtain ⟨u1, u2⟩ := uG _ eK
    rw [u1, u2]
    dsimp only
    have eU : usK d g left d.rules.length = usK d g left k := by
      by_cases hk : k < d.rules.length
      · exact ef (by omega)
      · exact efl (by omega)
    rw [eK, eU] at eG
    dsimp only at eG
    have g0 : ¬ 0 < c → addM d.objects gs (cellsA d (usG d left g)) = gs2 ∧ TrP (full ++ outA d (usG d left g)) sk := fun q => by
      rw [eG, if_neg q, List.append_nil]; exact ⟨eg.symm, tr⟩
    have g1 : 0 < c → addM d.objects gs (cellsA d (usG d left g)) = insM gs2 ⟨g.charge, srtL d.objects (d.grown 1 g.charge g.contents ++ []), c⟩ ∧ TrP (full ++ outA d (usG d left g)) sk := fun q => by
      have e1 : cellsU d ⟨g, rule0, c⟩ = [⟨g.charge, d.grown 1 g.charge g.contents, c⟩] := rfl_cells d g c
      have e2 : repL c.toNat (outU d ⟨g, rule0, c⟩) = [] := repL_nil _
      rw [eG, if_pos q, cellsA_app, cellsA_one, addM_app, ← eg, e1, addM_one, outA_app, outA_one, e2, List.append_nil, List.append_nil]
      exact ⟨rfl, tr⟩
    have hgw := grown_rng hv (kind := 1) (charge := g.charge) hgr
    have gl := grown_len hv (kind := 1) (charge := g.charge) g.contents
    have eU0 : ¬ 0 < c → dec (U ∨ (c < g.count ∨ (0 < c ∧ ∃ x ∈ g.contents, d.hasR 1 g.charge x))) = dec (U ∨ c < g.count) := fun q => dec_congr ⟨fun z => z.elim .inl (fun z => z.elim .inr (fun z => absurd z.1 q)), fun z => z.elim .inl (fun z => .inr (.inl z))⟩
    have eU1 : (U ∨ c < g.count) → dec (U ∨ (c < g.count ∨ (0 < c ∧ ∃ x ∈ g.contents, d.hasR 1 g.charge x))) = true := fun q => dec_t (q.elim .inl (fun z => .inr (.inl z)))
    have eU2 : ¬ (U ∨ c < g.count) → 0 < c → dec (U ∨ (c < g.count ∨ (0 < c ∧ ∃ x ∈ g.contents, d.hasR 1 g.charge x))) = dec (∃ x ∈ g.contents, d.hasR 1 g.charge x) := fun q q2 => dec_congr ⟨fun z => z.elim (fun z => absurd (.inl z) q) (fun z => z.elim (fun z => absurd (.inr z) q) (fun z => z.2)), fun z => .inr (.inr ⟨q2, z⟩)⟩
    repeat' (first
      | (refine j_go ?_; first
        | refine j_op0 rfl rfl rfl rfl ?_ | refine j_off rfl rfl rfl ?_ | (refine j_kLen rfl ?_; first | refine j_len rfl rfl rfl rfl rfl rfl ?_) | (refine j_kCall rfl rfl rfl rfl ?_; first | refine jc (c_l07Grown d 1 g.charge g.contents hv (by omega)) (LeL.refl _) rfl rfl ?_) | (refine j_kLoad rfl ?_; first | refine j_mload 0 rfl rfl rfl rfl rfl rfl rfl ?_) | (refine j_kStore rfl ?_; first | refine j_store 0 rfl rfl rfl rfl rfl rfl rfl rfl rfl rfl rfl ?_) | (refine j_kBsl rfl ?_; first | refine j_bs0 rfl rfl rfl rfl rfl rfl ?_) | (refine j_kGuard rfl ?_; first | (refine (j_if rfl rfl rfl (fun hb => ?_) (fun hb => ?_)) <;> first | (exfalso; omega) | skip)))
      | refine j_nil ?_
      | (refine r_go ?_; first | refine run_seq ?_ | refine run_region ?_ | refine run_cond_f rfl ?_ | (refine (run_if rfl (fun hb => ?_) (fun hb => ?_)) <;> first | (exfalso; omega) | skip) | refine run_exit ?_ | refine run_skip ?_ | refine run_regionD (by kernel_rfl) ?_)
      | refine seqQ_normal ?_ | refine seqQ_exit ?_ | refine blockQ_eq ?_ | refine loopQ_exit ?_)
    · exact endD_ret (h1 := [_, _, _]) rfl .nil (Le.refl _) ⟨sk, bs, cs, bc, cc, by rw [(g0 (by omega)).1]; exact ok.mono (by omega), (g0 (by omega)).2, by rw [eU0 (by omega), (g0 (by omega)).1]⟩ (.inr rfl)
    · refine j_kCall rfl rfl rfl rfl ?_
      refine jcp (_ :: F) (o_mvAdd x d gs2 g.charge c (d.grown 1 g.charge g.contents) [] _ _ _ bc cc hd (by have := ok.2.2.1; omega) (fun y hy => by have := ok.2.2.2 y hy; omega) (by omega) (by omega) (by omega) (by simp) hgw (by simp)) (List.Perm.cons _ (List.Perm.swap _ _ _)) (by repeat' (first | exact LeL.nil | refine LeL.cons ?_ ?_ | exact Le.refl _ | exact Le.nilm _ _ | exact Le.nil _)) rfl rfl (fun v h3 hR => ?_)
      obtain ⟨b2, c2, rfl⟩ := hR
      have ok1 := ok.add (g := ⟨g.charge, srtL d.objects (d.grown 1 g.charge g.contents ++ []), c⟩) ⟨by dsimp only; omega, by dsimp only; omega⟩
      repeat' (first
      | refine j_nil ?_)
      refine endD_view (view_perm (List.Perm.cons _ (List.Perm.swap _ _ _))) ?_
      exact endD_ret (h1 := [_, _, _]) rfl .nil (Le.refl _) ⟨sk, bs, cs, _, _, by rw [(g1 (by omega)).1]; exact ok1.mono (by omega), (g1 (by omega)).2, by rw [eU1 (by assumption), (g1 (by omega)).1]; try rfl⟩ (.inr rfl)
    · refine j_kCall rfl rfl rfl rfl ?_
      refine jcp (_ :: F) (o_mvAdd x d gs2 g.charge c (d.grown 1 g.charge g.contents) [] _ _ _ bc cc hd (by have := ok.2.2.1; omega) (fun y hy => by have := ok.2.2.2 y hy; omega) (by omega) (by omega) (by omega) (by simp) hgw (by simp)) (List.Perm.cons _ (List.Perm.swap _ _ _)) (by repeat' (first | exact LeL.nil | refine LeL.cons ?_ ?_ | exact Le.refl _ | exact Le.nilm _ _ | exact Le.nil _)) rfl rfl (fun v h3 hR => ?_)
      obtain ⟨b2, c2, rfl⟩ := hR
      have ok1 := ok.add (g := ⟨g.charge, srtL d.objects (d.grown 1 g.charge g.contents ++ []), c⟩) ⟨by dsimp only; omega, by dsimp only; omega⟩
      repeat' (first
      | refine j_nil ?_)
      refine endD_view (view_perm (List.Perm.cons _ (List.Perm.swap _ _ _))) ?_
      exact endD_ret (h1 := [_, _, _]) rfl .nil (Le.refl _) ⟨sk, bs, cs, _, _, by rw [(g1 (by omega)).1]; exact ok1.mono (by omega), (g1 (by omega)).2, by rw [eU2 (by assumption) (by omega), (g1 (by omega)).1]; try rfl⟩ (.inr rfl)
    · exact endD_ret (h1 := [_, _, _]) rfl .nil (Le.refl _) ⟨sk, bs, cs, bc, cc, by rw [(g0 (by omega)).1]; exact ok.mono (by omega), (g0 (by omega)).2, by rw [eU0 (by omega), (g0 (by omega)).1]⟩ (.inr rfl)
end Go.Proofs.YtbhiaccbpbnbmaaGreat

/-
  A step of a colony: the reference, exactly. No condition.
-/
namespace Go.Proofs.YtbhiaccbpbnbmaaGreat
open Go.AI
set_option maxRecDepth 8000
set_option maxHeartbeats 3200000
theorem pmx5 {α : Type} (a b c d e : α) (r : List α) : (a :: b :: c :: d :: e :: r).Perm (e :: ([a] ++ (b :: c :: d :: r))) := by
  classical exact List.perm_iff_count.2 fun _ => by simp only [List.count_cons, List.count_append, List.count_nil]; omega
theorem pmx4 {α : Type} (e b c d : α) (r : List α) : (e :: b :: c :: d :: r).Perm (e :: ([d] ++ (b :: c :: r))) := by
  classical exact List.perm_iff_count.2 fun _ => by simp only [List.count_cons, List.count_append, List.count_nil]; omega
end Go.Proofs.YtbhiaccbpbnbmaaGreat
