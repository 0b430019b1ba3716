/-
  The system that decides a formula: the program's side. No condition.
-/
import Derived.Test.YtgjlemedckhlfaaZS7i
import Derived.Test.YtgjlemedckhlfaaZPB
import Derived.Test.YtgjlemedckhlfaaZJA
namespace Go.Proofs.Ytgjlemedckhlfaa
open Go.AI
set_option maxRecDepth 8000
set_option maxHeartbeats 1600000

theorem c_sizeII (l : List (List Int)) : Gives Try.prog 133 [.sl (l.map (encS encI))] (.int l.length) := by
  refine fn_of_run tyOk ztOk mix Try.func133 rfl (by decide) Try.ntmps133 (fun w0 h => ?_)
  repeat' (first
      | (refine j_go ?_; first
        | refine j_op0 rfl rfl rfl rfl ?_ | (refine j_kLen rfl ?_; first | refine j_len rfl rfl rfl rfl rfl rfl ?_))
      | refine j_nil ?_
      | (refine r_go ?_; first | refine run_seq ?_ | refine run_region ?_ | refine run_ret ?_)
      | refine seqQ_normal ?_)
  exact end1 rfl (List.Sublist.refl _) (rfl) (.inl rfl)
/-- Rules in memory of the call's own. -/
structure RB (L : List DivRule) (css : List (Cells 7)) (hs : List Heap) : Prop where
  l1 : css.length = L.length
  l2 : hs.length = L.length
  all : ∀ i (hi : i < L.length) (h1 : i < css.length) (h2 : i < hs.length), ERRule L[i] css[i].1 hs[i]
theorem RB.snoc {L : List DivRule} {css : List (Cells 7)} {hs : List Heap} (R : RB L css hs) {r : DivRule} {c : Cells 7} {h : Heap} (q : ERRule r c.1 h) : RB (L ++ [r]) (css ++ [c]) (hs ++ [h]) := by
  obtain ⟨l1, l2, all⟩ := R
  refine ⟨by simp [l1], by simp [l2], fun i hi h1 h2 => ?_⟩
  by_cases hk : i < L.length
  · rw [List.getElem_append_left hk, List.getElem_append_left (by omega), List.getElem_append_left (by omega)]; exact all i hk _ _
  · have e : i = L.length := by simp at hi; omega
    subst e
    rw [List.getElem_append_right (by omega), List.getElem_append_right (by omega), List.getElem_append_right (by omega)]
    simpa [l1, l2] using q
def DB (d : Nat) (N : Int) (L : List DivRule) (h : Heap) : Prop := ∃ (ob : Option Nat) (cap : Nat) (css : List (Cells 7)) (hs : List Heap), RB L css hs ∧ h = ⟨ob, 191, cap * 7, (css.map Subtype.val).flatten⟩ :: ⟨some d, 82, 2, [.int N, .os ob css.length cap]⟩ :: hs.flatten
theorem DB.nil (d : Nat) (N : Int) : DB d N [] [⟨none, 191, 0 * 7, []⟩, ⟨some d, 82, 2, [.int N, .os none 0 0]⟩] := ⟨none, 0, [], [], ⟨rfl, rfl, fun _ hi => absurd hi (Nat.not_lt_zero _)⟩, rfl⟩
theorem o_add (d : Nat) (N : Int) (L : List DivRule) (hL : L.length ≤ 100) (r : DivRule) (cs : List A) (hD hr : Heap) (H : DB d N L hD) (q : ERRule r cs hr) : Does Try.prog 134 [.agg cs, .op (some d) 0] (hD ++ hr) (fun _ h' => DB d N (L ++ [r]) h') := by
  obtain ⟨ob, cap, css, hs, R, rfl⟩ := H
  have R2 : ∀ c : Cells 7, c.1 = cs → RB (L ++ [r]) (css ++ [c]) (hs ++ [hr]) := fun c hc => R.snoc (by rw [hc]; exact q)
  obtain ⟨a0, h0, o0, a1, h1, o1, rfl, rfl⟩ := q
  have k0 := OwnF.okc o0
  have k1 := OwnF.okc o1
  have l1 := R.l1
  refine fn_of_runD tyOk ztOk mix Try.func134 rfl (by decide) Try.ntmps134 (fun w0 F => ?_)
  change Run _ _ _ _ _ (_ :: _ :: (hs.flatten ++ (h0 ++ h1) ++ F))
  repeat' (first
      | (refine j_go ?_; first
        | refine j_op0 rfl rfl rfl rfl ?_ | (refine j_kLoad rfl ?_; first | refine j_mload 1 rfl rfl rfl rfl rfl rfl rfl ?_) | (refine j_kBsl rfl ?_; first | refine j_bsl rfl rfl rfl rfl rfl rfl rfl rfl rfl rfl rfl ?_) | refine j_box rfl rfl rfl rfl rfl rfl ?_)
      | refine j_nil ?_
      | (refine r_go ?_; first | refine run_seq ?_ | refine run_region ?_)
      | refine seqQ_normal ?_)
  refine j_append 0 (g := Subtype.val) (ys := css) [(⟨[.int r.kind, .int r.charge, .int r.object, .int r.to, a0, .int r.toB, a1], rfl⟩ : Cells 7)] rfl rfl rfl rfl rfl rfl rfl rfl rfl rfl rfl rfl (fun y => y.2) (fun _ hy => by simp only [List.mem_singleton] at hy; subst hy; simp only [List.all_cons, List.all_nil, k0, k1]; rfl) ⟨by simp only [List.length_cons, List.length_nil]; omega, by simp only [List.length_cons, List.length_nil]; omega⟩ rfl rfl (fun ob' cp' => ?_)
  repeat' (first
      | (refine j_go ?_; first
        | refine j_op0 rfl rfl rfl rfl ?_ | (refine j_kStore rfl ?_; first | refine j_store 1 rfl rfl rfl rfl rfl rfl rfl rfl rfl rfl rfl ?_))
      | refine j_nil ?_)
  exact endD_ret (h1 := ⟨ob', 191, cp' * 7, ((css ++ [(⟨[.int r.kind, .int r.charge, .int r.object, .int r.to, a0, .int r.toB, a1], rfl⟩ : Cells 7)]).map Subtype.val).flatten⟩ :: ⟨some d, 82, 2, [.int N, .os ob' (css ++ [(⟨[.int r.kind, .int r.charge, .int r.object, .int r.to, a0, .int r.toB, a1], rfl⟩ : Cells 7)]).length cp']⟩ :: (hs ++ [h0 ++ h1]).flatten) (by simp only [List.flatten_append, List.flatten_cons, List.flatten_nil, List.append_nil, List.append_assoc, List.cons_append]; rfl) .nil (Le.refl _) ⟨ob', cp', _, _, R2 _ rfl, rfl⟩ (.inr rfl)
theorem perm_in0 {a c : Heap} : (a ++ c).Perm ((a ++ []) ++ c) := by rw [List.append_nil]
theorem perm_in1 {x : Blk} {a c : Heap} : (x :: (a ++ c)).Perm ((a ++ [x]) ++ c) := by classical exact List.perm_iff_count.2 fun _ => by simp only [List.count_append, List.count_cons, List.count_nil]; omega
theorem perm_in2 {x y : Blk} {a c : Heap} : (y :: x :: (a ++ c)).Perm ((a ++ [x, y]) ++ c) := by classical exact List.perm_iff_count.2 fun _ => by simp only [List.count_append, List.count_cons, List.count_nil]; omega
theorem perm_fin {a b c : Blk} {x F : Heap} : (a :: b :: c :: (x ++ F)).Perm (((c :: x) ++ ([] ++ (a :: [b]))) ++ F) := by classical exact List.perm_iff_count.2 fun _ => by simp only [List.count_append, List.count_cons, List.count_nil]; omega
/-- What the program hands back. -/
def CDi (x : Division) (y : Colony) (c : Int) : A → Heap → Prop := fun v h' => ∃ a b h1 h2, v = .tup [a, b, .int c] ∧ RODivision x a h1 ∧ ROColony y b h2 ∧ h' = h1 ++ h2
theorem CDi.nil {c : Int} : CDi ⟨0, []⟩ ⟨[], []⟩ c (.tup [.agg [.int 0, .sl []], .agg [.sl [], .sl []], .int c]) [] := ⟨_, _, [], [], rfl, ⟨.sl [], .inr ⟨rfl, rfl, rfl⟩, rfl⟩, ⟨.sl [], [], .inr ⟨rfl, rfl, rfl⟩, .sl [], [], .inr ⟨rfl, rfl, rfl⟩, rfl, rfl⟩, rfl⟩
theorem c_iCnfDivision (f : Cnf) : Does Try.prog 60 [.agg (encCnf f)] [] (CDi (resCnfDivision f) (colCnfDivision f) (codeCnfDivision f)) := by
  refine fn_of_runD tyOk ztOk mix Try.func60 rfl (by decide) Try.ntmps60 (fun w0 F => ?_)
  change Run _ _ _ _ _ F
  repeat' (first
      | (refine j_go ?_; first
        | refine j_op0 rfl rfl rfl rfl ?_ | (refine j_kCall rfl rfl rfl rfl ?_; first | refine jc (c_iValidCnf _) (LeL.refl _) rfl rfl ?_ | refine jc (c_sizeII _) (LeL.refl _) rfl rfl ?_) | (refine j_kStore rfl ?_; first | refine j_storeN 0 rfl rfl rfl rfl rfl rfl rfl rfl rfl rfl rfl ?_ | refine j_storeN 1 rfl rfl rfl rfl rfl rfl rfl rfl rfl rfl rfl ?_) | refine j_box rfl rfl rfl rfl rfl rfl ?_ | refine j_build rfl rfl rfl rfl rfl rfl rfl ?_ | refine j_alloc rfl rfl rfl rfl rfl (fun _ => ?_))
      | refine j_nil ?_
      | (refine r_go ?_; first | refine run_seq ?_ | refine run_region ?_ | (refine (run_ifn rfl (fun hb => ?_) (fun hb => ?_)) <;> first | (exfalso; omega) | skip) | refine run_ret ?_ | refine run_skip ?_ | refine run_regionD (by kernel_rfl) ?_)
      | refine seqQ_normal ?_ | refine seqQ_ret ?_)
  · rw [(cd_f2 hb).1, (cd_f2 hb).2.1, (cd_f2 hb).2.2]
    refine endD_view (view_freezeP 1 2 rfl rfl) (endD_view (view_freezeP 0 3 rfl rfl) ?_)
    exact endD_ret (h1 := []) rfl (.cons (.cellI rfl rfl) (.cons (.cellI rfl rfl) (.cons (.tmp rfl) .nil))) (Le.tup (LeL.cons (Le.agg (LeL.cons (Le.refl _) (LeL.cons (Le.nil 0) LeL.nil))) (LeL.cons (Le.agg (LeL.cons (Le.nil 0) (LeL.cons (Le.nil 0) LeL.nil))) (LeL.cons (Le.refl _) LeL.nil)))) CDi.nil (.inl rfl)
  have hv : f.Valid := by assumption
  rw [(cd_t2 hv).1, (cd_t2 hv).2.1, (cd_t2 hv).2.2]
  have v1 := hv.1
  have m6 := hv.2.1
  obtain ⟨e1, e2, e3, e4, e5⟩ := f.nums
  repeat' (first
      | (refine j_go ?_; first
        | refine j_op0 rfl rfl rfl rfl ?_ | (refine j_kBin rfl ?_; first | refine j_in rfl rfl ⟨by omega, by omega⟩ rfl rfl ?_) | (refine j_kStore rfl ?_; first | refine j_storeN 0 rfl rfl rfl rfl rfl rfl rfl rfl rfl rfl rfl ?_) | refine j_build rfl rfl rfl rfl rfl rfl rfl ?_ | refine j_alloc rfl rfl rfl rfl rfl (fun _ => ?_))
      | refine j_nil ?_
      | (refine r_go ?_; first | refine run_seq ?_ | refine run_region ?_ | refine run_block ?_)
      | refine seqQ_normal ?_)

  rename_i r2 r3 d
  refine run_view (view_none 191 0 rfl) ?_
  refine run_loop (fun x : Nat × Heap => [(1, .ip (encCnf f)), (2, .op (some r2) 0), (3, .op (some r3) 0), (5, .int f.vars), (6, .int f.clauses.length), (7, .int f.vars), (8, .int (2 * f.vars)), (9, .int f.mark), (10, .int f.phase), (11, .int f.pend), (12, .int f.round), (13, .int f.yes), (14, .op (some d) 0), (15, .fn 134 [.op (some d) 0]), (62, .int f.vars), (63, .int (x.1 : Int))]) (fun x => x.2 ++ (⟨some r3, 86, 2, [.os none 0 0, .os none 0 0]⟩ :: ⟨some r2, 82, 2, [.int 0, .os none 0 0]⟩ :: F))
    (fun x => x.1 ≤ f.vars.toNat ∧ DB d (f.yes + 1) (f.l1 x.1) x.2) (fun x => f.vars.toNat - x.1) (0, [⟨none, 191, 0, []⟩, ⟨some d, 82, 2, [.int (f.yes + 1), .os none 0 0]⟩]) ⟨rfl, rfl, rfl, rfl, rfl, rfl, rfl, rfl, rfl, rfl, rfl, rfl, rfl, rfl, rfl, rfl, trivial⟩ rfl ⟨Nat.zero_le _, by dsimp only; rw [l1_zero]; exact DB.nil d _⟩ (fun ⟨k, hD⟩ ⟨kl, kd⟩ => ?_)
  dsimp only at kl kd ⊢
  have il := l1_len f k
  by_cases hk : k < f.vars.toNat
  case pos =>
    repeat' (first
      | (refine j_go ?_; first
        | refine j_op0 rfl rfl rfl rfl ?_ | (refine j_kBin rfl ?_; first | refine j_in rfl rfl ⟨by omega, by omega⟩ rfl rfl ?_))
      | refine j_nil ?_
      | (refine r_go ?_; first | refine run_seq ?_ | refine run_region ?_ | (refine (run_if rfl (fun hb => ?_) (fun hb => ?_)) <;> first | (exfalso; omega) | skip) | refine run_block ?_ | refine run_skip ?_)
      | refine seqQ_normal ?_)
    refine j_bslM rfl rfl rfl rfl rfl rfl rfl rfl rfl rfl rfl (fun b0 => ?_)
    repeat' (first
      | (refine j_go ?_; first
        | refine j_op0 rfl rfl rfl rfl ?_ | (refine j_kBin rfl ?_; first | refine j_in rfl rfl ⟨by omega, by omega⟩ rfl rfl ?_)))
    refine j_bslM rfl rfl rfl rfl rfl rfl rfl rfl rfl rfl rfl (fun b1 => ?_)
    repeat' (first
      | (refine j_go ?_; first
        | refine j_build rfl rfl rfl rfl rfl rfl rfl ?_))
    refine j_kCall rfl rfl rfl rfl ?_
    refine jcp (⟨some r3, 86, 2, [.os none 0 0, .os none 0 0]⟩ :: ⟨some r2, 82, 2, [.int 0, .os none 0 0]⟩ :: F) (o_add d _ (f.l1 k) (by omega) (f.g1 k) _ hD [⟨some b0, 2, 1 * 1, _⟩, ⟨some b1, 2, 1 * 1, _⟩] kd ⟨_, _, (.inl ⟨some b0, 1, rfl, rfl⟩ : ROI _ _ _), _, _, (.inl ⟨some b1, 1, rfl, rfl⟩ : ROI _ _ _), rfl, rfl⟩) (perm_in2) (LeL.cons (Le.agg (LeL.cons (Le.refl _) (LeL.cons (Le.refl _) (LeL.cons (Le.refl _) (LeL.cons (Le.refl _) (LeL.cons (Le.refl _) (LeL.cons (Le.refl _) (LeL.cons (Le.refl _) LeL.nil)))))))) (LeL.refl _)) rfl rfl (fun v hD' hR => ?_)
    rw [l1_succ] at hR
    repeat' (first
      | (refine j_go ?_; first
        | refine j_op0 rfl rfl rfl rfl ?_ | (refine j_kBin rfl ?_; first | refine j_in rfl rfl ⟨by omega, by omega⟩ rfl rfl ?_))
      | refine j_nil ?_
      | (refine r_go ?_; first | refine run_region ?_)
      | refine seqQ_normal ?_ | refine blockQ_normal ?_)
    exact loopQ_next (k + 1, hD') ⟨by dsimp only; omega, hR⟩ (by dsimp only; omega) rfl ⟨rfl, rfl, rfl, rfl, rfl, rfl, rfl, rfl, rfl, rfl, rfl, rfl, rfl, rfl, rfl, nx _, trivial⟩
  have hke : k = f.vars.toNat := by omega
  subst hke
  repeat' (first
      | (refine j_go ?_; first
        | refine j_op0 rfl rfl rfl rfl ?_ | (refine j_kBin rfl ?_; first | refine j_in rfl rfl ⟨by omega, by omega⟩ rfl rfl ?_) | refine j_build rfl rfl rfl rfl rfl rfl rfl ?_)
      | refine j_nil ?_
      | (refine r_go ?_; first | refine run_seq ?_ | refine run_region ?_ | (refine (run_if rfl (fun hb => ?_) (fun hb => ?_)) <;> first | (exfalso; omega) | skip) | refine run_exit ?_)
      | refine seqQ_normal ?_ | refine seqQ_exit ?_ | refine blockQ_eq ?_ | refine loopQ_exit ?_)
  refine j_kCall rfl rfl rfl rfl ?_
  refine jcp (⟨some r3, 86, 2, [.os none 0 0, .os none 0 0]⟩ :: ⟨some r2, 82, 2, [.int 0, .os none 0 0]⟩ :: F) (o_add d _ (f.l1 f.vars.toNat) (by omega) (f.x2) _ hD [] kd ⟨_, _, (.inr ⟨rfl, rfl, rfl⟩ : ROI _ (.sl []) []), _, _, (.inr ⟨rfl, rfl, rfl⟩ : ROI _ (.sl []) []), rfl, rfl⟩) (perm_in0) (LeL.cons (Le.agg (LeL.cons (Le.refl _) (LeL.cons (Le.refl _) (LeL.cons (Le.refl _) (LeL.cons (Le.refl _) (LeL.cons (Le.nil 0) (LeL.cons (Le.refl _) (LeL.cons (Le.nil 0) LeL.nil)))))))) (LeL.refl _)) rfl rfl (fun v hD2 kd2 => ?_)
  rw [show f.l1 f.vars.toNat ++ [f.x2] = f.l2 from rfl] at kd2
  repeat' (first
      | (refine j_go ?_; first
        | refine j_op0 rfl rfl rfl rfl ?_ | (refine j_kLen rfl ?_; first | refine j_op rfl rfl rfl rfl ?_) | (refine j_kBsl rfl ?_; first | refine j_bsl rfl rfl rfl rfl rfl rfl rfl rfl rfl rfl rfl ?_))
      | refine j_nil ?_
      | (refine r_go ?_; first | refine run_seq ?_ | refine run_region ?_ | refine run_block ?_)
      | refine seqQ_normal ?_)
  refine run_loop (fun x : Nat × Heap => [(1, .ip (encCnf f)), (2, .op (some r2) 0), (3, .op (some r3) 0), (5, .int f.vars), (6, .int f.clauses.length), (7, .int f.vars), (8, .int (2 * f.vars)), (9, .int f.mark), (10, .int f.phase), (11, .int f.pend), (12, .int f.round), (13, .int f.yes), (14, .op (some d) 0), (15, .fn 134 [.op (some d) 0]), (86, .sl ([(1 : Int), -1].map encI)), (87, .int 2), (88, .int (x.1 : Int))]) (fun x => x.2 ++ (⟨some r3, 86, 2, [.os none 0 0, .os none 0 0]⟩ :: ⟨some r2, 82, 2, [.int 0, .os none 0 0]⟩ :: F))
    (fun x => x.1 ≤ 2 ∧ DB d (f.yes + 1) (if x.1 = 0 then f.l2 else if x.1 = 1 then f.l3 f.vars.toNat else f.l4 f.vars.toNat) x.2) (fun x => 2 - x.1) (0, hD2) ⟨rfl, rfl, rfl, rfl, rfl, rfl, rfl, rfl, rfl, rfl, rfl, rfl, rfl, rfl, rfl, rfl, rfl, trivial⟩ rfl ⟨Nat.zero_le _, kd2⟩ (fun ⟨s, hS⟩ ⟨sl, ks⟩ => ?_)
  dsimp only at sl ks ⊢
  by_cases hs0 : s = 0
  case pos =>
    subst hs0
    have ks' : DB d (f.yes + 1) (f.l2) hS := ks
    have ll : ([(1 : Int), -1] : List Int).length = 2 := rfl
    repeat' (first
      | (refine j_go ?_; first
        | refine j_op0 rfl rfl rfl rfl ?_ | (refine j_kIdx rfl ?_; first | refine j_idx rfl rfl rfl rfl rfl (by omega) rfl rfl rfl ?_))
      | refine j_nil ?_
      | (refine r_go ?_; first | refine run_seq ?_ | refine run_region ?_ | (refine (run_if rfl (fun hb => ?_) (fun hb => ?_)) <;> first | (exfalso; omega) | skip) | refine run_block ?_ | refine run_skip ?_)
      | refine seqQ_normal ?_)
    refine run_loop (fun x : Nat × Heap => [(1, .ip (encCnf f)), (2, .op (some r2) 0), (3, .op (some r3) 0), (5, .int f.vars), (6, .int f.clauses.length), (7, .int f.vars), (8, .int (2 * f.vars)), (9, .int f.mark), (10, .int f.phase), (11, .int f.pend), (12, .int f.round), (13, .int f.yes), (14, .op (some d) 0), (15, .fn 134 [.op (some d) 0]), (18, .int 1), (86, .sl ([(1 : Int), -1].map encI)), (87, .int 2), (88, .int 0), (92, .int f.vars), (93, .int (x.1 : Int))]) (fun x => x.2 ++ (⟨some r3, 86, 2, [.os none 0 0, .os none 0 0]⟩ :: ⟨some r2, 82, 2, [.int 0, .os none 0 0]⟩ :: F))
      (fun x => x.1 ≤ f.vars.toNat ∧ DB d (f.yes + 1) (f.l3 x.1) x.2) (fun x => f.vars.toNat - x.1) (0, hS) ⟨rfl, rfl, rfl, rfl, rfl, rfl, rfl, rfl, rfl, rfl, rfl, rfl, rfl, rfl, rfl, rfl, rfl, rfl, rfl, rfl, trivial⟩ rfl ⟨Nat.zero_le _, by dsimp only; rw [l3_zero]; exact ks'⟩ (fun ⟨k, hD⟩ ⟨kl, kd⟩ => ?_)
    dsimp only at kl kd ⊢
    have il := l3_len f k
    by_cases hk : k < f.vars.toNat
    case pos =>
      repeat' (first
      | (refine j_go ?_; first
        | refine j_op0 rfl rfl rfl rfl ?_ | (refine j_kBin rfl ?_; first | refine j_in rfl rfl ⟨by omega, by omega⟩ rfl rfl ?_) | (refine j_kLen rfl ?_; first | refine j_len rfl rfl rfl rfl rfl rfl ?_) | (refine j_kBsl rfl ?_; first | refine j_bs0 rfl rfl rfl rfl rfl rfl ?_))
      | refine j_nil ?_
      | (refine r_go ?_; first | refine run_seq ?_ | refine run_region ?_ | (refine (run_if rfl (fun hb => ?_) (fun hb => ?_)) <;> first | (exfalso; omega) | skip) | refine run_block ?_ | refine run_skip ?_)
      | refine seqQ_normal ?_)
      refine run_view (view_none 2 0 rfl) ?_
      refine run_loop (fun x : Nat × Option Nat × Nat => [(1, .ip (encCnf f)), (2, .op (some r2) 0), (3, .op (some r3) 0), (5, .int f.vars), (6, .int f.clauses.length), (7, .int f.vars), (8, .int (2 * f.vars)), (9, .int f.mark), (10, .int f.phase), (11, .int f.pend), (12, .int f.round), (13, .int f.yes), (14, .op (some d) 0), (15, .fn 134 [.op (some d) 0]), (18, .int 1), (86, .sl ([(1 : Int), -1].map encI)), (87, .int 2), (88, .int 0), (92, .int f.vars), (19, .int (k : Int)), (21, .int (f.vars + (k : Int))), (93, .int (k : Int)), (106, .sl (f.clauses.map (encS encI))), (107, .int f.clauses.length), (20, .os x.2.1 (f.mks ((k : Int) + 1) x.1).length x.2.2), (108, .int (x.1 : Int))]) (fun x => ⟨x.2.1, 2, x.2.2 * 1, ((f.mks ((k : Int) + 1) x.1).map encI).flatten⟩ :: (hD ++ (⟨some r3, 86, 2, [.os none 0 0, .os none 0 0]⟩ :: ⟨some r2, 82, 2, [.int 0, .os none 0 0]⟩ :: F)))
        (fun x => x.1 ≤ f.clauses.length) (fun x => f.clauses.length - x.1) (0, none, 0) ⟨rfl, rfl, rfl, rfl, rfl, rfl, rfl, rfl, rfl, rfl, rfl, rfl, rfl, rfl, rfl, rfl, rfl, rfl, rfl, rfl, rfl, rfl, rfl, rfl, rfl, rfl, trivial⟩ rfl (Nat.zero_le _) (fun ⟨j, oc, cc⟩ jl => ?_)
      dsimp only at jl ⊢
      have ml := mks_len f ((k : Int) + 1) j
      have ev : (1 : Int) * ((k : Int) + 1) = ((k : Int) + 1) := by omega
      by_cases hj : j < f.clauses.length
      case pos =>
        repeat' (first
      | (refine j_go ?_; first
        | refine j_op0 rfl rfl rfl rfl ?_ | (refine j_kIdx rfl ?_; first | refine j_idx rfl rfl rfl rfl rfl (by omega) rfl rfl rfl ?_) | (refine j_kBin rfl ?_; first | refine j_in rfl rfl ⟨by omega, by omega⟩ rfl rfl ?_) | (refine j_kCall rfl rfl rfl rfl ?_; first | refine jc (c_slContains _ _) (LeL.refl _) rfl rfl ?_) | (refine j_kBsl rfl ?_; first | refine j_bsl rfl rfl rfl rfl rfl rfl rfl rfl rfl rfl rfl ?_))
      | refine j_nil ?_
      | (refine r_go ?_; first | refine run_seq ?_ | refine run_region ?_ | (refine (run_if rfl (fun hb => ?_) (fun hb => ?_)) <;> first | (exfalso; omega) | skip) | refine run_block ?_ | refine run_skip ?_)
      | refine seqQ_normal ?_ | refine blockQ_normal ?_)
        · rw [ev] at hb
          refine j_append 0 (g := encI) (ys := f.mks ((k : Int) + 1) j) [f.mark + (j : Int)] rfl rfl rfl rfl rfl rfl rfl rfl rfl rfl rfl rfl (fun _ => rfl) (fun _ _ => rfl) ⟨by simp only [List.length_cons, List.length_nil]; omega, by simp only [List.length_cons, List.length_nil]; omega⟩ rfl rfl (fun b' cap' => ?_)
          rw [mks_yes hj hb]
          repeat' (first
      | (refine j_go ?_; first
        | refine j_op0 rfl rfl rfl rfl ?_ | (refine j_kBin rfl ?_; first | refine j_in rfl rfl ⟨by omega, by omega⟩ rfl rfl ?_))
      | refine j_nil ?_
      | (refine r_go ?_; first | refine run_region ?_)
      | refine seqQ_normal ?_ | refine blockQ_normal ?_)
          exact loopQ_next (j + 1, b', cap') (by dsimp only; omega) (by dsimp only; omega) rfl ⟨rfl, rfl, rfl, rfl, rfl, rfl, rfl, rfl, rfl, rfl, rfl, rfl, rfl, rfl, rfl, rfl, rfl, rfl, rfl, rfl, rfl, rfl, rfl, rfl, rfl, nx _, trivial⟩
        · rw [ev] at hb
          have es := mks_no (f := f) (v := ((k : Int) + 1)) hj hb
          exact loopQ_next (j + 1, oc, cc) (by dsimp only; omega) (by dsimp only; omega) (by dsimp only; rw [← es]) ⟨rfl, rfl, rfl, rfl, rfl, rfl, rfl, rfl, rfl, rfl, rfl, rfl, rfl, rfl, rfl, rfl, rfl, rfl, rfl, rfl, rfl, rfl, rfl, rfl, (by dsimp only; rw [← es]; rfl), nx _, trivial⟩
      have hje : j = f.clauses.length := by omega
      subst hje
      repeat' (first
      | (refine j_go ?_; first
        | refine j_op0 rfl rfl rfl rfl ?_ | refine j_build rfl rfl rfl rfl rfl rfl rfl ?_)
      | refine j_nil ?_
      | (refine r_go ?_; first | refine run_seq ?_ | refine run_region ?_ | (refine (run_if rfl (fun hb => ?_) (fun hb => ?_)) <;> first | (exfalso; omega) | skip) | refine run_exit ?_)
      | refine seqQ_normal ?_ | refine seqQ_exit ?_ | refine blockQ_eq ?_ | refine loopQ_exit ?_)
      refine j_kCall rfl rfl rfl rfl ?_
      refine jcp (⟨some r3, 86, 2, [.os none 0 0, .os none 0 0]⟩ :: ⟨some r2, 82, 2, [.int 0, .os none 0 0]⟩ :: F) (o_add d _ (f.l3 k) (by omega) (f.g3 k) _ hD [⟨oc, 2, cc * 1, ((f.mks ((k : Int) + 1) f.clauses.length).map encI).flatten⟩] kd ⟨_, _, (.inl ⟨oc, cc, rfl, rfl⟩ : ROI (f.mks ((k : Int) + 1) f.clauses.length) _ _), _, _, (.inr ⟨rfl, rfl, rfl⟩ : ROI _ (.sl []) []), rfl, rfl⟩) (perm_in1) (LeL.cons (Le.agg (LeL.cons (Le.refl _) (LeL.cons (Le.refl _) (LeL.cons (Le.refl _) (LeL.cons (Le.refl _) (LeL.cons (Le.refl _) (LeL.cons (Le.refl _) (LeL.cons (Le.nil 0) LeL.nil)))))))) (LeL.refl _)) rfl rfl (fun v hD' hR => ?_)
      rw [l3_succ] at hR
      repeat' (first
      | (refine j_go ?_; first
        | refine j_op0 rfl rfl rfl rfl ?_ | (refine j_kBin rfl ?_; first | refine j_in rfl rfl ⟨by omega, by omega⟩ rfl rfl ?_))
      | refine j_nil ?_
      | (refine r_go ?_; first | refine run_region ?_)
      | refine seqQ_normal ?_ | refine blockQ_normal ?_)
      exact loopQ_next (k + 1, hD') ⟨by dsimp only; omega, hR⟩ (by dsimp only; omega) rfl ⟨rfl, rfl, rfl, rfl, rfl, rfl, rfl, rfl, rfl, rfl, rfl, rfl, rfl, rfl, rfl, rfl, rfl, rfl, rfl, nx _, trivial⟩
    have hke : k = f.vars.toNat := by omega
    subst hke
    repeat' (first
      | (refine j_go ?_; first
        | refine j_op0 rfl rfl rfl rfl ?_ | (refine j_kBin rfl ?_; first | refine j_in rfl rfl ⟨by omega, by omega⟩ rfl rfl ?_))
      | refine j_nil ?_
      | (refine r_go ?_; first | refine run_seq ?_ | refine run_region ?_ | (refine (run_if rfl (fun hb => ?_) (fun hb => ?_)) <;> first | (exfalso; omega) | skip) | refine run_exit ?_)
      | refine seqQ_normal ?_ | refine seqQ_exit ?_ | refine blockQ_normal ?_ | refine blockQ_eq ?_ | refine loopQ_exit ?_)
    exact loopQ_next (1, hD) ⟨by dsimp only; omega, kd⟩ (by dsimp only; omega) rfl ⟨rfl, rfl, rfl, rfl, rfl, rfl, rfl, rfl, rfl, rfl, rfl, rfl, rfl, rfl, rfl, rfl, rfl, trivial⟩
  by_cases hs1 : s = 1
  case pos =>
    subst hs1
    have ks' : DB d (f.yes + 1) (f.l3 f.vars.toNat) hS := ks
    have ll : ([(1 : Int), -1] : List Int).length = 2 := rfl
    repeat' (first
      | (refine j_go ?_; first
        | refine j_op0 rfl rfl rfl rfl ?_ | (refine j_kIdx rfl ?_; first | refine j_idx rfl rfl rfl rfl rfl (by omega) rfl rfl rfl ?_))
      | refine j_nil ?_
      | (refine r_go ?_; first | refine run_seq ?_ | refine run_region ?_ | (refine (run_if rfl (fun hb => ?_) (fun hb => ?_)) <;> first | (exfalso; omega) | skip) | refine run_block ?_ | refine run_skip ?_)
      | refine seqQ_normal ?_)
    refine run_loop (fun x : Nat × Heap => [(1, .ip (encCnf f)), (2, .op (some r2) 0), (3, .op (some r3) 0), (5, .int f.vars), (6, .int f.clauses.length), (7, .int f.vars), (8, .int (2 * f.vars)), (9, .int f.mark), (10, .int f.phase), (11, .int f.pend), (12, .int f.round), (13, .int f.yes), (14, .op (some d) 0), (15, .fn 134 [.op (some d) 0]), (18, .int (-1)), (86, .sl ([(1 : Int), -1].map encI)), (87, .int 2), (88, .int 1), (92, .int f.vars), (93, .int (x.1 : Int))]) (fun x => x.2 ++ (⟨some r3, 86, 2, [.os none 0 0, .os none 0 0]⟩ :: ⟨some r2, 82, 2, [.int 0, .os none 0 0]⟩ :: F))
      (fun x => x.1 ≤ f.vars.toNat ∧ DB d (f.yes + 1) (f.l4 x.1) x.2) (fun x => f.vars.toNat - x.1) (0, hS) ⟨rfl, rfl, rfl, rfl, rfl, rfl, rfl, rfl, rfl, rfl, rfl, rfl, rfl, rfl, rfl, rfl, rfl, rfl, rfl, rfl, trivial⟩ rfl ⟨Nat.zero_le _, by dsimp only; rw [l4_zero]; exact ks'⟩ (fun ⟨k, hD⟩ ⟨kl, kd⟩ => ?_)
    dsimp only at kl kd ⊢
    have il := l4_len f k
    by_cases hk : k < f.vars.toNat
    case pos =>
      repeat' (first
      | (refine j_go ?_; first
        | refine j_op0 rfl rfl rfl rfl ?_ | (refine j_kBin rfl ?_; first | refine j_in rfl rfl ⟨by omega, by omega⟩ rfl rfl ?_) | (refine j_kLen rfl ?_; first | refine j_len rfl rfl rfl rfl rfl rfl ?_) | (refine j_kBsl rfl ?_; first | refine j_bs0 rfl rfl rfl rfl rfl rfl ?_))
      | refine j_nil ?_
      | (refine r_go ?_; first | refine run_seq ?_ | refine run_region ?_ | (refine (run_if rfl (fun hb => ?_) (fun hb => ?_)) <;> first | (exfalso; omega) | skip) | refine run_block ?_ | refine run_skip ?_)
      | refine seqQ_normal ?_)
      refine run_view (view_none 2 0 rfl) ?_
      refine run_loop (fun x : Nat × Option Nat × Nat => [(1, .ip (encCnf f)), (2, .op (some r2) 0), (3, .op (some r3) 0), (5, .int f.vars), (6, .int f.clauses.length), (7, .int f.vars), (8, .int (2 * f.vars)), (9, .int f.mark), (10, .int f.phase), (11, .int f.pend), (12, .int f.round), (13, .int f.yes), (14, .op (some d) 0), (15, .fn 134 [.op (some d) 0]), (18, .int (-1)), (86, .sl ([(1 : Int), -1].map encI)), (87, .int 2), (88, .int 1), (92, .int f.vars), (19, .int (k : Int)), (21, .int (2 * f.vars + (k : Int))), (93, .int (k : Int)), (106, .sl (f.clauses.map (encS encI))), (107, .int f.clauses.length), (20, .os x.2.1 (f.mks (0 - (k : Int) - 1) x.1).length x.2.2), (108, .int (x.1 : Int))]) (fun x => ⟨x.2.1, 2, x.2.2 * 1, ((f.mks (0 - (k : Int) - 1) x.1).map encI).flatten⟩ :: (hD ++ (⟨some r3, 86, 2, [.os none 0 0, .os none 0 0]⟩ :: ⟨some r2, 82, 2, [.int 0, .os none 0 0]⟩ :: F)))
        (fun x => x.1 ≤ f.clauses.length) (fun x => f.clauses.length - x.1) (0, none, 0) ⟨rfl, rfl, rfl, rfl, rfl, rfl, rfl, rfl, rfl, rfl, rfl, rfl, rfl, rfl, rfl, rfl, rfl, rfl, rfl, rfl, rfl, rfl, rfl, rfl, rfl, rfl, trivial⟩ rfl (Nat.zero_le _) (fun ⟨j, oc, cc⟩ jl => ?_)
      dsimp only at jl ⊢
      have ml := mks_len f (0 - (k : Int) - 1) j
      have ev : ((-1) : Int) * ((k : Int) + 1) = (0 - (k : Int) - 1) := by omega
      by_cases hj : j < f.clauses.length
      case pos =>
        repeat' (first
      | (refine j_go ?_; first
        | refine j_op0 rfl rfl rfl rfl ?_ | (refine j_kIdx rfl ?_; first | refine j_idx rfl rfl rfl rfl rfl (by omega) rfl rfl rfl ?_) | (refine j_kBin rfl ?_; first | refine j_in rfl rfl ⟨by omega, by omega⟩ rfl rfl ?_) | (refine j_kCall rfl rfl rfl rfl ?_; first | refine jc (c_slContains _ _) (LeL.refl _) rfl rfl ?_) | (refine j_kBsl rfl ?_; first | refine j_bsl rfl rfl rfl rfl rfl rfl rfl rfl rfl rfl rfl ?_))
      | refine j_nil ?_
      | (refine r_go ?_; first | refine run_seq ?_ | refine run_region ?_ | (refine (run_if rfl (fun hb => ?_) (fun hb => ?_)) <;> first | (exfalso; omega) | skip) | refine run_block ?_ | refine run_skip ?_)
      | refine seqQ_normal ?_ | refine blockQ_normal ?_)
        · rw [ev] at hb
          refine j_append 0 (g := encI) (ys := f.mks (0 - (k : Int) - 1) j) [f.mark + (j : Int)] rfl rfl rfl rfl rfl rfl rfl rfl rfl rfl rfl rfl (fun _ => rfl) (fun _ _ => rfl) ⟨by simp only [List.length_cons, List.length_nil]; omega, by simp only [List.length_cons, List.length_nil]; omega⟩ rfl rfl (fun b' cap' => ?_)
          rw [mks_yes hj hb]
          repeat' (first
      | (refine j_go ?_; first
        | refine j_op0 rfl rfl rfl rfl ?_ | (refine j_kBin rfl ?_; first | refine j_in rfl rfl ⟨by omega, by omega⟩ rfl rfl ?_))
      | refine j_nil ?_
      | (refine r_go ?_; first | refine run_region ?_)
      | refine seqQ_normal ?_ | refine blockQ_normal ?_)
          exact loopQ_next (j + 1, b', cap') (by dsimp only; omega) (by dsimp only; omega) rfl ⟨rfl, rfl, rfl, rfl, rfl, rfl, rfl, rfl, rfl, rfl, rfl, rfl, rfl, rfl, rfl, rfl, rfl, rfl, rfl, rfl, rfl, rfl, rfl, rfl, rfl, nx _, trivial⟩
        · rw [ev] at hb
          have es := mks_no (f := f) (v := (0 - (k : Int) - 1)) hj hb
          exact loopQ_next (j + 1, oc, cc) (by dsimp only; omega) (by dsimp only; omega) (by dsimp only; rw [← es]) ⟨rfl, rfl, rfl, rfl, rfl, rfl, rfl, rfl, rfl, rfl, rfl, rfl, rfl, rfl, rfl, rfl, rfl, rfl, rfl, rfl, rfl, rfl, rfl, rfl, (by dsimp only; rw [← es]; rfl), nx _, trivial⟩
      have hje : j = f.clauses.length := by omega
      subst hje
      repeat' (first
      | (refine j_go ?_; first
        | refine j_op0 rfl rfl rfl rfl ?_ | refine j_build rfl rfl rfl rfl rfl rfl rfl ?_)
      | refine j_nil ?_
      | (refine r_go ?_; first | refine run_seq ?_ | refine run_region ?_ | (refine (run_if rfl (fun hb => ?_) (fun hb => ?_)) <;> first | (exfalso; omega) | skip) | refine run_exit ?_)
      | refine seqQ_normal ?_ | refine seqQ_exit ?_ | refine blockQ_eq ?_ | refine loopQ_exit ?_)
      refine j_kCall rfl rfl rfl rfl ?_
      refine jcp (⟨some r3, 86, 2, [.os none 0 0, .os none 0 0]⟩ :: ⟨some r2, 82, 2, [.int 0, .os none 0 0]⟩ :: F) (o_add d _ (f.l4 k) (by omega) (f.g4 k) _ hD [⟨oc, 2, cc * 1, ((f.mks (0 - (k : Int) - 1) f.clauses.length).map encI).flatten⟩] kd ⟨_, _, (.inl ⟨oc, cc, rfl, rfl⟩ : ROI (f.mks (0 - (k : Int) - 1) f.clauses.length) _ _), _, _, (.inr ⟨rfl, rfl, rfl⟩ : ROI _ (.sl []) []), rfl, rfl⟩) (perm_in1) (LeL.cons (Le.agg (LeL.cons (Le.refl _) (LeL.cons (Le.refl _) (LeL.cons (Le.refl _) (LeL.cons (Le.refl _) (LeL.cons (Le.refl _) (LeL.cons (Le.refl _) (LeL.cons (Le.nil 0) LeL.nil)))))))) (LeL.refl _)) rfl rfl (fun v hD' hR => ?_)
      rw [l4_succ] at hR
      repeat' (first
      | (refine j_go ?_; first
        | refine j_op0 rfl rfl rfl rfl ?_ | (refine j_kBin rfl ?_; first | refine j_in rfl rfl ⟨by omega, by omega⟩ rfl rfl ?_))
      | refine j_nil ?_
      | (refine r_go ?_; first | refine run_region ?_)
      | refine seqQ_normal ?_ | refine blockQ_normal ?_)
      exact loopQ_next (k + 1, hD') ⟨by dsimp only; omega, hR⟩ (by dsimp only; omega) rfl ⟨rfl, rfl, rfl, rfl, rfl, rfl, rfl, rfl, rfl, rfl, rfl, rfl, rfl, rfl, rfl, rfl, rfl, rfl, rfl, nx _, trivial⟩
    have hke : k = f.vars.toNat := by omega
    subst hke
    repeat' (first
      | (refine j_go ?_; first
        | refine j_op0 rfl rfl rfl rfl ?_ | (refine j_kBin rfl ?_; first | refine j_in rfl rfl ⟨by omega, by omega⟩ rfl rfl ?_))
      | refine j_nil ?_
      | (refine r_go ?_; first | refine run_seq ?_ | refine run_region ?_ | (refine (run_if rfl (fun hb => ?_) (fun hb => ?_)) <;> first | (exfalso; omega) | skip) | refine run_exit ?_)
      | refine seqQ_normal ?_ | refine seqQ_exit ?_ | refine blockQ_normal ?_ | refine blockQ_eq ?_ | refine loopQ_exit ?_)
    exact loopQ_next (2, hD) ⟨by dsimp only; omega, kd⟩ (by dsimp only; omega) rfl ⟨rfl, rfl, rfl, rfl, rfl, rfl, rfl, rfl, rfl, rfl, rfl, rfl, rfl, rfl, rfl, rfl, rfl, trivial⟩
  have hse : s = 2 := by omega
  subst hse
  have ks' : DB d (f.yes + 1) (f.l4 f.vars.toNat) hS := ks
  have il := l4_len f f.vars.toNat
  repeat' (first
      | (refine j_go ?_; first
        | refine j_op0 rfl rfl rfl rfl ?_ | (refine j_kBin rfl ?_; first | refine j_in rfl rfl ⟨by omega, by omega⟩ rfl rfl ?_))
      | refine j_nil ?_
      | (refine r_go ?_; first | refine run_seq ?_ | refine run_region ?_ | (refine (run_if rfl (fun hb => ?_) (fun hb => ?_)) <;> first | (exfalso; omega) | skip) | refine run_block ?_ | refine run_exit ?_)
      | refine seqQ_normal ?_ | refine seqQ_exit ?_ | refine blockQ_eq ?_ | refine loopQ_exit ?_)
  refine run_loop (fun x : Nat × Heap => [(2, .op (some r2) 0), (3, .op (some r3) 0), (5, .int f.vars), (6, .int f.clauses.length), (9, .int f.mark), (10, .int f.phase), (11, .int f.pend), (12, .int f.round), (13, .int f.yes), (14, .op (some d) 0), (15, .fn 134 [.op (some d) 0]), (134, .int (f.vars + 1)), (135, .int (x.1 : Int))]) (fun x => x.2 ++ (⟨some r3, 86, 2, [.os none 0 0, .os none 0 0]⟩ :: ⟨some r2, 82, 2, [.int 0, .os none 0 0]⟩ :: F))
    (fun x => x.1 ≤ (f.vars.toNat + 1) ∧ DB d (f.yes + 1) (f.l5 x.1) x.2) (fun x => (f.vars.toNat + 1) - x.1) (0, hS) ⟨rfl, rfl, rfl, rfl, rfl, rfl, rfl, rfl, rfl, rfl, rfl, rfl, rfl, trivial⟩ rfl ⟨Nat.zero_le _, by dsimp only; rw [l5_zero]; exact ks'⟩ (fun ⟨k, hD⟩ ⟨kl, kd⟩ => ?_)
  dsimp only at kl kd ⊢
  have il := l5_len f k
  by_cases hk : k < (f.vars.toNat + 1)
  case pos =>
    repeat' (first
      | (refine j_go ?_; first
        | refine j_op0 rfl rfl rfl rfl ?_ | (refine j_kBin rfl ?_; first | refine j_in rfl rfl ⟨by omega, by omega⟩ rfl rfl ?_))
      | refine j_nil ?_
      | (refine r_go ?_; first | refine run_seq ?_ | refine run_region ?_ | (refine (run_if rfl (fun hb => ?_) (fun hb => ?_)) <;> first | (exfalso; omega) | skip) | refine run_block ?_ | refine run_skip ?_)
      | refine seqQ_normal ?_)
    refine j_bslM rfl rfl rfl rfl rfl rfl rfl rfl rfl rfl rfl (fun b0 => ?_)
    repeat' (first
      | (refine j_go ?_; first
        | refine j_build rfl rfl rfl rfl rfl rfl rfl ?_))
    refine j_kCall rfl rfl rfl rfl ?_
    refine jcp (⟨some r3, 86, 2, [.os none 0 0, .os none 0 0]⟩ :: ⟨some r2, 82, 2, [.int 0, .os none 0 0]⟩ :: F) (o_add d _ (f.l5 k) (by omega) (f.g5 k) _ hD [⟨some b0, 2, 1 * 1, _⟩] kd ⟨_, _, (.inl ⟨some b0, 1, rfl, rfl⟩ : ROI _ _ _), _, _, (.inr ⟨rfl, rfl, rfl⟩ : ROI _ (.sl []) []), rfl, rfl⟩) (perm_in1) (LeL.cons (Le.agg (LeL.cons (Le.refl _) (LeL.cons (Le.refl _) (LeL.cons (Le.refl _) (LeL.cons (Le.refl _) (LeL.cons (Le.refl _) (LeL.cons (Le.refl _) (LeL.cons (Le.nil 0) LeL.nil)))))))) (LeL.refl _)) rfl rfl (fun v hD' hR => ?_)
    rw [l5_succ] at hR
    repeat' (first
      | (refine j_go ?_; first
        | refine j_op0 rfl rfl rfl rfl ?_ | (refine j_kBin rfl ?_; first | refine j_in rfl rfl ⟨by omega, by omega⟩ rfl rfl ?_))
      | refine j_nil ?_
      | (refine r_go ?_; first | refine run_region ?_)
      | refine seqQ_normal ?_ | refine blockQ_normal ?_)
    exact loopQ_next (k + 1, hD') ⟨by dsimp only; omega, hR⟩ (by dsimp only; omega) rfl ⟨rfl, rfl, rfl, rfl, rfl, rfl, rfl, rfl, rfl, rfl, rfl, rfl, nx _, trivial⟩
  have hke : k = (f.vars.toNat + 1) := by omega
  subst hke
  repeat' (first
      | (refine j_go ?_; first
        | refine j_op0 rfl rfl rfl rfl ?_ | (refine j_kBin rfl ?_; first | refine j_in rfl rfl ⟨by omega, by omega⟩ rfl rfl ?_))
      | refine j_nil ?_
      | (refine r_go ?_; first | refine run_seq ?_ | refine run_region ?_ | (refine (run_if rfl (fun hb => ?_) (fun hb => ?_)) <;> first | (exfalso; omega) | skip) | refine run_exit ?_)
      | refine seqQ_normal ?_ | refine seqQ_exit ?_ | refine blockQ_eq ?_ | refine loopQ_exit ?_)
  refine j_bslM rfl rfl rfl rfl rfl rfl rfl rfl rfl rfl rfl (fun b0 => ?_)
  repeat' (first
      | (refine j_go ?_; first
        | refine j_build rfl rfl rfl rfl rfl rfl rfl ?_))
  refine j_kCall rfl rfl rfl rfl ?_
  refine jcp (⟨some r3, 86, 2, [.os none 0 0, .os none 0 0]⟩ :: ⟨some r2, 82, 2, [.int 0, .os none 0 0]⟩ :: F) (o_add d _ (f.l5 (f.vars.toNat + 1)) (by omega) (f.x6) _ hD [⟨some b0, 2, 1 * 1, _⟩] kd ⟨_, _, (.inl ⟨some b0, 1, rfl, rfl⟩ : ROI _ _ _), _, _, (.inr ⟨rfl, rfl, rfl⟩ : ROI _ (.sl []) []), rfl, rfl⟩) (perm_in1) (LeL.cons (Le.agg (LeL.cons (Le.refl _) (LeL.cons (Le.refl _) (LeL.cons (Le.refl _) (LeL.cons (Le.refl _) (LeL.cons (Le.refl _) (LeL.cons (Le.refl _) (LeL.cons (Le.nil 0) LeL.nil)))))))) (LeL.refl _)) rfl rfl (fun v hD6 kd6 => ?_)
  rw [show f.l5 (f.vars.toNat + 1) ++ [f.x6] = f.l6 from rfl] at kd6
  have il6 := l6_len f
  by_cases hm : 0 < f.clauses.length
  case pos =>
    repeat' (first
      | (refine j_go ?_; first
        | refine j_op0 rfl rfl rfl rfl ?_ | refine j_build rfl rfl rfl rfl rfl rfl rfl ?_)
      | refine j_nil ?_
      | (refine r_go ?_; first | refine run_seq ?_ | refine run_region ?_ | (refine (run_if rfl (fun hb => ?_) (fun hb => ?_)) <;> first | (exfalso; omega) | skip))
      | refine seqQ_normal ?_)
    refine j_kCall rfl rfl rfl rfl ?_
    refine jcp (⟨some r3, 86, 2, [.os none 0 0, .os none 0 0]⟩ :: ⟨some r2, 82, 2, [.int 0, .os none 0 0]⟩ :: F) (o_add d _ (f.l6) (by omega) (f.x7) _ hD6 [] kd6 ⟨_, _, (.inr ⟨rfl, rfl, rfl⟩ : ROI _ (.sl []) []), _, _, (.inr ⟨rfl, rfl, rfl⟩ : ROI _ (.sl []) []), rfl, rfl⟩) (perm_in0) (LeL.cons (Le.agg (LeL.cons (Le.refl _) (LeL.cons (Le.refl _) (LeL.cons (Le.refl _) (LeL.cons (Le.refl _) (LeL.cons (Le.nil 0) (LeL.cons (Le.refl _) (LeL.cons (Le.nil 0) LeL.nil)))))))) (LeL.refl _)) rfl rfl (fun v hD7 kd7 => ?_)
    rw [show f.l6 ++ [f.x7] = f.l7 from (l7_t hm).symm] at kd7
    repeat' (first
      | (refine j_go ?_; first
        | refine j_op0 rfl rfl rfl rfl ?_)
      | refine j_nil ?_
      | (refine r_go ?_; first | refine run_seq ?_ | refine run_region ?_)
      | refine seqQ_normal ?_)
    have il7 := l7_len f
    refine j_bslM rfl rfl rfl rfl rfl rfl rfl rfl rfl rfl rfl (fun b0 => ?_)
    repeat' (first
      | (refine j_go ?_; first
        | refine j_build rfl rfl rfl rfl rfl rfl rfl ?_))
    refine j_kCall rfl rfl rfl rfl ?_
    refine jcp (⟨some r3, 86, 2, [.os none 0 0, .os none 0 0]⟩ :: ⟨some r2, 82, 2, [.int 0, .os none 0 0]⟩ :: F) (o_add d _ (f.l7) (by omega) (f.x8) _ hD7 [⟨some b0, 2, 1 * 1, _⟩] kd7 ⟨_, _, (.inl ⟨some b0, 1, rfl, rfl⟩ : ROI _ _ _), _, _, (.inr ⟨rfl, rfl, rfl⟩ : ROI _ (.sl []) []), rfl, rfl⟩) (perm_in1) (LeL.cons (Le.agg (LeL.cons (Le.refl _) (LeL.cons (Le.refl _) (LeL.cons (Le.refl _) (LeL.cons (Le.refl _) (LeL.cons (Le.refl _) (LeL.cons (Le.refl _) (LeL.cons (Le.nil 0) LeL.nil)))))))) (LeL.refl _)) rfl rfl (fun v hD8 kd8 => ?_)
    rw [show f.l7 ++ [f.x8] = f.l8 from rfl] at kd8
    repeat' (first
      | (refine j_go ?_; first
        | refine j_op0 rfl rfl rfl rfl ?_)
      | refine j_nil ?_
      | (refine r_go ?_; first | refine run_seq ?_ | refine run_region ?_ | refine run_block ?_)
      | refine seqQ_normal ?_)
    refine run_loop (fun x : Nat × Heap => [(2, .op (some r2) 0), (3, .op (some r3) 0), (5, .int f.vars), (6, .int f.clauses.length), (9, .int f.mark), (10, .int f.phase), (11, .int f.pend), (12, .int f.round), (14, .op (some d) 0), (15, .fn 134 [.op (some d) 0]), (170, .int f.clauses.length), (171, .int (x.1 : Int))]) (fun x => x.2 ++ (⟨some r3, 86, 2, [.os none 0 0, .os none 0 0]⟩ :: ⟨some r2, 82, 2, [.int 0, .os none 0 0]⟩ :: F))
      (fun x => x.1 ≤ f.clauses.length ∧ DB d (f.yes + 1) (f.l9 x.1) x.2) (fun x => f.clauses.length - x.1) (0, hD8) ⟨rfl, rfl, rfl, rfl, rfl, rfl, rfl, rfl, rfl, rfl, rfl, rfl, trivial⟩ rfl ⟨Nat.zero_le _, by dsimp only; rw [l9_zero]; exact kd8⟩ (fun ⟨k, hD⟩ ⟨kl, kd⟩ => ?_)
    dsimp only at kl kd ⊢
    have il := l9_len f k
    by_cases hk : k < f.clauses.length
    case pos =>
      refine run_view (view_none 2 0 rfl) ?_
      by_cases hk0 : 0 < k
      · have hg : f.g9 k = ⟨1, -1, f.mark + (k : Int), 0, [f.mark + (k : Int) - 1], 0, []⟩ := by unfold Cnf.g9; rw [if_pos hk0]
        repeat' (first
      | (refine j_go ?_; first
        | refine j_op0 rfl rfl rfl rfl ?_ | (refine j_kBin rfl ?_; first | refine j_in rfl rfl ⟨by omega, by omega⟩ rfl rfl ?_) | (refine j_kBsl rfl ?_; first | refine j_bs0 rfl rfl rfl rfl rfl rfl ?_ | refine j_bsl rfl rfl rfl rfl rfl rfl rfl rfl rfl rfl rfl ?_))
      | refine j_nil ?_
      | (refine r_go ?_; first | refine run_seq ?_ | refine run_region ?_ | (refine (run_if rfl (fun hb => ?_) (fun hb => ?_)) <;> first | (exfalso; omega) | skip) | refine run_block ?_ | refine run_skip ?_)
      | refine seqQ_normal ?_)
        refine j_append 0 (g := encI) (ys := ([] : List Int)) [f.mark + (k : Int) - 1] rfl rfl rfl rfl rfl rfl rfl rfl rfl rfl rfl rfl (fun _ => rfl) (fun _ _ => rfl) ⟨by simp only [List.length_cons, List.length_nil]; omega, by simp only [List.length_cons, List.length_nil]; omega⟩ rfl rfl (fun b' cap' => ?_)
        repeat' (first
      | (refine j_go ?_; first
        | refine j_op0 rfl rfl rfl rfl ?_ | (refine j_kBin rfl ?_; first | refine j_in rfl rfl ⟨by omega, by omega⟩ rfl rfl ?_) | refine j_build rfl rfl rfl rfl rfl rfl rfl ?_)
      | refine j_nil ?_
      | (refine r_go ?_; first | refine run_region ?_)
      | refine seqQ_normal ?_)
        refine j_kCall rfl rfl rfl rfl ?_
        refine jcp (⟨some r3, 86, 2, [.os none 0 0, .os none 0 0]⟩ :: ⟨some r2, 82, 2, [.int 0, .os none 0 0]⟩ :: F) (o_add d _ (f.l9 k) (by omega) (⟨1, -1, f.mark + (k : Int), 0, [f.mark + (k : Int) - 1], 0, []⟩) _ hD [⟨b', 2, cap' * 1, (([f.mark + (k : Int) - 1]).map encI).flatten⟩] kd ⟨_, _, (.inl ⟨b', cap', rfl, rfl⟩ : ROI ([f.mark + (k : Int) - 1]) _ _), _, _, (.inr ⟨rfl, rfl, rfl⟩ : ROI _ (.sl []) []), rfl, rfl⟩) (perm_in1) (LeL.cons (Le.agg (LeL.cons (Le.refl _) (LeL.cons (Le.refl _) (LeL.cons (Le.refl _) (LeL.cons (Le.refl _) (LeL.cons (Le.refl _) (LeL.cons (Le.refl _) (LeL.cons (Le.nil 0) LeL.nil)))))))) (LeL.refl _)) rfl rfl (fun v hD' hR => ?_)
        rw [← hg, l9_succ] at hR
        repeat' (first
      | (refine j_go ?_; first
        | refine j_op0 rfl rfl rfl rfl ?_ | (refine j_kBin rfl ?_; first | refine j_in rfl rfl ⟨by omega, by omega⟩ rfl rfl ?_))
      | refine j_nil ?_
      | (refine r_go ?_; first | refine run_region ?_)
      | refine seqQ_normal ?_ | refine blockQ_normal ?_)
        exact loopQ_next (k + 1, hD') ⟨by dsimp only; omega, hR⟩ (by dsimp only; omega) rfl ⟨rfl, rfl, rfl, rfl, rfl, rfl, rfl, rfl, rfl, rfl, rfl, nx _, trivial⟩
      · have hg : f.g9 k = ⟨1, -1, f.mark + (k : Int), 0, [], 0, []⟩ := by unfold Cnf.g9; rw [if_neg hk0]
        repeat' (first
      | (refine j_go ?_; first
        | refine j_op0 rfl rfl rfl rfl ?_ | (refine j_kBin rfl ?_; first | refine j_in rfl rfl ⟨by omega, by omega⟩ rfl rfl ?_) | (refine j_kBsl rfl ?_; first | refine j_bs0 rfl rfl rfl rfl rfl rfl ?_) | refine j_build rfl rfl rfl rfl rfl rfl rfl ?_)
      | refine j_nil ?_
      | (refine r_go ?_; first | refine run_seq ?_ | refine run_region ?_ | (refine (run_if rfl (fun hb => ?_) (fun hb => ?_)) <;> first | (exfalso; omega) | skip) | refine run_block ?_ | refine run_skip ?_)
      | refine seqQ_normal ?_)
        refine j_kCall rfl rfl rfl rfl ?_
        refine jcp (⟨some r3, 86, 2, [.os none 0 0, .os none 0 0]⟩ :: ⟨some r2, 82, 2, [.int 0, .os none 0 0]⟩ :: F) (o_add d _ (f.l9 k) (by omega) (⟨1, -1, f.mark + (k : Int), 0, [], 0, []⟩) _ hD [⟨none, 2, 0 * 1, ((([] : List Int)).map encI).flatten⟩] kd ⟨_, _, (.inl ⟨none, 0, rfl, rfl⟩ : ROI (([] : List Int)) _ _), _, _, (.inr ⟨rfl, rfl, rfl⟩ : ROI _ (.sl []) []), rfl, rfl⟩) (perm_in1) (LeL.cons (Le.agg (LeL.cons (Le.refl _) (LeL.cons (Le.refl _) (LeL.cons (Le.refl _) (LeL.cons (Le.refl _) (LeL.cons (Le.refl _) (LeL.cons (Le.refl _) (LeL.cons (Le.nil 0) LeL.nil)))))))) (LeL.refl _)) rfl rfl (fun v hD' hR => ?_)
        rw [← hg, l9_succ] at hR
        repeat' (first
      | (refine j_go ?_; first
        | refine j_op0 rfl rfl rfl rfl ?_ | (refine j_kBin rfl ?_; first | refine j_in rfl rfl ⟨by omega, by omega⟩ rfl rfl ?_))
      | refine j_nil ?_
      | (refine r_go ?_; first | refine run_region ?_)
      | refine seqQ_normal ?_ | refine blockQ_normal ?_)
        exact loopQ_next (k + 1, hD') ⟨by dsimp only; omega, hR⟩ (by dsimp only; omega) rfl ⟨rfl, rfl, rfl, rfl, rfl, rfl, rfl, rfl, rfl, rfl, rfl, nx _, trivial⟩
    have hke : k = f.clauses.length := by omega
    subst hke
    repeat' (first
      | (refine j_go ?_; first
        | refine j_op0 rfl rfl rfl rfl ?_)
      | refine j_nil ?_
      | (refine r_go ?_; first | refine run_seq ?_ | refine run_region ?_ | (refine (run_if rfl (fun hb => ?_) (fun hb => ?_)) <;> first | (exfalso; omega) | skip) | refine run_block ?_ | refine run_exit ?_)
      | refine seqQ_normal ?_ | refine seqQ_exit ?_ | refine blockQ_eq ?_ | refine loopQ_exit ?_)
    refine run_loop (fun x : Nat × Heap => [(2, .op (some r2) 0), (3, .op (some r3) 0), (5, .int f.vars), (10, .int f.phase), (11, .int f.pend), (12, .int f.round), (14, .op (some d) 0), (15, .fn 134 [.op (some d) 0]), (192, .int f.clauses.length), (193, .int (x.1 : Int))]) (fun x => x.2 ++ (⟨some r3, 86, 2, [.os none 0 0, .os none 0 0]⟩ :: ⟨some r2, 82, 2, [.int 0, .os none 0 0]⟩ :: F))
      (fun x => x.1 ≤ f.clauses.length ∧ DB d (f.yes + 1) (f.l10 x.1) x.2) (fun x => f.clauses.length - x.1) (0, hD) ⟨rfl, rfl, rfl, rfl, rfl, rfl, rfl, rfl, rfl, rfl, trivial⟩ rfl ⟨Nat.zero_le _, by dsimp only; rw [l10_zero]; exact kd⟩ (fun ⟨k, hD⟩ ⟨kl, kd⟩ => ?_)
    dsimp only at kl kd ⊢
    have il := l10_len f k
    by_cases hk : k < f.clauses.length
    case pos =>
      repeat' (first
      | (refine j_go ?_; first
        | refine j_op0 rfl rfl rfl rfl ?_ | (refine j_kBin rfl ?_; first | refine j_in rfl rfl ⟨by omega, by omega⟩ rfl rfl ?_))
      | refine j_nil ?_
      | (refine r_go ?_; first | refine run_seq ?_ | refine run_region ?_ | (refine (run_if rfl (fun hb => ?_) (fun hb => ?_)) <;> first | (exfalso; omega) | skip) | refine run_block ?_ | refine run_skip ?_)
      | refine seqQ_normal ?_)
      refine j_bslM rfl rfl rfl rfl rfl rfl rfl rfl rfl rfl rfl (fun b0 => ?_)
      repeat' (first
      | (refine j_go ?_; first
        | refine j_build rfl rfl rfl rfl rfl rfl rfl ?_))
      refine j_kCall rfl rfl rfl rfl ?_
      refine jcp (⟨some r3, 86, 2, [.os none 0 0, .os none 0 0]⟩ :: ⟨some r2, 82, 2, [.int 0, .os none 0 0]⟩ :: F) (o_add d _ (f.l10 k) (by omega) (f.g10 k) _ hD [⟨some b0, 2, 1 * 1, _⟩] kd ⟨_, _, (.inl ⟨some b0, 1, rfl, rfl⟩ : ROI _ _ _), _, _, (.inr ⟨rfl, rfl, rfl⟩ : ROI _ (.sl []) []), rfl, rfl⟩) (perm_in1) (LeL.cons (Le.agg (LeL.cons (Le.refl _) (LeL.cons (Le.refl _) (LeL.cons (Le.refl _) (LeL.cons (Le.refl _) (LeL.cons (Le.refl _) (LeL.cons (Le.refl _) (LeL.cons (Le.nil 0) LeL.nil)))))))) (LeL.refl _)) rfl rfl (fun v hD' hR => ?_)
      rw [l10_succ] at hR
      repeat' (first
      | (refine j_go ?_; first
        | refine j_op0 rfl rfl rfl rfl ?_ | (refine j_kBin rfl ?_; first | refine j_in rfl rfl ⟨by omega, by omega⟩ rfl rfl ?_))
      | refine j_nil ?_
      | (refine r_go ?_; first | refine run_region ?_)
      | refine seqQ_normal ?_ | refine blockQ_normal ?_)
      exact loopQ_next (k + 1, hD') ⟨by dsimp only; omega, hR⟩ (by dsimp only; omega) rfl ⟨rfl, rfl, rfl, rfl, rfl, rfl, rfl, rfl, rfl, nx _, trivial⟩
    have hke : k = f.clauses.length := by omega
    subst hke
    repeat' (first
      | (refine j_go ?_; first
        | refine j_op0 rfl rfl rfl rfl ?_ | (refine j_kBsl rfl ?_; first | refine j_bs0 rfl rfl rfl rfl rfl rfl ?_))
      | refine j_nil ?_
      | (refine r_go ?_; first | refine run_seq ?_ | refine run_region ?_ | (refine (run_if rfl (fun hb => ?_) (fun hb => ?_)) <;> first | (exfalso; omega) | skip) | refine run_block ?_ | refine run_exit ?_)
      | refine seqQ_normal ?_ | refine seqQ_exit ?_ | refine blockQ_eq ?_ | refine loopQ_exit ?_)
    refine run_view (view_none 2 0 rfl) ?_
    refine run_loop (fun x : Nat × Option Nat × Nat => [(2, .op (some r2) 0), (3, .op (some r3) 0), (10, .int f.phase), (11, .int f.pend), (12, .int f.round), (14, .op (some d) 0), (209, .int f.vars), (28, .os x.2.1 (iotaI x.1).length x.2.2), (210, .int (x.1 : Int))]) (fun x => ⟨x.2.1, 2, x.2.2 * 1, ((iotaI x.1).map encI).flatten⟩ :: (hD ++ (⟨some r3, 86, 2, [.os none 0 0, .os none 0 0]⟩ :: ⟨some r2, 82, 2, [.int 0, .os none 0 0]⟩ :: F)))
      (fun x => x.1 ≤ f.vars.toNat) (fun x => f.vars.toNat - x.1) (0, none, 0) ⟨rfl, rfl, rfl, rfl, rfl, rfl, rfl, rfl, rfl, trivial⟩ rfl (Nat.zero_le _) (fun ⟨k, oc, cc⟩ kl => ?_)
    dsimp only at kl ⊢
    have il := iotaI_len (k := k)
    by_cases hk : k < f.vars.toNat
    case pos =>
      repeat' (first
      | (refine j_go ?_; first
        | refine j_op0 rfl rfl rfl rfl ?_ | (refine j_kBsl rfl ?_; first | refine j_bsl rfl rfl rfl rfl rfl rfl rfl rfl rfl rfl rfl ?_))
      | refine j_nil ?_
      | (refine r_go ?_; first | refine run_seq ?_ | refine run_region ?_ | (refine (run_if rfl (fun hb => ?_) (fun hb => ?_)) <;> first | (exfalso; omega) | skip) | refine run_block ?_ | refine run_skip ?_)
      | refine seqQ_normal ?_)
      refine j_append 0 (g := encI) (ys := iotaI k) [(k : Int)] rfl rfl rfl rfl rfl rfl rfl rfl rfl rfl rfl rfl (fun _ => rfl) (fun _ _ => rfl) ⟨by simp only [List.length_cons, List.length_nil]; omega, by simp only [List.length_cons, List.length_nil]; omega⟩ rfl rfl (fun b' cap' => ?_)
      rw [iotaI_succ]
      repeat' (first
      | (refine j_go ?_; first
        | refine j_op0 rfl rfl rfl rfl ?_ | (refine j_kBin rfl ?_; first | refine j_in rfl rfl ⟨by omega, by omega⟩ rfl rfl ?_))
      | refine j_nil ?_
      | (refine r_go ?_; first | refine run_region ?_)
      | refine seqQ_normal ?_ | refine blockQ_normal ?_)
      exact loopQ_next (k + 1, b', cap') (by dsimp only; omega) (by dsimp only; omega) rfl ⟨rfl, rfl, rfl, rfl, rfl, rfl, rfl, rfl, nx _, trivial⟩
    have hke : k = f.vars.toNat := by omega
    subst hke
    obtain ⟨ob, cap, css, hs, R, rfl⟩ := kd
    refine run_view (view_freezeP 2 14 rfl rfl) ?_
    repeat' (first
      | (refine j_go ?_; first
        | refine j_op0 rfl rfl rfl rfl ?_)
      | refine j_nil ?_
      | (refine r_go ?_; first | refine run_seq ?_ | refine run_region ?_ | (refine (run_if rfl (fun hb => ?_) (fun hb => ?_)) <;> first | (exfalso; omega) | skip) | refine run_exit ?_)
      | refine seqQ_normal ?_ | refine seqQ_exit ?_ | refine blockQ_eq ?_ | refine loopQ_exit ?_)
    generalize hXX : (⟨ob, 191, cap * 7, (css.map Subtype.val).flatten⟩ : Blk) :: (hs.flatten ++ F) = XX
    refine run_regionA ?_
    refine ja_weak (e' := [(2, .op (some r2) 0), (3, .op (some r3) 0), (10, .int f.phase), (11, .int f.pend), (12, .int f.round), (14, .ip [.int (f.yes + 1), .os ob css.length cap]), (28, .os oc (iotaI f.vars.toNat).length cc)]) (h' := (⟨oc, 2, cc * 1, ((iotaI f.vars.toNat).map encI).flatten⟩ : Blk) :: (⟨some r3, 86, 2, [.os none 0 0, .os none 0 0]⟩ : Blk) :: (⟨some r2, 82, 2, [.int 0, .os none 0 0]⟩ : Blk) :: XX) ⟨rfl, rfl, rfl, rfl, rfl, rfl, rfl, trivial⟩ ?_ ?_
    · rw [← hXX]
      change List.Perm (_ :: _ :: (hs.flatten ++ (_ :: _ :: F))) _
      classical exact List.perm_iff_count.2 fun _ => by simp only [List.count_cons, List.count_append]; omega
    refine ja_pred2 (fun P R9 hP hR => ?_)
    have fin : ∀ (b6 : Option Nat) (c6 : Nat) (b8 : Nat), R9 .normal [(218, .agg [.int (f.yes + 1), .os ob css.length cap]), (219, .os oc (iotaI f.vars.toNat).length cc), (220, .int f.phase), (221, .int f.pend), (222, .int f.round), (223, .sl ([f.phase, f.pend, f.round].map encI)), (224, .os b6 f.conts.length c6), (225, .agg [.int 0, .os b6 f.conts.length c6, .int 1]), (226, .os (some b8) 1 1), (227, .agg [.os none 0 0, .os (some b8) 1 1]), (4, .int 0), (2, .op (some r2) 0), (3, .op (some r3) 0), (10, .int f.phase), (11, .int f.pend), (12, .int f.round), (14, .ip [.int (f.yes + 1), .os ob css.length cap]), (28, .os oc (iotaI f.vars.toNat).length cc)] ((⟨some b8, 195, 1 * 3, [.int 0, .os b6 f.conts.length c6, .int 1]⟩ : Blk) :: (⟨b6, 2, c6 * 1, (f.conts.map encI).flatten⟩ : Blk) :: (⟨some r3, 86, 2, [.os none 0 0, .os (some b8) 1 1]⟩ : Blk) :: (⟨some r2, 82, 2, [.int (f.yes + 1), .os ob css.length cap]⟩ : Blk) :: XX) := by
      intro b6 c6 b8
      rw [hR]
      refine seqQ_normal ?_
      repeat' (first
      | (refine r_go ?_; first | refine run_ret ?_))
      refine endD_view (view_freezeP 3 2 rfl rfl) ?_
      refine endD_view (view_freezeP 2 3 rfl rfl) ?_
      refine endD_view (view_perm (h' := (((⟨ob, 191, cap * 7, (css.map Subtype.val).flatten⟩ : Blk) :: hs.flatten) ++ ([] ++ ((⟨some b8, 195, 1 * 3, ([(⟨[.int 0, .os b6 f.conts.length c6, .int 1], rfl⟩ : Cells 3)].map Subtype.val).flatten⟩ : Blk) :: [[(⟨b6, 2, c6 * 1, (f.conts.map encI).flatten⟩ : Blk)]].flatten))) ++ F) (by
        rw [← hXX]
        exact perm_fin)) ?_
      exact endD_ret rfl (.cons (.cellI rfl rfl) (.cons (.cellI rfl rfl) (.cons (.tmp rfl) .nil))) (Le.tup (LeL.cons (Le.refl _) (LeL.cons (Le.agg (LeL.cons (Le.nil 0) (LeL.cons (Le.refl _) LeL.nil))) (LeL.cons (Le.refl _) LeL.nil)))) ⟨_, _, _, _, rfl, ⟨.os ob css.length cap, .inl ⟨ob, cap, css, hs, R.l1, R.l2, R.all, by rw [R.l1]; rfl, rfl⟩, rfl⟩,
        ⟨.sl [], [], .inr ⟨rfl, rfl, rfl⟩, .os (some b8) 1 1, _, .inl ⟨some b8, 1, [(⟨[.int 0, .os b6 f.conts.length c6, .int 1], rfl⟩ : Cells 3)], [[_]], rfl, rfl, fun i h0 h1 h2 => by
          have : i = 0 := by simp at h1; omega
          subst this
          exact ⟨.os b6 f.conts.length c6, .inl ⟨b6, c6, rfl, rfl⟩, rfl⟩, rfl, rfl⟩, rfl, rfl⟩, rfl⟩ (.inl rfl)
    have D0_1_2_3_4_5_6_7_8_9_10_11_12 : ∀ (b6 : Option Nat) (c6 : Nat) (b8 : Nat), P [true, true, true, true, true, true, true, true, true, true, true, true, true] [(218, .agg [.int (f.yes + 1), .os ob css.length cap]), (219, .os oc (iotaI f.vars.toNat).length cc), (220, .int f.phase), (221, .int f.pend), (222, .int f.round), (223, .sl ([f.phase, f.pend, f.round].map encI)), (224, .os b6 f.conts.length c6), (225, .agg [.int 0, .os b6 f.conts.length c6, .int 1]), (226, .os (some b8) 1 1), (227, .agg [.os none 0 0, .os (some b8) 1 1]), (4, .int 0), (2, .op (some r2) 0), (3, .op (some r3) 0), (10, .int f.phase), (11, .int f.pend), (12, .int f.round), (14, .ip [.int (f.yes + 1), .os ob css.length cap]), (28, .os oc (iotaI f.vars.toNat).length cc)] ((⟨some b8, 195, 1 * 3, [.int 0, .os b6 f.conts.length c6, .int 1]⟩ : Blk) :: (⟨b6, 2, c6 * 1, (f.conts.map encI).flatten⟩ : Blk) :: (⟨some r3, 86, 2, [.os none 0 0, .os (some b8) 1 1]⟩ : Blk) :: (⟨some r2, 82, 2, [.int (f.yes + 1), .os ob css.length cap]⟩ : Blk) :: XX) := by
      intro b6 c6 b8
      rw [hP]
      refine ja_done (by kernel_rfl) ?_
      have q := fin b6 c6 b8
      rw [hR] at q
      exact q
    have D0_1_2_3_4_5_6_7_8_9_10_11 : ∀ (b6 : Option Nat) (c6 : Nat) (b8 : Nat), P [true, true, true, true, true, true, true, true, true, true, true, true, false] [(218, .agg [.int (f.yes + 1), .os ob css.length cap]), (219, .os oc (iotaI f.vars.toNat).length cc), (220, .int f.phase), (221, .int f.pend), (222, .int f.round), (223, .sl ([f.phase, f.pend, f.round].map encI)), (224, .os b6 f.conts.length c6), (225, .agg [.int 0, .os b6 f.conts.length c6, .int 1]), (226, .os (some b8) 1 1), (227, .agg [.os none 0 0, .os (some b8) 1 1]), (2, .op (some r2) 0), (3, .op (some r3) 0), (10, .int f.phase), (11, .int f.pend), (12, .int f.round), (14, .ip [.int (f.yes + 1), .os ob css.length cap]), (28, .os oc (iotaI f.vars.toNat).length cc)] ((⟨some b8, 195, 1 * 3, [.int 0, .os b6 f.conts.length c6, .int 1]⟩ : Blk) :: (⟨b6, 2, c6 * 1, (f.conts.map encI).flatten⟩ : Blk) :: (⟨some r3, 86, 2, [.os none 0 0, .os (some b8) 1 1]⟩ : Blk) :: (⟨some r2, 82, 2, [.int (f.yes + 1), .os ob css.length cap]⟩ : Blk) :: XX) := by
      intro b6 c6 b8
      rw [hP]
      refine ja_step (rs := [12]) (by kernel_rfl) (by simp) (fun i hi => ?_)
      simp only [List.mem_cons, List.not_mem_nil, or_false] at hi
      rcases hi with rfl
      · refine ⟨_, rfl, ?_⟩
        refine j_op0 rfl rfl rfl rfl ?_
        refine j_nil ⟨rfl, ?_⟩
        have q := D0_1_2_3_4_5_6_7_8_9_10_11_12 b6 c6 b8
        rw [hP] at q
        exact ja_weak (by exact ⟨rfl, rfl, rfl, rfl, rfl, rfl, rfl, rfl, rfl, rfl, rfl, rfl, rfl, rfl, rfl, rfl, rfl, rfl, trivial⟩) (List.Perm.refl _) q
    have D0_1_2_3_4_5_6_7_8_9_10 : ∀ (b6 : Option Nat) (c6 : Nat) (b8 : Nat), P [true, true, true, true, true, true, true, true, true, true, true, false, false] [(218, .agg [.int (f.yes + 1), .os ob css.length cap]), (219, .os oc (iotaI f.vars.toNat).length cc), (220, .int f.phase), (221, .int f.pend), (222, .int f.round), (223, .sl ([f.phase, f.pend, f.round].map encI)), (224, .os b6 f.conts.length c6), (225, .agg [.int 0, .os b6 f.conts.length c6, .int 1]), (226, .os (some b8) 1 1), (227, .agg [.os none 0 0, .os (some b8) 1 1]), (2, .op (some r2) 0), (3, .op (some r3) 0), (10, .int f.phase), (11, .int f.pend), (12, .int f.round), (14, .ip [.int (f.yes + 1), .os ob css.length cap]), (28, .os oc (iotaI f.vars.toNat).length cc)] ((⟨some b8, 195, 1 * 3, [.int 0, .os b6 f.conts.length c6, .int 1]⟩ : Blk) :: (⟨b6, 2, c6 * 1, (f.conts.map encI).flatten⟩ : Blk) :: (⟨some r3, 86, 2, [.os none 0 0, .os none 0 0]⟩ : Blk) :: (⟨some r2, 82, 2, [.int (f.yes + 1), .os ob css.length cap]⟩ : Blk) :: XX) := by
      intro b6 c6 b8
      rw [hP]
      refine ja_step (rs := [11]) (by kernel_rfl) (by simp) (fun i hi => ?_)
      simp only [List.mem_cons, List.not_mem_nil, or_false] at hi
      rcases hi with rfl
      · refine ⟨_, rfl, ?_⟩
        refine j_storeN 2 rfl rfl rfl rfl rfl rfl rfl rfl rfl rfl rfl ?_
        refine j_nil ⟨rfl, ?_⟩
        have q := D0_1_2_3_4_5_6_7_8_9_10_11 b6 c6 b8
        rw [hP] at q
        exact ja_weak (by exact ⟨rfl, rfl, rfl, rfl, rfl, rfl, rfl, rfl, rfl, rfl, rfl, rfl, rfl, rfl, rfl, rfl, rfl, trivial⟩) (List.Perm.refl _) q
    have D0_1_2_3_4_5_6_7_8_10 : ∀ (b6 : Option Nat) (c6 : Nat) (b8 : Nat), P [true, true, true, true, true, true, true, true, true, false, true, false, false] [(218, .agg [.int (f.yes + 1), .os ob css.length cap]), (219, .os oc (iotaI f.vars.toNat).length cc), (220, .int f.phase), (221, .int f.pend), (222, .int f.round), (223, .sl ([f.phase, f.pend, f.round].map encI)), (224, .os b6 f.conts.length c6), (225, .agg [.int 0, .os b6 f.conts.length c6, .int 1]), (226, .os (some b8) 1 1), (2, .op (some r2) 0), (3, .op (some r3) 0), (10, .int f.phase), (11, .int f.pend), (12, .int f.round), (14, .ip [.int (f.yes + 1), .os ob css.length cap]), (28, .os oc (iotaI f.vars.toNat).length cc)] ((⟨some b8, 195, 1 * 3, [.int 0, .os b6 f.conts.length c6, .int 1]⟩ : Blk) :: (⟨b6, 2, c6 * 1, (f.conts.map encI).flatten⟩ : Blk) :: (⟨some r3, 86, 2, [.os none 0 0, .os none 0 0]⟩ : Blk) :: (⟨some r2, 82, 2, [.int (f.yes + 1), .os ob css.length cap]⟩ : Blk) :: XX) := by
      intro b6 c6 b8
      rw [hP]
      refine ja_step (rs := [9]) (by kernel_rfl) (by simp) (fun i hi => ?_)
      simp only [List.mem_cons, List.not_mem_nil, or_false] at hi
      rcases hi with rfl
      · refine ⟨_, rfl, ?_⟩
        first | refine j_op0 rfl rfl rfl rfl ?_ | refine j_build rfl rfl rfl rfl rfl rfl rfl ?_
        refine j_nil ⟨rfl, ?_⟩
        have q := D0_1_2_3_4_5_6_7_8_9_10 b6 c6 b8
        rw [hP] at q
        exact ja_weak (by exact ⟨rfl, rfl, rfl, rfl, rfl, rfl, rfl, rfl, rfl, rfl, rfl, rfl, rfl, rfl, rfl, rfl, rfl, trivial⟩) (List.Perm.refl _) q
    have D0_1_2_3_4_5_6_7_8_9 : ∀ (b6 : Option Nat) (c6 : Nat) (b8 : Nat), P [true, true, true, true, true, true, true, true, true, true, false, false, false] [(218, .agg [.int (f.yes + 1), .os ob css.length cap]), (219, .os oc (iotaI f.vars.toNat).length cc), (220, .int f.phase), (221, .int f.pend), (222, .int f.round), (223, .sl ([f.phase, f.pend, f.round].map encI)), (224, .os b6 f.conts.length c6), (225, .agg [.int 0, .os b6 f.conts.length c6, .int 1]), (226, .os (some b8) 1 1), (227, .agg [.os none 0 0, .os (some b8) 1 1]), (2, .op (some r2) 0), (3, .op (some r3) 0), (10, .int f.phase), (11, .int f.pend), (12, .int f.round), (14, .ip [.int (f.yes + 1), .os ob css.length cap]), (28, .os oc (iotaI f.vars.toNat).length cc)] ((⟨some b8, 195, 1 * 3, [.int 0, .os b6 f.conts.length c6, .int 1]⟩ : Blk) :: (⟨b6, 2, c6 * 1, (f.conts.map encI).flatten⟩ : Blk) :: (⟨some r3, 86, 2, [.os none 0 0, .os none 0 0]⟩ : Blk) :: (⟨some r2, 82, 2, [.int 0, .os none 0 0]⟩ : Blk) :: XX) := by
      intro b6 c6 b8
      rw [hP]
      refine ja_step (rs := [10]) (by kernel_rfl) (by simp) (fun i hi => ?_)
      simp only [List.mem_cons, List.not_mem_nil, or_false] at hi
      rcases hi with rfl
      · refine ⟨_, rfl, ?_⟩
        refine j_storeN 3 rfl rfl rfl rfl rfl rfl rfl rfl rfl rfl rfl ?_
        refine j_nil ⟨rfl, ?_⟩
        have q := D0_1_2_3_4_5_6_7_8_9_10 b6 c6 b8
        rw [hP] at q
        exact ja_weak (by exact ⟨rfl, rfl, rfl, rfl, rfl, rfl, rfl, rfl, rfl, rfl, rfl, rfl, rfl, rfl, rfl, rfl, rfl, trivial⟩) (List.Perm.refl _) q
    have D0_1_2_3_4_5_6_7_8 : ∀ (b6 : Option Nat) (c6 : Nat) (b8 : Nat), P [true, true, true, true, true, true, true, true, true, false, false, false, false] [(218, .agg [.int (f.yes + 1), .os ob css.length cap]), (219, .os oc (iotaI f.vars.toNat).length cc), (220, .int f.phase), (221, .int f.pend), (222, .int f.round), (223, .sl ([f.phase, f.pend, f.round].map encI)), (224, .os b6 f.conts.length c6), (225, .agg [.int 0, .os b6 f.conts.length c6, .int 1]), (226, .os (some b8) 1 1), (2, .op (some r2) 0), (3, .op (some r3) 0), (10, .int f.phase), (11, .int f.pend), (12, .int f.round), (14, .ip [.int (f.yes + 1), .os ob css.length cap]), (28, .os oc (iotaI f.vars.toNat).length cc)] ((⟨some b8, 195, 1 * 3, [.int 0, .os b6 f.conts.length c6, .int 1]⟩ : Blk) :: (⟨b6, 2, c6 * 1, (f.conts.map encI).flatten⟩ : Blk) :: (⟨some r3, 86, 2, [.os none 0 0, .os none 0 0]⟩ : Blk) :: (⟨some r2, 82, 2, [.int 0, .os none 0 0]⟩ : Blk) :: XX) := by
      intro b6 c6 b8
      rw [hP]
      refine ja_step (rs := [9, 10]) (by kernel_rfl) (by simp) (fun i hi => ?_)
      simp only [List.mem_cons, List.not_mem_nil, or_false] at hi
      rcases hi with rfl | rfl
      · refine ⟨_, rfl, ?_⟩
        first | refine j_op0 rfl rfl rfl rfl ?_ | refine j_build rfl rfl rfl rfl rfl rfl rfl ?_
        refine j_nil ⟨rfl, ?_⟩
        have q := D0_1_2_3_4_5_6_7_8_9 b6 c6 b8
        rw [hP] at q
        exact ja_weak (by exact ⟨rfl, rfl, rfl, rfl, rfl, rfl, rfl, rfl, rfl, rfl, rfl, rfl, rfl, rfl, rfl, rfl, rfl, trivial⟩) (List.Perm.refl _) q
      · refine ⟨_, rfl, ?_⟩
        refine j_storeN 3 rfl rfl rfl rfl rfl rfl rfl rfl rfl rfl rfl ?_
        refine j_nil ⟨rfl, ?_⟩
        have q := D0_1_2_3_4_5_6_7_8_10 b6 c6 b8
        rw [hP] at q
        exact ja_weak (by exact ⟨rfl, rfl, rfl, rfl, rfl, rfl, rfl, rfl, rfl, rfl, rfl, rfl, rfl, rfl, rfl, rfl, trivial⟩) (List.Perm.refl _) q
    have D0_1_2_3_4_5_6_7_10 : ∀ (b6 : Option Nat) (c6 : Nat), P [true, true, true, true, true, true, true, true, false, false, true, false, false] [(218, .agg [.int (f.yes + 1), .os ob css.length cap]), (219, .os oc (iotaI f.vars.toNat).length cc), (220, .int f.phase), (221, .int f.pend), (222, .int f.round), (223, .sl ([f.phase, f.pend, f.round].map encI)), (224, .os b6 f.conts.length c6), (225, .agg [.int 0, .os b6 f.conts.length c6, .int 1]), (2, .op (some r2) 0), (3, .op (some r3) 0), (10, .int f.phase), (11, .int f.pend), (12, .int f.round), (14, .ip [.int (f.yes + 1), .os ob css.length cap]), (28, .os oc (iotaI f.vars.toNat).length cc)] ((⟨b6, 2, c6 * 1, (f.conts.map encI).flatten⟩ : Blk) :: (⟨some r3, 86, 2, [.os none 0 0, .os none 0 0]⟩ : Blk) :: (⟨some r2, 82, 2, [.int (f.yes + 1), .os ob css.length cap]⟩ : Blk) :: XX) := by
      intro b6 c6
      rw [hP]
      refine ja_step (rs := [8]) (by kernel_rfl) (by simp) (fun i hi => ?_)
      simp only [List.mem_cons, List.not_mem_nil, or_false] at hi
      rcases hi with rfl
      · refine ⟨_, rfl, ?_⟩
        refine j_bslM rfl rfl rfl rfl rfl rfl rfl rfl rfl rfl rfl (fun b8 => ?_)
        refine j_nil ⟨rfl, ?_⟩
        have q := D0_1_2_3_4_5_6_7_8_10 b6 c6 b8
        rw [hP] at q
        exact ja_weak (by exact ⟨rfl, rfl, rfl, rfl, rfl, rfl, rfl, rfl, rfl, rfl, rfl, rfl, rfl, rfl, rfl, rfl, trivial⟩) (List.Perm.refl _) q
    have D1_2_3_4_5_6_7_8_9 : ∀ (b6 : Option Nat) (c6 : Nat) (b8 : Nat), P [false, true, true, true, true, true, true, true, true, true, false, false, false] [(219, .os oc (iotaI f.vars.toNat).length cc), (220, .int f.phase), (221, .int f.pend), (222, .int f.round), (223, .sl ([f.phase, f.pend, f.round].map encI)), (224, .os b6 f.conts.length c6), (225, .agg [.int 0, .os b6 f.conts.length c6, .int 1]), (226, .os (some b8) 1 1), (227, .agg [.os none 0 0, .os (some b8) 1 1]), (2, .op (some r2) 0), (3, .op (some r3) 0), (10, .int f.phase), (11, .int f.pend), (12, .int f.round), (14, .ip [.int (f.yes + 1), .os ob css.length cap]), (28, .os oc (iotaI f.vars.toNat).length cc)] ((⟨some b8, 195, 1 * 3, [.int 0, .os b6 f.conts.length c6, .int 1]⟩ : Blk) :: (⟨b6, 2, c6 * 1, (f.conts.map encI).flatten⟩ : Blk) :: (⟨some r3, 86, 2, [.os none 0 0, .os none 0 0]⟩ : Blk) :: (⟨some r2, 82, 2, [.int 0, .os none 0 0]⟩ : Blk) :: XX) := by
      intro b6 c6 b8
      rw [hP]
      refine ja_step (rs := [0]) (by kernel_rfl) (by simp) (fun i hi => ?_)
      simp only [List.mem_cons, List.not_mem_nil, or_false] at hi
      rcases hi with rfl
      · refine ⟨_, rfl, ?_⟩
        refine j_op0 rfl rfl rfl rfl ?_
        refine j_nil ⟨rfl, ?_⟩
        have q := D0_1_2_3_4_5_6_7_8_9 b6 c6 b8
        rw [hP] at q
        exact ja_weak (by exact ⟨rfl, rfl, rfl, rfl, rfl, rfl, rfl, rfl, rfl, rfl, rfl, rfl, rfl, rfl, rfl, rfl, rfl, trivial⟩) (List.Perm.refl _) q
    have D1_2_3_4_5_6_7_8 : ∀ (b6 : Option Nat) (c6 : Nat) (b8 : Nat), P [false, true, true, true, true, true, true, true, true, false, false, false, false] [(219, .os oc (iotaI f.vars.toNat).length cc), (220, .int f.phase), (221, .int f.pend), (222, .int f.round), (223, .sl ([f.phase, f.pend, f.round].map encI)), (224, .os b6 f.conts.length c6), (225, .agg [.int 0, .os b6 f.conts.length c6, .int 1]), (226, .os (some b8) 1 1), (2, .op (some r2) 0), (3, .op (some r3) 0), (10, .int f.phase), (11, .int f.pend), (12, .int f.round), (14, .ip [.int (f.yes + 1), .os ob css.length cap]), (28, .os oc (iotaI f.vars.toNat).length cc)] ((⟨some b8, 195, 1 * 3, [.int 0, .os b6 f.conts.length c6, .int 1]⟩ : Blk) :: (⟨b6, 2, c6 * 1, (f.conts.map encI).flatten⟩ : Blk) :: (⟨some r3, 86, 2, [.os none 0 0, .os none 0 0]⟩ : Blk) :: (⟨some r2, 82, 2, [.int 0, .os none 0 0]⟩ : Blk) :: XX) := by
      intro b6 c6 b8
      rw [hP]
      refine ja_step (rs := [0, 9]) (by kernel_rfl) (by simp) (fun i hi => ?_)
      simp only [List.mem_cons, List.not_mem_nil, or_false] at hi
      rcases hi with rfl | rfl
      · refine ⟨_, rfl, ?_⟩
        refine j_op0 rfl rfl rfl rfl ?_
        refine j_nil ⟨rfl, ?_⟩
        have q := D0_1_2_3_4_5_6_7_8 b6 c6 b8
        rw [hP] at q
        exact ja_weak (by exact ⟨rfl, rfl, rfl, rfl, rfl, rfl, rfl, rfl, rfl, rfl, rfl, rfl, rfl, rfl, rfl, rfl, trivial⟩) (List.Perm.refl _) q
      · refine ⟨_, rfl, ?_⟩
        first | refine j_op0 rfl rfl rfl rfl ?_ | refine j_build rfl rfl rfl rfl rfl rfl rfl ?_
        refine j_nil ⟨rfl, ?_⟩
        have q := D1_2_3_4_5_6_7_8_9 b6 c6 b8
        rw [hP] at q
        exact ja_weak (by exact ⟨rfl, rfl, rfl, rfl, rfl, rfl, rfl, rfl, rfl, rfl, rfl, rfl, rfl, rfl, rfl, rfl, trivial⟩) (List.Perm.refl _) q
    have D0_1_2_3_4_5_6_10 : ∀ (b6 : Option Nat) (c6 : Nat), P [true, true, true, true, true, true, true, false, false, false, true, false, false] [(218, .agg [.int (f.yes + 1), .os ob css.length cap]), (219, .os oc (iotaI f.vars.toNat).length cc), (220, .int f.phase), (221, .int f.pend), (222, .int f.round), (223, .sl ([f.phase, f.pend, f.round].map encI)), (224, .os b6 f.conts.length c6), (2, .op (some r2) 0), (3, .op (some r3) 0), (10, .int f.phase), (11, .int f.pend), (12, .int f.round), (14, .ip [.int (f.yes + 1), .os ob css.length cap]), (28, .os oc (iotaI f.vars.toNat).length cc)] ((⟨b6, 2, c6 * 1, (f.conts.map encI).flatten⟩ : Blk) :: (⟨some r3, 86, 2, [.os none 0 0, .os none 0 0]⟩ : Blk) :: (⟨some r2, 82, 2, [.int (f.yes + 1), .os ob css.length cap]⟩ : Blk) :: XX) := by
      intro b6 c6
      rw [hP]
      refine ja_step (rs := [7]) (by kernel_rfl) (by simp) (fun i hi => ?_)
      simp only [List.mem_cons, List.not_mem_nil, or_false] at hi
      rcases hi with rfl
      · refine ⟨_, rfl, ?_⟩
        first | refine j_op0 rfl rfl rfl rfl ?_ | refine j_build rfl rfl rfl rfl rfl rfl rfl ?_
        refine j_nil ⟨rfl, ?_⟩
        have q := D0_1_2_3_4_5_6_7_10 b6 c6
        rw [hP] at q
        exact ja_weak (by exact ⟨rfl, rfl, rfl, rfl, rfl, rfl, rfl, rfl, rfl, rfl, rfl, rfl, rfl, rfl, rfl, trivial⟩) (List.Perm.refl _) q
    have D0_1_2_3_4_5_6_7 : ∀ (b6 : Option Nat) (c6 : Nat), P [true, true, true, true, true, true, true, true, false, false, false, false, false] [(218, .agg [.int (f.yes + 1), .os ob css.length cap]), (219, .os oc (iotaI f.vars.toNat).length cc), (220, .int f.phase), (221, .int f.pend), (222, .int f.round), (223, .sl ([f.phase, f.pend, f.round].map encI)), (224, .os b6 f.conts.length c6), (225, .agg [.int 0, .os b6 f.conts.length c6, .int 1]), (2, .op (some r2) 0), (3, .op (some r3) 0), (10, .int f.phase), (11, .int f.pend), (12, .int f.round), (14, .ip [.int (f.yes + 1), .os ob css.length cap]), (28, .os oc (iotaI f.vars.toNat).length cc)] ((⟨b6, 2, c6 * 1, (f.conts.map encI).flatten⟩ : Blk) :: (⟨some r3, 86, 2, [.os none 0 0, .os none 0 0]⟩ : Blk) :: (⟨some r2, 82, 2, [.int 0, .os none 0 0]⟩ : Blk) :: XX) := by
      intro b6 c6
      rw [hP]
      refine ja_step (rs := [8, 10]) (by kernel_rfl) (by simp) (fun i hi => ?_)
      simp only [List.mem_cons, List.not_mem_nil, or_false] at hi
      rcases hi with rfl | rfl
      · refine ⟨_, rfl, ?_⟩
        refine j_bslM rfl rfl rfl rfl rfl rfl rfl rfl rfl rfl rfl (fun b8 => ?_)
        refine j_nil ⟨rfl, ?_⟩
        have q := D0_1_2_3_4_5_6_7_8 b6 c6 b8
        rw [hP] at q
        exact ja_weak (by exact ⟨rfl, rfl, rfl, rfl, rfl, rfl, rfl, rfl, rfl, rfl, rfl, rfl, rfl, rfl, rfl, rfl, trivial⟩) (List.Perm.refl _) q
      · refine ⟨_, rfl, ?_⟩
        refine j_storeN 2 rfl rfl rfl rfl rfl rfl rfl rfl rfl rfl rfl ?_
        refine j_nil ⟨rfl, ?_⟩
        have q := D0_1_2_3_4_5_6_7_10 b6 c6
        rw [hP] at q
        exact ja_weak (by exact ⟨rfl, rfl, rfl, rfl, rfl, rfl, rfl, rfl, rfl, rfl, rfl, rfl, rfl, rfl, rfl, trivial⟩) (List.Perm.refl _) q
    have D1_2_3_4_5_6_7 : ∀ (b6 : Option Nat) (c6 : Nat), P [false, true, true, true, true, true, true, true, false, false, false, false, false] [(219, .os oc (iotaI f.vars.toNat).length cc), (220, .int f.phase), (221, .int f.pend), (222, .int f.round), (223, .sl ([f.phase, f.pend, f.round].map encI)), (224, .os b6 f.conts.length c6), (225, .agg [.int 0, .os b6 f.conts.length c6, .int 1]), (2, .op (some r2) 0), (3, .op (some r3) 0), (10, .int f.phase), (11, .int f.pend), (12, .int f.round), (14, .ip [.int (f.yes + 1), .os ob css.length cap]), (28, .os oc (iotaI f.vars.toNat).length cc)] ((⟨b6, 2, c6 * 1, (f.conts.map encI).flatten⟩ : Blk) :: (⟨some r3, 86, 2, [.os none 0 0, .os none 0 0]⟩ : Blk) :: (⟨some r2, 82, 2, [.int 0, .os none 0 0]⟩ : Blk) :: XX) := by
      intro b6 c6
      rw [hP]
      refine ja_step (rs := [0, 8]) (by kernel_rfl) (by simp) (fun i hi => ?_)
      simp only [List.mem_cons, List.not_mem_nil, or_false] at hi
      rcases hi with rfl | rfl
      · refine ⟨_, rfl, ?_⟩
        refine j_op0 rfl rfl rfl rfl ?_
        refine j_nil ⟨rfl, ?_⟩
        have q := D0_1_2_3_4_5_6_7 b6 c6
        rw [hP] at q
        exact ja_weak (by exact ⟨rfl, rfl, rfl, rfl, rfl, rfl, rfl, rfl, rfl, rfl, rfl, rfl, rfl, rfl, rfl, trivial⟩) (List.Perm.refl _) q
      · refine ⟨_, rfl, ?_⟩
        refine j_bslM rfl rfl rfl rfl rfl rfl rfl rfl rfl rfl rfl (fun b8 => ?_)
        refine j_nil ⟨rfl, ?_⟩
        have q := D1_2_3_4_5_6_7_8 b6 c6 b8
        rw [hP] at q
        exact ja_weak (by exact ⟨rfl, rfl, rfl, rfl, rfl, rfl, rfl, rfl, rfl, rfl, rfl, rfl, rfl, rfl, rfl, trivial⟩) (List.Perm.refl _) q
    have D0_1_2_3_4_5_6 : ∀ (b6 : Option Nat) (c6 : Nat), P [true, true, true, true, true, true, true, false, false, false, false, false, false] [(218, .agg [.int (f.yes + 1), .os ob css.length cap]), (219, .os oc (iotaI f.vars.toNat).length cc), (220, .int f.phase), (221, .int f.pend), (222, .int f.round), (223, .sl ([f.phase, f.pend, f.round].map encI)), (224, .os b6 f.conts.length c6), (2, .op (some r2) 0), (3, .op (some r3) 0), (10, .int f.phase), (11, .int f.pend), (12, .int f.round), (14, .ip [.int (f.yes + 1), .os ob css.length cap]), (28, .os oc (iotaI f.vars.toNat).length cc)] ((⟨b6, 2, c6 * 1, (f.conts.map encI).flatten⟩ : Blk) :: (⟨some r3, 86, 2, [.os none 0 0, .os none 0 0]⟩ : Blk) :: (⟨some r2, 82, 2, [.int 0, .os none 0 0]⟩ : Blk) :: XX) := by
      intro b6 c6
      rw [hP]
      refine ja_step (rs := [7, 10]) (by kernel_rfl) (by simp) (fun i hi => ?_)
      simp only [List.mem_cons, List.not_mem_nil, or_false] at hi
      rcases hi with rfl | rfl
      · refine ⟨_, rfl, ?_⟩
        first | refine j_op0 rfl rfl rfl rfl ?_ | refine j_build rfl rfl rfl rfl rfl rfl rfl ?_
        refine j_nil ⟨rfl, ?_⟩
        have q := D0_1_2_3_4_5_6_7 b6 c6
        rw [hP] at q
        exact ja_weak (by exact ⟨rfl, rfl, rfl, rfl, rfl, rfl, rfl, rfl, rfl, rfl, rfl, rfl, rfl, rfl, rfl, trivial⟩) (List.Perm.refl _) q
      · refine ⟨_, rfl, ?_⟩
        refine j_storeN 2 rfl rfl rfl rfl rfl rfl rfl rfl rfl rfl rfl ?_
        refine j_nil ⟨rfl, ?_⟩
        have q := D0_1_2_3_4_5_6_10 b6 c6
        rw [hP] at q
        exact ja_weak (by exact ⟨rfl, rfl, rfl, rfl, rfl, rfl, rfl, rfl, rfl, rfl, rfl, rfl, rfl, rfl, trivial⟩) (List.Perm.refl _) q
    have D1_2_3_4_5_6 : ∀ (b6 : Option Nat) (c6 : Nat), P [false, true, true, true, true, true, true, false, false, false, false, false, false] [(219, .os oc (iotaI f.vars.toNat).length cc), (220, .int f.phase), (221, .int f.pend), (222, .int f.round), (223, .sl ([f.phase, f.pend, f.round].map encI)), (224, .os b6 f.conts.length c6), (2, .op (some r2) 0), (3, .op (some r3) 0), (10, .int f.phase), (11, .int f.pend), (12, .int f.round), (14, .ip [.int (f.yes + 1), .os ob css.length cap]), (28, .os oc (iotaI f.vars.toNat).length cc)] ((⟨b6, 2, c6 * 1, (f.conts.map encI).flatten⟩ : Blk) :: (⟨some r3, 86, 2, [.os none 0 0, .os none 0 0]⟩ : Blk) :: (⟨some r2, 82, 2, [.int 0, .os none 0 0]⟩ : Blk) :: XX) := by
      intro b6 c6
      rw [hP]
      refine ja_step (rs := [0, 7]) (by kernel_rfl) (by simp) (fun i hi => ?_)
      simp only [List.mem_cons, List.not_mem_nil, or_false] at hi
      rcases hi with rfl | rfl
      · refine ⟨_, rfl, ?_⟩
        refine j_op0 rfl rfl rfl rfl ?_
        refine j_nil ⟨rfl, ?_⟩
        have q := D0_1_2_3_4_5_6 b6 c6
        rw [hP] at q
        exact ja_weak (by exact ⟨rfl, rfl, rfl, rfl, rfl, rfl, rfl, rfl, rfl, rfl, rfl, rfl, rfl, rfl, trivial⟩) (List.Perm.refl _) q
      · refine ⟨_, rfl, ?_⟩
        first | refine j_op0 rfl rfl rfl rfl ?_ | refine j_build rfl rfl rfl rfl rfl rfl rfl ?_
        refine j_nil ⟨rfl, ?_⟩
        have q := D1_2_3_4_5_6_7 b6 c6
        rw [hP] at q
        exact ja_weak (by exact ⟨rfl, rfl, rfl, rfl, rfl, rfl, rfl, rfl, rfl, rfl, rfl, rfl, rfl, rfl, trivial⟩) (List.Perm.refl _) q
    have D0_1_2_3_4_5 : P [true, true, true, true, true, true, false, false, false, false, false, false, false] [(218, .agg [.int (f.yes + 1), .os ob css.length cap]), (219, .os oc (iotaI f.vars.toNat).length cc), (220, .int f.phase), (221, .int f.pend), (222, .int f.round), (223, .sl ([f.phase, f.pend, f.round].map encI)), (2, .op (some r2) 0), (3, .op (some r3) 0), (10, .int f.phase), (11, .int f.pend), (12, .int f.round), (14, .ip [.int (f.yes + 1), .os ob css.length cap]), (28, .os oc (iotaI f.vars.toNat).length cc)] ((⟨oc, 2, cc * 1, ((iotaI f.vars.toNat).map encI).flatten⟩ : Blk) :: (⟨some r3, 86, 2, [.os none 0 0, .os none 0 0]⟩ : Blk) :: (⟨some r2, 82, 2, [.int 0, .os none 0 0]⟩ : Blk) :: XX) := by
      rw [hP]
      refine ja_step (rs := [6]) (by kernel_rfl) (by simp) (fun i hi => ?_)
      simp only [List.mem_cons, List.not_mem_nil, or_false] at hi
      rcases hi with rfl
      · refine ⟨_, rfl, ?_⟩
        refine j_append 0 (g := encI) (ys := iotaI f.vars.toNat) [f.phase, f.pend, f.round] rfl rfl rfl rfl rfl rfl rfl rfl rfl rfl rfl rfl (fun _ => rfl) (fun _ _ => rfl) ⟨by simp only [List.length_cons, List.length_nil]; omega, by simp only [List.length_cons, List.length_nil]; omega⟩ rfl rfl (fun b6 c6 => ?_)
        refine j_nil ⟨rfl, ?_⟩
        have q := D0_1_2_3_4_5_6 b6 c6
        rw [hP] at q
        exact ja_weak (by exact ⟨rfl, rfl, rfl, rfl, rfl, rfl, rfl, rfl, rfl, rfl, rfl, rfl, rfl, rfl, trivial⟩) (List.Perm.refl _) q
    have D0_1_2_3_4 : P [true, true, true, true, true, false, false, false, false, false, false, false, false] [(218, .agg [.int (f.yes + 1), .os ob css.length cap]), (219, .os oc (iotaI f.vars.toNat).length cc), (220, .int f.phase), (221, .int f.pend), (222, .int f.round), (2, .op (some r2) 0), (3, .op (some r3) 0), (10, .int f.phase), (11, .int f.pend), (12, .int f.round), (14, .ip [.int (f.yes + 1), .os ob css.length cap]), (28, .os oc (iotaI f.vars.toNat).length cc)] ((⟨oc, 2, cc * 1, ((iotaI f.vars.toNat).map encI).flatten⟩ : Blk) :: (⟨some r3, 86, 2, [.os none 0 0, .os none 0 0]⟩ : Blk) :: (⟨some r2, 82, 2, [.int 0, .os none 0 0]⟩ : Blk) :: XX) := by
      rw [hP]
      refine ja_step (rs := [5]) (by kernel_rfl) (by simp) (fun i hi => ?_)
      simp only [List.mem_cons, List.not_mem_nil, or_false] at hi
      rcases hi with rfl
      · refine ⟨_, rfl, ?_⟩
        refine j_bsl rfl rfl rfl rfl rfl rfl rfl rfl rfl rfl rfl ?_
        refine j_nil ⟨rfl, ?_⟩
        have q := D0_1_2_3_4_5
        rw [hP] at q
        exact ja_weak (by exact ⟨rfl, rfl, rfl, rfl, rfl, rfl, rfl, rfl, rfl, rfl, rfl, rfl, rfl, trivial⟩) (List.Perm.refl _) q
    have D0_2_3_4_5 : P [true, false, true, true, true, true, false, false, false, false, false, false, false] [(218, .agg [.int (f.yes + 1), .os ob css.length cap]), (220, .int f.phase), (221, .int f.pend), (222, .int f.round), (223, .sl ([f.phase, f.pend, f.round].map encI)), (2, .op (some r2) 0), (3, .op (some r3) 0), (10, .int f.phase), (11, .int f.pend), (12, .int f.round), (14, .ip [.int (f.yes + 1), .os ob css.length cap]), (28, .os oc (iotaI f.vars.toNat).length cc)] ((⟨oc, 2, cc * 1, ((iotaI f.vars.toNat).map encI).flatten⟩ : Blk) :: (⟨some r3, 86, 2, [.os none 0 0, .os none 0 0]⟩ : Blk) :: (⟨some r2, 82, 2, [.int 0, .os none 0 0]⟩ : Blk) :: XX) := by
      rw [hP]
      refine ja_step (rs := [1]) (by kernel_rfl) (by simp) (fun i hi => ?_)
      simp only [List.mem_cons, List.not_mem_nil, or_false] at hi
      rcases hi with rfl
      · refine ⟨_, rfl, ?_⟩
        refine j_op0 rfl rfl rfl rfl ?_
        refine j_nil ⟨rfl, ?_⟩
        have q := D0_1_2_3_4_5
        rw [hP] at q
        exact ja_weak (by exact ⟨rfl, rfl, rfl, rfl, rfl, rfl, rfl, rfl, rfl, rfl, rfl, rfl, rfl, trivial⟩) (List.Perm.refl _) q
    have D1_2_3_4_5 : P [false, true, true, true, true, true, false, false, false, false, false, false, false] [(219, .os oc (iotaI f.vars.toNat).length cc), (220, .int f.phase), (221, .int f.pend), (222, .int f.round), (223, .sl ([f.phase, f.pend, f.round].map encI)), (2, .op (some r2) 0), (3, .op (some r3) 0), (10, .int f.phase), (11, .int f.pend), (12, .int f.round), (14, .ip [.int (f.yes + 1), .os ob css.length cap]), (28, .os oc (iotaI f.vars.toNat).length cc)] ((⟨oc, 2, cc * 1, ((iotaI f.vars.toNat).map encI).flatten⟩ : Blk) :: (⟨some r3, 86, 2, [.os none 0 0, .os none 0 0]⟩ : Blk) :: (⟨some r2, 82, 2, [.int 0, .os none 0 0]⟩ : Blk) :: XX) := by
      rw [hP]
      refine ja_step (rs := [0, 6]) (by kernel_rfl) (by simp) (fun i hi => ?_)
      simp only [List.mem_cons, List.not_mem_nil, or_false] at hi
      rcases hi with rfl | rfl
      · refine ⟨_, rfl, ?_⟩
        refine j_op0 rfl rfl rfl rfl ?_
        refine j_nil ⟨rfl, ?_⟩
        have q := D0_1_2_3_4_5
        rw [hP] at q
        exact ja_weak (by exact ⟨rfl, rfl, rfl, rfl, rfl, rfl, rfl, rfl, rfl, rfl, rfl, rfl, rfl, trivial⟩) (List.Perm.refl _) q
      · refine ⟨_, rfl, ?_⟩
        refine j_append 0 (g := encI) (ys := iotaI f.vars.toNat) [f.phase, f.pend, f.round] rfl rfl rfl rfl rfl rfl rfl rfl rfl rfl rfl rfl (fun _ => rfl) (fun _ _ => rfl) ⟨by simp only [List.length_cons, List.length_nil]; omega, by simp only [List.length_cons, List.length_nil]; omega⟩ rfl rfl (fun b6 c6 => ?_)
        refine j_nil ⟨rfl, ?_⟩
        have q := D1_2_3_4_5_6 b6 c6
        rw [hP] at q
        exact ja_weak (by exact ⟨rfl, rfl, rfl, rfl, rfl, rfl, rfl, rfl, rfl, rfl, rfl, rfl, rfl, trivial⟩) (List.Perm.refl _) q
    have D0_2_3_4 : P [true, false, true, true, true, false, false, false, false, false, false, false, false] [(218, .agg [.int (f.yes + 1), .os ob css.length cap]), (220, .int f.phase), (221, .int f.pend), (222, .int f.round), (2, .op (some r2) 0), (3, .op (some r3) 0), (10, .int f.phase), (11, .int f.pend), (12, .int f.round), (14, .ip [.int (f.yes + 1), .os ob css.length cap]), (28, .os oc (iotaI f.vars.toNat).length cc)] ((⟨oc, 2, cc * 1, ((iotaI f.vars.toNat).map encI).flatten⟩ : Blk) :: (⟨some r3, 86, 2, [.os none 0 0, .os none 0 0]⟩ : Blk) :: (⟨some r2, 82, 2, [.int 0, .os none 0 0]⟩ : Blk) :: XX) := by
      rw [hP]
      refine ja_step (rs := [1, 5]) (by kernel_rfl) (by simp) (fun i hi => ?_)
      simp only [List.mem_cons, List.not_mem_nil, or_false] at hi
      rcases hi with rfl | rfl
      · refine ⟨_, rfl, ?_⟩
        refine j_op0 rfl rfl rfl rfl ?_
        refine j_nil ⟨rfl, ?_⟩
        have q := D0_1_2_3_4
        rw [hP] at q
        exact ja_weak (by exact ⟨rfl, rfl, rfl, rfl, rfl, rfl, rfl, rfl, rfl, rfl, rfl, rfl, trivial⟩) (List.Perm.refl _) q
      · refine ⟨_, rfl, ?_⟩
        refine j_bsl rfl rfl rfl rfl rfl rfl rfl rfl rfl rfl rfl ?_
        refine j_nil ⟨rfl, ?_⟩
        have q := D0_2_3_4_5
        rw [hP] at q
        exact ja_weak (by exact ⟨rfl, rfl, rfl, rfl, rfl, rfl, rfl, rfl, rfl, rfl, rfl, rfl, trivial⟩) (List.Perm.refl _) q
    have D2_3_4_5 : P [false, false, true, true, true, true, false, false, false, false, false, false, false] [(220, .int f.phase), (221, .int f.pend), (222, .int f.round), (223, .sl ([f.phase, f.pend, f.round].map encI)), (2, .op (some r2) 0), (3, .op (some r3) 0), (10, .int f.phase), (11, .int f.pend), (12, .int f.round), (14, .ip [.int (f.yes + 1), .os ob css.length cap]), (28, .os oc (iotaI f.vars.toNat).length cc)] ((⟨oc, 2, cc * 1, ((iotaI f.vars.toNat).map encI).flatten⟩ : Blk) :: (⟨some r3, 86, 2, [.os none 0 0, .os none 0 0]⟩ : Blk) :: (⟨some r2, 82, 2, [.int 0, .os none 0 0]⟩ : Blk) :: XX) := by
      rw [hP]
      refine ja_step (rs := [0, 1]) (by kernel_rfl) (by simp) (fun i hi => ?_)
      simp only [List.mem_cons, List.not_mem_nil, or_false] at hi
      rcases hi with rfl | rfl
      · refine ⟨_, rfl, ?_⟩
        refine j_op0 rfl rfl rfl rfl ?_
        refine j_nil ⟨rfl, ?_⟩
        have q := D0_2_3_4_5
        rw [hP] at q
        exact ja_weak (by exact ⟨rfl, rfl, rfl, rfl, rfl, rfl, rfl, rfl, rfl, rfl, rfl, rfl, trivial⟩) (List.Perm.refl _) q
      · refine ⟨_, rfl, ?_⟩
        refine j_op0 rfl rfl rfl rfl ?_
        refine j_nil ⟨rfl, ?_⟩
        have q := D1_2_3_4_5
        rw [hP] at q
        exact ja_weak (by exact ⟨rfl, rfl, rfl, rfl, rfl, rfl, rfl, rfl, rfl, rfl, rfl, rfl, trivial⟩) (List.Perm.refl _) q
    have D1_2_3_4 : P [false, true, true, true, true, false, false, false, false, false, false, false, false] [(219, .os oc (iotaI f.vars.toNat).length cc), (220, .int f.phase), (221, .int f.pend), (222, .int f.round), (2, .op (some r2) 0), (3, .op (some r3) 0), (10, .int f.phase), (11, .int f.pend), (12, .int f.round), (14, .ip [.int (f.yes + 1), .os ob css.length cap]), (28, .os oc (iotaI f.vars.toNat).length cc)] ((⟨oc, 2, cc * 1, ((iotaI f.vars.toNat).map encI).flatten⟩ : Blk) :: (⟨some r3, 86, 2, [.os none 0 0, .os none 0 0]⟩ : Blk) :: (⟨some r2, 82, 2, [.int 0, .os none 0 0]⟩ : Blk) :: XX) := by
      rw [hP]
      refine ja_step (rs := [0, 5]) (by kernel_rfl) (by simp) (fun i hi => ?_)
      simp only [List.mem_cons, List.not_mem_nil, or_false] at hi
      rcases hi with rfl | rfl
      · refine ⟨_, rfl, ?_⟩
        refine j_op0 rfl rfl rfl rfl ?_
        refine j_nil ⟨rfl, ?_⟩
        have q := D0_1_2_3_4
        rw [hP] at q
        exact ja_weak (by exact ⟨rfl, rfl, rfl, rfl, rfl, rfl, rfl, rfl, rfl, rfl, rfl, rfl, trivial⟩) (List.Perm.refl _) q
      · refine ⟨_, rfl, ?_⟩
        refine j_bsl rfl rfl rfl rfl rfl rfl rfl rfl rfl rfl rfl ?_
        refine j_nil ⟨rfl, ?_⟩
        have q := D1_2_3_4_5
        rw [hP] at q
        exact ja_weak (by exact ⟨rfl, rfl, rfl, rfl, rfl, rfl, rfl, rfl, rfl, rfl, rfl, rfl, trivial⟩) (List.Perm.refl _) q
    have D0_1_3_4 : P [true, true, false, true, true, false, false, false, false, false, false, false, false] [(218, .agg [.int (f.yes + 1), .os ob css.length cap]), (219, .os oc (iotaI f.vars.toNat).length cc), (221, .int f.pend), (222, .int f.round), (2, .op (some r2) 0), (3, .op (some r3) 0), (10, .int f.phase), (11, .int f.pend), (12, .int f.round), (14, .ip [.int (f.yes + 1), .os ob css.length cap]), (28, .os oc (iotaI f.vars.toNat).length cc)] ((⟨oc, 2, cc * 1, ((iotaI f.vars.toNat).map encI).flatten⟩ : Blk) :: (⟨some r3, 86, 2, [.os none 0 0, .os none 0 0]⟩ : Blk) :: (⟨some r2, 82, 2, [.int 0, .os none 0 0]⟩ : Blk) :: XX) := by
      rw [hP]
      refine ja_step (rs := [2]) (by kernel_rfl) (by simp) (fun i hi => ?_)
      simp only [List.mem_cons, List.not_mem_nil, or_false] at hi
      rcases hi with rfl
      · refine ⟨_, rfl, ?_⟩
        refine j_op0 rfl rfl rfl rfl ?_
        refine j_nil ⟨rfl, ?_⟩
        have q := D0_1_2_3_4
        rw [hP] at q
        exact ja_weak (by exact ⟨rfl, rfl, rfl, rfl, rfl, rfl, rfl, rfl, rfl, rfl, rfl, rfl, trivial⟩) (List.Perm.refl _) q
    have D0_1_2_3 : P [true, true, true, true, false, false, false, false, false, false, false, false, false] [(218, .agg [.int (f.yes + 1), .os ob css.length cap]), (219, .os oc (iotaI f.vars.toNat).length cc), (220, .int f.phase), (221, .int f.pend), (2, .op (some r2) 0), (3, .op (some r3) 0), (10, .int f.phase), (11, .int f.pend), (12, .int f.round), (14, .ip [.int (f.yes + 1), .os ob css.length cap]), (28, .os oc (iotaI f.vars.toNat).length cc)] ((⟨oc, 2, cc * 1, ((iotaI f.vars.toNat).map encI).flatten⟩ : Blk) :: (⟨some r3, 86, 2, [.os none 0 0, .os none 0 0]⟩ : Blk) :: (⟨some r2, 82, 2, [.int 0, .os none 0 0]⟩ : Blk) :: XX) := by
      rw [hP]
      refine ja_step (rs := [4]) (by kernel_rfl) (by simp) (fun i hi => ?_)
      simp only [List.mem_cons, List.not_mem_nil, or_false] at hi
      rcases hi with rfl
      · refine ⟨_, rfl, ?_⟩
        refine j_op0 rfl rfl rfl rfl ?_
        refine j_nil ⟨rfl, ?_⟩
        have q := D0_1_2_3_4
        rw [hP] at q
        exact ja_weak (by exact ⟨rfl, rfl, rfl, rfl, rfl, rfl, rfl, rfl, rfl, rfl, rfl, rfl, trivial⟩) (List.Perm.refl _) q
    have D0_1_2_4 : P [true, true, true, false, true, false, false, false, false, false, false, false, false] [(218, .agg [.int (f.yes + 1), .os ob css.length cap]), (219, .os oc (iotaI f.vars.toNat).length cc), (220, .int f.phase), (222, .int f.round), (2, .op (some r2) 0), (3, .op (some r3) 0), (10, .int f.phase), (11, .int f.pend), (12, .int f.round), (14, .ip [.int (f.yes + 1), .os ob css.length cap]), (28, .os oc (iotaI f.vars.toNat).length cc)] ((⟨oc, 2, cc * 1, ((iotaI f.vars.toNat).map encI).flatten⟩ : Blk) :: (⟨some r3, 86, 2, [.os none 0 0, .os none 0 0]⟩ : Blk) :: (⟨some r2, 82, 2, [.int 0, .os none 0 0]⟩ : Blk) :: XX) := by
      rw [hP]
      refine ja_step (rs := [3]) (by kernel_rfl) (by simp) (fun i hi => ?_)
      simp only [List.mem_cons, List.not_mem_nil, or_false] at hi
      rcases hi with rfl
      · refine ⟨_, rfl, ?_⟩
        refine j_op0 rfl rfl rfl rfl ?_
        refine j_nil ⟨rfl, ?_⟩
        have q := D0_1_2_3_4
        rw [hP] at q
        exact ja_weak (by exact ⟨rfl, rfl, rfl, rfl, rfl, rfl, rfl, rfl, rfl, rfl, rfl, rfl, trivial⟩) (List.Perm.refl _) q
    have D2_3_4 : P [false, false, true, true, true, false, false, false, false, false, false, false, false] [(220, .int f.phase), (221, .int f.pend), (222, .int f.round), (2, .op (some r2) 0), (3, .op (some r3) 0), (10, .int f.phase), (11, .int f.pend), (12, .int f.round), (14, .ip [.int (f.yes + 1), .os ob css.length cap]), (28, .os oc (iotaI f.vars.toNat).length cc)] ((⟨oc, 2, cc * 1, ((iotaI f.vars.toNat).map encI).flatten⟩ : Blk) :: (⟨some r3, 86, 2, [.os none 0 0, .os none 0 0]⟩ : Blk) :: (⟨some r2, 82, 2, [.int 0, .os none 0 0]⟩ : Blk) :: XX) := by
      rw [hP]
      refine ja_step (rs := [0, 1, 5]) (by kernel_rfl) (by simp) (fun i hi => ?_)
      simp only [List.mem_cons, List.not_mem_nil, or_false] at hi
      rcases hi with rfl | rfl | rfl
      · refine ⟨_, rfl, ?_⟩
        refine j_op0 rfl rfl rfl rfl ?_
        refine j_nil ⟨rfl, ?_⟩
        have q := D0_2_3_4
        rw [hP] at q
        exact ja_weak (by exact ⟨rfl, rfl, rfl, rfl, rfl, rfl, rfl, rfl, rfl, rfl, rfl, trivial⟩) (List.Perm.refl _) q
      · refine ⟨_, rfl, ?_⟩
        refine j_op0 rfl rfl rfl rfl ?_
        refine j_nil ⟨rfl, ?_⟩
        have q := D1_2_3_4
        rw [hP] at q
        exact ja_weak (by exact ⟨rfl, rfl, rfl, rfl, rfl, rfl, rfl, rfl, rfl, rfl, rfl, trivial⟩) (List.Perm.refl _) q
      · refine ⟨_, rfl, ?_⟩
        refine j_bsl rfl rfl rfl rfl rfl rfl rfl rfl rfl rfl rfl ?_
        refine j_nil ⟨rfl, ?_⟩
        have q := D2_3_4_5
        rw [hP] at q
        exact ja_weak (by exact ⟨rfl, rfl, rfl, rfl, rfl, rfl, rfl, rfl, rfl, rfl, rfl, trivial⟩) (List.Perm.refl _) q
    have D0_2_4 : P [true, false, true, false, true, false, false, false, false, false, false, false, false] [(218, .agg [.int (f.yes + 1), .os ob css.length cap]), (220, .int f.phase), (222, .int f.round), (2, .op (some r2) 0), (3, .op (some r3) 0), (10, .int f.phase), (11, .int f.pend), (12, .int f.round), (14, .ip [.int (f.yes + 1), .os ob css.length cap]), (28, .os oc (iotaI f.vars.toNat).length cc)] ((⟨oc, 2, cc * 1, ((iotaI f.vars.toNat).map encI).flatten⟩ : Blk) :: (⟨some r3, 86, 2, [.os none 0 0, .os none 0 0]⟩ : Blk) :: (⟨some r2, 82, 2, [.int 0, .os none 0 0]⟩ : Blk) :: XX) := by
      rw [hP]
      refine ja_step (rs := [1, 3]) (by kernel_rfl) (by simp) (fun i hi => ?_)
      simp only [List.mem_cons, List.not_mem_nil, or_false] at hi
      rcases hi with rfl | rfl
      · refine ⟨_, rfl, ?_⟩
        refine j_op0 rfl rfl rfl rfl ?_
        refine j_nil ⟨rfl, ?_⟩
        have q := D0_1_2_4
        rw [hP] at q
        exact ja_weak (by exact ⟨rfl, rfl, rfl, rfl, rfl, rfl, rfl, rfl, rfl, rfl, rfl, trivial⟩) (List.Perm.refl _) q
      · refine ⟨_, rfl, ?_⟩
        refine j_op0 rfl rfl rfl rfl ?_
        refine j_nil ⟨rfl, ?_⟩
        have q := D0_2_3_4
        rw [hP] at q
        exact ja_weak (by exact ⟨rfl, rfl, rfl, rfl, rfl, rfl, rfl, rfl, rfl, rfl, rfl, trivial⟩) (List.Perm.refl _) q
    have D0_2_3 : P [true, false, true, true, false, false, false, false, false, false, false, false, false] [(218, .agg [.int (f.yes + 1), .os ob css.length cap]), (220, .int f.phase), (221, .int f.pend), (2, .op (some r2) 0), (3, .op (some r3) 0), (10, .int f.phase), (11, .int f.pend), (12, .int f.round), (14, .ip [.int (f.yes + 1), .os ob css.length cap]), (28, .os oc (iotaI f.vars.toNat).length cc)] ((⟨oc, 2, cc * 1, ((iotaI f.vars.toNat).map encI).flatten⟩ : Blk) :: (⟨some r3, 86, 2, [.os none 0 0, .os none 0 0]⟩ : Blk) :: (⟨some r2, 82, 2, [.int 0, .os none 0 0]⟩ : Blk) :: XX) := by
      rw [hP]
      refine ja_step (rs := [1, 4]) (by kernel_rfl) (by simp) (fun i hi => ?_)
      simp only [List.mem_cons, List.not_mem_nil, or_false] at hi
      rcases hi with rfl | rfl
      · refine ⟨_, rfl, ?_⟩
        refine j_op0 rfl rfl rfl rfl ?_
        refine j_nil ⟨rfl, ?_⟩
        have q := D0_1_2_3
        rw [hP] at q
        exact ja_weak (by exact ⟨rfl, rfl, rfl, rfl, rfl, rfl, rfl, rfl, rfl, rfl, rfl, trivial⟩) (List.Perm.refl _) q
      · refine ⟨_, rfl, ?_⟩
        refine j_op0 rfl rfl rfl rfl ?_
        refine j_nil ⟨rfl, ?_⟩
        have q := D0_2_3_4
        rw [hP] at q
        exact ja_weak (by exact ⟨rfl, rfl, rfl, rfl, rfl, rfl, rfl, rfl, rfl, rfl, rfl, trivial⟩) (List.Perm.refl _) q
    have D1_2_3 : P [false, true, true, true, false, false, false, false, false, false, false, false, false] [(219, .os oc (iotaI f.vars.toNat).length cc), (220, .int f.phase), (221, .int f.pend), (2, .op (some r2) 0), (3, .op (some r3) 0), (10, .int f.phase), (11, .int f.pend), (12, .int f.round), (14, .ip [.int (f.yes + 1), .os ob css.length cap]), (28, .os oc (iotaI f.vars.toNat).length cc)] ((⟨oc, 2, cc * 1, ((iotaI f.vars.toNat).map encI).flatten⟩ : Blk) :: (⟨some r3, 86, 2, [.os none 0 0, .os none 0 0]⟩ : Blk) :: (⟨some r2, 82, 2, [.int 0, .os none 0 0]⟩ : Blk) :: XX) := by
      rw [hP]
      refine ja_step (rs := [0, 4]) (by kernel_rfl) (by simp) (fun i hi => ?_)
      simp only [List.mem_cons, List.not_mem_nil, or_false] at hi
      rcases hi with rfl | rfl
      · refine ⟨_, rfl, ?_⟩
        refine j_op0 rfl rfl rfl rfl ?_
        refine j_nil ⟨rfl, ?_⟩
        have q := D0_1_2_3
        rw [hP] at q
        exact ja_weak (by exact ⟨rfl, rfl, rfl, rfl, rfl, rfl, rfl, rfl, rfl, rfl, rfl, trivial⟩) (List.Perm.refl _) q
      · refine ⟨_, rfl, ?_⟩
        refine j_op0 rfl rfl rfl rfl ?_
        refine j_nil ⟨rfl, ?_⟩
        have q := D1_2_3_4
        rw [hP] at q
        exact ja_weak (by exact ⟨rfl, rfl, rfl, rfl, rfl, rfl, rfl, rfl, rfl, rfl, rfl, trivial⟩) (List.Perm.refl _) q
    have D1_3_4 : P [false, true, false, true, true, false, false, false, false, false, false, false, false] [(219, .os oc (iotaI f.vars.toNat).length cc), (221, .int f.pend), (222, .int f.round), (2, .op (some r2) 0), (3, .op (some r3) 0), (10, .int f.phase), (11, .int f.pend), (12, .int f.round), (14, .ip [.int (f.yes + 1), .os ob css.length cap]), (28, .os oc (iotaI f.vars.toNat).length cc)] ((⟨oc, 2, cc * 1, ((iotaI f.vars.toNat).map encI).flatten⟩ : Blk) :: (⟨some r3, 86, 2, [.os none 0 0, .os none 0 0]⟩ : Blk) :: (⟨some r2, 82, 2, [.int 0, .os none 0 0]⟩ : Blk) :: XX) := by
      rw [hP]
      refine ja_step (rs := [0, 2]) (by kernel_rfl) (by simp) (fun i hi => ?_)
      simp only [List.mem_cons, List.not_mem_nil, or_false] at hi
      rcases hi with rfl | rfl
      · refine ⟨_, rfl, ?_⟩
        refine j_op0 rfl rfl rfl rfl ?_
        refine j_nil ⟨rfl, ?_⟩
        have q := D0_1_3_4
        rw [hP] at q
        exact ja_weak (by exact ⟨rfl, rfl, rfl, rfl, rfl, rfl, rfl, rfl, rfl, rfl, rfl, trivial⟩) (List.Perm.refl _) q
      · refine ⟨_, rfl, ?_⟩
        refine j_op0 rfl rfl rfl rfl ?_
        refine j_nil ⟨rfl, ?_⟩
        have q := D1_2_3_4
        rw [hP] at q
        exact ja_weak (by exact ⟨rfl, rfl, rfl, rfl, rfl, rfl, rfl, rfl, rfl, rfl, rfl, trivial⟩) (List.Perm.refl _) q
    have D0_3_4 : P [true, false, false, true, true, false, false, false, false, false, false, false, false] [(218, .agg [.int (f.yes + 1), .os ob css.length cap]), (221, .int f.pend), (222, .int f.round), (2, .op (some r2) 0), (3, .op (some r3) 0), (10, .int f.phase), (11, .int f.pend), (12, .int f.round), (14, .ip [.int (f.yes + 1), .os ob css.length cap]), (28, .os oc (iotaI f.vars.toNat).length cc)] ((⟨oc, 2, cc * 1, ((iotaI f.vars.toNat).map encI).flatten⟩ : Blk) :: (⟨some r3, 86, 2, [.os none 0 0, .os none 0 0]⟩ : Blk) :: (⟨some r2, 82, 2, [.int 0, .os none 0 0]⟩ : Blk) :: XX) := by
      rw [hP]
      refine ja_step (rs := [1, 2]) (by kernel_rfl) (by simp) (fun i hi => ?_)
      simp only [List.mem_cons, List.not_mem_nil, or_false] at hi
      rcases hi with rfl | rfl
      · refine ⟨_, rfl, ?_⟩
        refine j_op0 rfl rfl rfl rfl ?_
        refine j_nil ⟨rfl, ?_⟩
        have q := D0_1_3_4
        rw [hP] at q
        exact ja_weak (by exact ⟨rfl, rfl, rfl, rfl, rfl, rfl, rfl, rfl, rfl, rfl, rfl, trivial⟩) (List.Perm.refl _) q
      · refine ⟨_, rfl, ?_⟩
        refine j_op0 rfl rfl rfl rfl ?_
        refine j_nil ⟨rfl, ?_⟩
        have q := D0_2_3_4
        rw [hP] at q
        exact ja_weak (by exact ⟨rfl, rfl, rfl, rfl, rfl, rfl, rfl, rfl, rfl, rfl, rfl, trivial⟩) (List.Perm.refl _) q
    have D0_1_2 : P [true, true, true, false, false, false, false, false, false, false, false, false, false] [(218, .agg [.int (f.yes + 1), .os ob css.length cap]), (219, .os oc (iotaI f.vars.toNat).length cc), (220, .int f.phase), (2, .op (some r2) 0), (3, .op (some r3) 0), (10, .int f.phase), (11, .int f.pend), (12, .int f.round), (14, .ip [.int (f.yes + 1), .os ob css.length cap]), (28, .os oc (iotaI f.vars.toNat).length cc)] ((⟨oc, 2, cc * 1, ((iotaI f.vars.toNat).map encI).flatten⟩ : Blk) :: (⟨some r3, 86, 2, [.os none 0 0, .os none 0 0]⟩ : Blk) :: (⟨some r2, 82, 2, [.int 0, .os none 0 0]⟩ : Blk) :: XX) := by
      rw [hP]
      refine ja_step (rs := [3, 4]) (by kernel_rfl) (by simp) (fun i hi => ?_)
      simp only [List.mem_cons, List.not_mem_nil, or_false] at hi
      rcases hi with rfl | rfl
      · refine ⟨_, rfl, ?_⟩
        refine j_op0 rfl rfl rfl rfl ?_
        refine j_nil ⟨rfl, ?_⟩
        have q := D0_1_2_3
        rw [hP] at q
        exact ja_weak (by exact ⟨rfl, rfl, rfl, rfl, rfl, rfl, rfl, rfl, rfl, rfl, rfl, trivial⟩) (List.Perm.refl _) q
      · refine ⟨_, rfl, ?_⟩
        refine j_op0 rfl rfl rfl rfl ?_
        refine j_nil ⟨rfl, ?_⟩
        have q := D0_1_2_4
        rw [hP] at q
        exact ja_weak (by exact ⟨rfl, rfl, rfl, rfl, rfl, rfl, rfl, rfl, rfl, rfl, rfl, trivial⟩) (List.Perm.refl _) q
    have D0_1_3 : P [true, true, false, true, false, false, false, false, false, false, false, false, false] [(218, .agg [.int (f.yes + 1), .os ob css.length cap]), (219, .os oc (iotaI f.vars.toNat).length cc), (221, .int f.pend), (2, .op (some r2) 0), (3, .op (some r3) 0), (10, .int f.phase), (11, .int f.pend), (12, .int f.round), (14, .ip [.int (f.yes + 1), .os ob css.length cap]), (28, .os oc (iotaI f.vars.toNat).length cc)] ((⟨oc, 2, cc * 1, ((iotaI f.vars.toNat).map encI).flatten⟩ : Blk) :: (⟨some r3, 86, 2, [.os none 0 0, .os none 0 0]⟩ : Blk) :: (⟨some r2, 82, 2, [.int 0, .os none 0 0]⟩ : Blk) :: XX) := by
      rw [hP]
      refine ja_step (rs := [2, 4]) (by kernel_rfl) (by simp) (fun i hi => ?_)
      simp only [List.mem_cons, List.not_mem_nil, or_false] at hi
      rcases hi with rfl | rfl
      · refine ⟨_, rfl, ?_⟩
        refine j_op0 rfl rfl rfl rfl ?_
        refine j_nil ⟨rfl, ?_⟩
        have q := D0_1_2_3
        rw [hP] at q
        exact ja_weak (by exact ⟨rfl, rfl, rfl, rfl, rfl, rfl, rfl, rfl, rfl, rfl, rfl, trivial⟩) (List.Perm.refl _) q
      · refine ⟨_, rfl, ?_⟩
        refine j_op0 rfl rfl rfl rfl ?_
        refine j_nil ⟨rfl, ?_⟩
        have q := D0_1_3_4
        rw [hP] at q
        exact ja_weak (by exact ⟨rfl, rfl, rfl, rfl, rfl, rfl, rfl, rfl, rfl, rfl, rfl, trivial⟩) (List.Perm.refl _) q
    have D0_1_4 : P [true, true, false, false, true, false, false, false, false, false, false, false, false] [(218, .agg [.int (f.yes + 1), .os ob css.length cap]), (219, .os oc (iotaI f.vars.toNat).length cc), (222, .int f.round), (2, .op (some r2) 0), (3, .op (some r3) 0), (10, .int f.phase), (11, .int f.pend), (12, .int f.round), (14, .ip [.int (f.yes + 1), .os ob css.length cap]), (28, .os oc (iotaI f.vars.toNat).length cc)] ((⟨oc, 2, cc * 1, ((iotaI f.vars.toNat).map encI).flatten⟩ : Blk) :: (⟨some r3, 86, 2, [.os none 0 0, .os none 0 0]⟩ : Blk) :: (⟨some r2, 82, 2, [.int 0, .os none 0 0]⟩ : Blk) :: XX) := by
      rw [hP]
      refine ja_step (rs := [2, 3]) (by kernel_rfl) (by simp) (fun i hi => ?_)
      simp only [List.mem_cons, List.not_mem_nil, or_false] at hi
      rcases hi with rfl | rfl
      · refine ⟨_, rfl, ?_⟩
        refine j_op0 rfl rfl rfl rfl ?_
        refine j_nil ⟨rfl, ?_⟩
        have q := D0_1_2_4
        rw [hP] at q
        exact ja_weak (by exact ⟨rfl, rfl, rfl, rfl, rfl, rfl, rfl, rfl, rfl, rfl, rfl, trivial⟩) (List.Perm.refl _) q
      · refine ⟨_, rfl, ?_⟩
        refine j_op0 rfl rfl rfl rfl ?_
        refine j_nil ⟨rfl, ?_⟩
        have q := D0_1_3_4
        rw [hP] at q
        exact ja_weak (by exact ⟨rfl, rfl, rfl, rfl, rfl, rfl, rfl, rfl, rfl, rfl, rfl, trivial⟩) (List.Perm.refl _) q
    have D1_2_4 : P [false, true, true, false, true, false, false, false, false, false, false, false, false] [(219, .os oc (iotaI f.vars.toNat).length cc), (220, .int f.phase), (222, .int f.round), (2, .op (some r2) 0), (3, .op (some r3) 0), (10, .int f.phase), (11, .int f.pend), (12, .int f.round), (14, .ip [.int (f.yes + 1), .os ob css.length cap]), (28, .os oc (iotaI f.vars.toNat).length cc)] ((⟨oc, 2, cc * 1, ((iotaI f.vars.toNat).map encI).flatten⟩ : Blk) :: (⟨some r3, 86, 2, [.os none 0 0, .os none 0 0]⟩ : Blk) :: (⟨some r2, 82, 2, [.int 0, .os none 0 0]⟩ : Blk) :: XX) := by
      rw [hP]
      refine ja_step (rs := [0, 3]) (by kernel_rfl) (by simp) (fun i hi => ?_)
      simp only [List.mem_cons, List.not_mem_nil, or_false] at hi
      rcases hi with rfl | rfl
      · refine ⟨_, rfl, ?_⟩
        refine j_op0 rfl rfl rfl rfl ?_
        refine j_nil ⟨rfl, ?_⟩
        have q := D0_1_2_4
        rw [hP] at q
        exact ja_weak (by exact ⟨rfl, rfl, rfl, rfl, rfl, rfl, rfl, rfl, rfl, rfl, rfl, trivial⟩) (List.Perm.refl _) q
      · refine ⟨_, rfl, ?_⟩
        refine j_op0 rfl rfl rfl rfl ?_
        refine j_nil ⟨rfl, ?_⟩
        have q := D1_2_3_4
        rw [hP] at q
        exact ja_weak (by exact ⟨rfl, rfl, rfl, rfl, rfl, rfl, rfl, rfl, rfl, rfl, rfl, trivial⟩) (List.Perm.refl _) q
    have D1_4 : P [false, true, false, false, true, false, false, false, false, false, false, false, false] [(219, .os oc (iotaI f.vars.toNat).length cc), (222, .int f.round), (2, .op (some r2) 0), (3, .op (some r3) 0), (10, .int f.phase), (11, .int f.pend), (12, .int f.round), (14, .ip [.int (f.yes + 1), .os ob css.length cap]), (28, .os oc (iotaI f.vars.toNat).length cc)] ((⟨oc, 2, cc * 1, ((iotaI f.vars.toNat).map encI).flatten⟩ : Blk) :: (⟨some r3, 86, 2, [.os none 0 0, .os none 0 0]⟩ : Blk) :: (⟨some r2, 82, 2, [.int 0, .os none 0 0]⟩ : Blk) :: XX) := by
      rw [hP]
      refine ja_step (rs := [0, 2, 3]) (by kernel_rfl) (by simp) (fun i hi => ?_)
      simp only [List.mem_cons, List.not_mem_nil, or_false] at hi
      rcases hi with rfl | rfl | rfl
      · refine ⟨_, rfl, ?_⟩
        refine j_op0 rfl rfl rfl rfl ?_
        refine j_nil ⟨rfl, ?_⟩
        have q := D0_1_4
        rw [hP] at q
        exact ja_weak (by exact ⟨rfl, rfl, rfl, rfl, rfl, rfl, rfl, rfl, rfl, rfl, trivial⟩) (List.Perm.refl _) q
      · refine ⟨_, rfl, ?_⟩
        refine j_op0 rfl rfl rfl rfl ?_
        refine j_nil ⟨rfl, ?_⟩
        have q := D1_2_4
        rw [hP] at q
        exact ja_weak (by exact ⟨rfl, rfl, rfl, rfl, rfl, rfl, rfl, rfl, rfl, rfl, trivial⟩) (List.Perm.refl _) q
      · refine ⟨_, rfl, ?_⟩
        refine j_op0 rfl rfl rfl rfl ?_
        refine j_nil ⟨rfl, ?_⟩
        have q := D1_3_4
        rw [hP] at q
        exact ja_weak (by exact ⟨rfl, rfl, rfl, rfl, rfl, rfl, rfl, rfl, rfl, rfl, trivial⟩) (List.Perm.refl _) q
    have D2_3 : P [false, false, true, true, false, false, false, false, false, false, false, false, false] [(220, .int f.phase), (221, .int f.pend), (2, .op (some r2) 0), (3, .op (some r3) 0), (10, .int f.phase), (11, .int f.pend), (12, .int f.round), (14, .ip [.int (f.yes + 1), .os ob css.length cap]), (28, .os oc (iotaI f.vars.toNat).length cc)] ((⟨oc, 2, cc * 1, ((iotaI f.vars.toNat).map encI).flatten⟩ : Blk) :: (⟨some r3, 86, 2, [.os none 0 0, .os none 0 0]⟩ : Blk) :: (⟨some r2, 82, 2, [.int 0, .os none 0 0]⟩ : Blk) :: XX) := by
      rw [hP]
      refine ja_step (rs := [0, 1, 4]) (by kernel_rfl) (by simp) (fun i hi => ?_)
      simp only [List.mem_cons, List.not_mem_nil, or_false] at hi
      rcases hi with rfl | rfl | rfl
      · refine ⟨_, rfl, ?_⟩
        refine j_op0 rfl rfl rfl rfl ?_
        refine j_nil ⟨rfl, ?_⟩
        have q := D0_2_3
        rw [hP] at q
        exact ja_weak (by exact ⟨rfl, rfl, rfl, rfl, rfl, rfl, rfl, rfl, rfl, rfl, trivial⟩) (List.Perm.refl _) q
      · refine ⟨_, rfl, ?_⟩
        refine j_op0 rfl rfl rfl rfl ?_
        refine j_nil ⟨rfl, ?_⟩
        have q := D1_2_3
        rw [hP] at q
        exact ja_weak (by exact ⟨rfl, rfl, rfl, rfl, rfl, rfl, rfl, rfl, rfl, rfl, trivial⟩) (List.Perm.refl _) q
      · refine ⟨_, rfl, ?_⟩
        refine j_op0 rfl rfl rfl rfl ?_
        refine j_nil ⟨rfl, ?_⟩
        have q := D2_3_4
        rw [hP] at q
        exact ja_weak (by exact ⟨rfl, rfl, rfl, rfl, rfl, rfl, rfl, rfl, rfl, rfl, trivial⟩) (List.Perm.refl _) q
    have D3_4 : P [false, false, false, true, true, false, false, false, false, false, false, false, false] [(221, .int f.pend), (222, .int f.round), (2, .op (some r2) 0), (3, .op (some r3) 0), (10, .int f.phase), (11, .int f.pend), (12, .int f.round), (14, .ip [.int (f.yes + 1), .os ob css.length cap]), (28, .os oc (iotaI f.vars.toNat).length cc)] ((⟨oc, 2, cc * 1, ((iotaI f.vars.toNat).map encI).flatten⟩ : Blk) :: (⟨some r3, 86, 2, [.os none 0 0, .os none 0 0]⟩ : Blk) :: (⟨some r2, 82, 2, [.int 0, .os none 0 0]⟩ : Blk) :: XX) := by
      rw [hP]
      refine ja_step (rs := [0, 1, 2]) (by kernel_rfl) (by simp) (fun i hi => ?_)
      simp only [List.mem_cons, List.not_mem_nil, or_false] at hi
      rcases hi with rfl | rfl | rfl
      · refine ⟨_, rfl, ?_⟩
        refine j_op0 rfl rfl rfl rfl ?_
        refine j_nil ⟨rfl, ?_⟩
        have q := D0_3_4
        rw [hP] at q
        exact ja_weak (by exact ⟨rfl, rfl, rfl, rfl, rfl, rfl, rfl, rfl, rfl, rfl, trivial⟩) (List.Perm.refl _) q
      · refine ⟨_, rfl, ?_⟩
        refine j_op0 rfl rfl rfl rfl ?_
        refine j_nil ⟨rfl, ?_⟩
        have q := D1_3_4
        rw [hP] at q
        exact ja_weak (by exact ⟨rfl, rfl, rfl, rfl, rfl, rfl, rfl, rfl, rfl, rfl, trivial⟩) (List.Perm.refl _) q
      · refine ⟨_, rfl, ?_⟩
        refine j_op0 rfl rfl rfl rfl ?_
        refine j_nil ⟨rfl, ?_⟩
        have q := D2_3_4
        rw [hP] at q
        exact ja_weak (by exact ⟨rfl, rfl, rfl, rfl, rfl, rfl, rfl, rfl, rfl, rfl, trivial⟩) (List.Perm.refl _) q
    have D0_3 : P [true, false, false, true, false, false, false, false, false, false, false, false, false] [(218, .agg [.int (f.yes + 1), .os ob css.length cap]), (221, .int f.pend), (2, .op (some r2) 0), (3, .op (some r3) 0), (10, .int f.phase), (11, .int f.pend), (12, .int f.round), (14, .ip [.int (f.yes + 1), .os ob css.length cap]), (28, .os oc (iotaI f.vars.toNat).length cc)] ((⟨oc, 2, cc * 1, ((iotaI f.vars.toNat).map encI).flatten⟩ : Blk) :: (⟨some r3, 86, 2, [.os none 0 0, .os none 0 0]⟩ : Blk) :: (⟨some r2, 82, 2, [.int 0, .os none 0 0]⟩ : Blk) :: XX) := by
      rw [hP]
      refine ja_step (rs := [1, 2, 4]) (by kernel_rfl) (by simp) (fun i hi => ?_)
      simp only [List.mem_cons, List.not_mem_nil, or_false] at hi
      rcases hi with rfl | rfl | rfl
      · refine ⟨_, rfl, ?_⟩
        refine j_op0 rfl rfl rfl rfl ?_
        refine j_nil ⟨rfl, ?_⟩
        have q := D0_1_3
        rw [hP] at q
        exact ja_weak (by exact ⟨rfl, rfl, rfl, rfl, rfl, rfl, rfl, rfl, rfl, rfl, trivial⟩) (List.Perm.refl _) q
      · refine ⟨_, rfl, ?_⟩
        refine j_op0 rfl rfl rfl rfl ?_
        refine j_nil ⟨rfl, ?_⟩
        have q := D0_2_3
        rw [hP] at q
        exact ja_weak (by exact ⟨rfl, rfl, rfl, rfl, rfl, rfl, rfl, rfl, rfl, rfl, trivial⟩) (List.Perm.refl _) q
      · refine ⟨_, rfl, ?_⟩
        refine j_op0 rfl rfl rfl rfl ?_
        refine j_nil ⟨rfl, ?_⟩
        have q := D0_3_4
        rw [hP] at q
        exact ja_weak (by exact ⟨rfl, rfl, rfl, rfl, rfl, rfl, rfl, rfl, rfl, rfl, trivial⟩) (List.Perm.refl _) q
    have D0_2 : P [true, false, true, false, false, false, false, false, false, false, false, false, false] [(218, .agg [.int (f.yes + 1), .os ob css.length cap]), (220, .int f.phase), (2, .op (some r2) 0), (3, .op (some r3) 0), (10, .int f.phase), (11, .int f.pend), (12, .int f.round), (14, .ip [.int (f.yes + 1), .os ob css.length cap]), (28, .os oc (iotaI f.vars.toNat).length cc)] ((⟨oc, 2, cc * 1, ((iotaI f.vars.toNat).map encI).flatten⟩ : Blk) :: (⟨some r3, 86, 2, [.os none 0 0, .os none 0 0]⟩ : Blk) :: (⟨some r2, 82, 2, [.int 0, .os none 0 0]⟩ : Blk) :: XX) := by
      rw [hP]
      refine ja_step (rs := [1, 3, 4]) (by kernel_rfl) (by simp) (fun i hi => ?_)
      simp only [List.mem_cons, List.not_mem_nil, or_false] at hi
      rcases hi with rfl | rfl | rfl
      · refine ⟨_, rfl, ?_⟩
        refine j_op0 rfl rfl rfl rfl ?_
        refine j_nil ⟨rfl, ?_⟩
        have q := D0_1_2
        rw [hP] at q
        exact ja_weak (by exact ⟨rfl, rfl, rfl, rfl, rfl, rfl, rfl, rfl, rfl, rfl, trivial⟩) (List.Perm.refl _) q
      · refine ⟨_, rfl, ?_⟩
        refine j_op0 rfl rfl rfl rfl ?_
        refine j_nil ⟨rfl, ?_⟩
        have q := D0_2_3
        rw [hP] at q
        exact ja_weak (by exact ⟨rfl, rfl, rfl, rfl, rfl, rfl, rfl, rfl, rfl, rfl, trivial⟩) (List.Perm.refl _) q
      · refine ⟨_, rfl, ?_⟩
        refine j_op0 rfl rfl rfl rfl ?_
        refine j_nil ⟨rfl, ?_⟩
        have q := D0_2_4
        rw [hP] at q
        exact ja_weak (by exact ⟨rfl, rfl, rfl, rfl, rfl, rfl, rfl, rfl, rfl, rfl, trivial⟩) (List.Perm.refl _) q
    have D0_4 : P [true, false, false, false, true, false, false, false, false, false, false, false, false] [(218, .agg [.int (f.yes + 1), .os ob css.length cap]), (222, .int f.round), (2, .op (some r2) 0), (3, .op (some r3) 0), (10, .int f.phase), (11, .int f.pend), (12, .int f.round), (14, .ip [.int (f.yes + 1), .os ob css.length cap]), (28, .os oc (iotaI f.vars.toNat).length cc)] ((⟨oc, 2, cc * 1, ((iotaI f.vars.toNat).map encI).flatten⟩ : Blk) :: (⟨some r3, 86, 2, [.os none 0 0, .os none 0 0]⟩ : Blk) :: (⟨some r2, 82, 2, [.int 0, .os none 0 0]⟩ : Blk) :: XX) := by
      rw [hP]
      refine ja_step (rs := [1, 2, 3]) (by kernel_rfl) (by simp) (fun i hi => ?_)
      simp only [List.mem_cons, List.not_mem_nil, or_false] at hi
      rcases hi with rfl | rfl | rfl
      · refine ⟨_, rfl, ?_⟩
        refine j_op0 rfl rfl rfl rfl ?_
        refine j_nil ⟨rfl, ?_⟩
        have q := D0_1_4
        rw [hP] at q
        exact ja_weak (by exact ⟨rfl, rfl, rfl, rfl, rfl, rfl, rfl, rfl, rfl, rfl, trivial⟩) (List.Perm.refl _) q
      · refine ⟨_, rfl, ?_⟩
        refine j_op0 rfl rfl rfl rfl ?_
        refine j_nil ⟨rfl, ?_⟩
        have q := D0_2_4
        rw [hP] at q
        exact ja_weak (by exact ⟨rfl, rfl, rfl, rfl, rfl, rfl, rfl, rfl, rfl, rfl, trivial⟩) (List.Perm.refl _) q
      · refine ⟨_, rfl, ?_⟩
        refine j_op0 rfl rfl rfl rfl ?_
        refine j_nil ⟨rfl, ?_⟩
        have q := D0_3_4
        rw [hP] at q
        exact ja_weak (by exact ⟨rfl, rfl, rfl, rfl, rfl, rfl, rfl, rfl, rfl, rfl, trivial⟩) (List.Perm.refl _) q
    have D2_4 : P [false, false, true, false, true, false, false, false, false, false, false, false, false] [(220, .int f.phase), (222, .int f.round), (2, .op (some r2) 0), (3, .op (some r3) 0), (10, .int f.phase), (11, .int f.pend), (12, .int f.round), (14, .ip [.int (f.yes + 1), .os ob css.length cap]), (28, .os oc (iotaI f.vars.toNat).length cc)] ((⟨oc, 2, cc * 1, ((iotaI f.vars.toNat).map encI).flatten⟩ : Blk) :: (⟨some r3, 86, 2, [.os none 0 0, .os none 0 0]⟩ : Blk) :: (⟨some r2, 82, 2, [.int 0, .os none 0 0]⟩ : Blk) :: XX) := by
      rw [hP]
      refine ja_step (rs := [0, 1, 3]) (by kernel_rfl) (by simp) (fun i hi => ?_)
      simp only [List.mem_cons, List.not_mem_nil, or_false] at hi
      rcases hi with rfl | rfl | rfl
      · refine ⟨_, rfl, ?_⟩
        refine j_op0 rfl rfl rfl rfl ?_
        refine j_nil ⟨rfl, ?_⟩
        have q := D0_2_4
        rw [hP] at q
        exact ja_weak (by exact ⟨rfl, rfl, rfl, rfl, rfl, rfl, rfl, rfl, rfl, rfl, trivial⟩) (List.Perm.refl _) q
      · refine ⟨_, rfl, ?_⟩
        refine j_op0 rfl rfl rfl rfl ?_
        refine j_nil ⟨rfl, ?_⟩
        have q := D1_2_4
        rw [hP] at q
        exact ja_weak (by exact ⟨rfl, rfl, rfl, rfl, rfl, rfl, rfl, rfl, rfl, rfl, trivial⟩) (List.Perm.refl _) q
      · refine ⟨_, rfl, ?_⟩
        refine j_op0 rfl rfl rfl rfl ?_
        refine j_nil ⟨rfl, ?_⟩
        have q := D2_3_4
        rw [hP] at q
        exact ja_weak (by exact ⟨rfl, rfl, rfl, rfl, rfl, rfl, rfl, rfl, rfl, rfl, trivial⟩) (List.Perm.refl _) q
    have D1_3 : P [false, true, false, true, false, false, false, false, false, false, false, false, false] [(219, .os oc (iotaI f.vars.toNat).length cc), (221, .int f.pend), (2, .op (some r2) 0), (3, .op (some r3) 0), (10, .int f.phase), (11, .int f.pend), (12, .int f.round), (14, .ip [.int (f.yes + 1), .os ob css.length cap]), (28, .os oc (iotaI f.vars.toNat).length cc)] ((⟨oc, 2, cc * 1, ((iotaI f.vars.toNat).map encI).flatten⟩ : Blk) :: (⟨some r3, 86, 2, [.os none 0 0, .os none 0 0]⟩ : Blk) :: (⟨some r2, 82, 2, [.int 0, .os none 0 0]⟩ : Blk) :: XX) := by
      rw [hP]
      refine ja_step (rs := [0, 2, 4]) (by kernel_rfl) (by simp) (fun i hi => ?_)
      simp only [List.mem_cons, List.not_mem_nil, or_false] at hi
      rcases hi with rfl | rfl | rfl
      · refine ⟨_, rfl, ?_⟩
        refine j_op0 rfl rfl rfl rfl ?_
        refine j_nil ⟨rfl, ?_⟩
        have q := D0_1_3
        rw [hP] at q
        exact ja_weak (by exact ⟨rfl, rfl, rfl, rfl, rfl, rfl, rfl, rfl, rfl, rfl, trivial⟩) (List.Perm.refl _) q
      · refine ⟨_, rfl, ?_⟩
        refine j_op0 rfl rfl rfl rfl ?_
        refine j_nil ⟨rfl, ?_⟩
        have q := D1_2_3
        rw [hP] at q
        exact ja_weak (by exact ⟨rfl, rfl, rfl, rfl, rfl, rfl, rfl, rfl, rfl, rfl, trivial⟩) (List.Perm.refl _) q
      · refine ⟨_, rfl, ?_⟩
        refine j_op0 rfl rfl rfl rfl ?_
        refine j_nil ⟨rfl, ?_⟩
        have q := D1_3_4
        rw [hP] at q
        exact ja_weak (by exact ⟨rfl, rfl, rfl, rfl, rfl, rfl, rfl, rfl, rfl, rfl, trivial⟩) (List.Perm.refl _) q
    have D0_1 : P [true, true, false, false, false, false, false, false, false, false, false, false, false] [(218, .agg [.int (f.yes + 1), .os ob css.length cap]), (219, .os oc (iotaI f.vars.toNat).length cc), (2, .op (some r2) 0), (3, .op (some r3) 0), (10, .int f.phase), (11, .int f.pend), (12, .int f.round), (14, .ip [.int (f.yes + 1), .os ob css.length cap]), (28, .os oc (iotaI f.vars.toNat).length cc)] ((⟨oc, 2, cc * 1, ((iotaI f.vars.toNat).map encI).flatten⟩ : Blk) :: (⟨some r3, 86, 2, [.os none 0 0, .os none 0 0]⟩ : Blk) :: (⟨some r2, 82, 2, [.int 0, .os none 0 0]⟩ : Blk) :: XX) := by
      rw [hP]
      refine ja_step (rs := [2, 3, 4]) (by kernel_rfl) (by simp) (fun i hi => ?_)
      simp only [List.mem_cons, List.not_mem_nil, or_false] at hi
      rcases hi with rfl | rfl | rfl
      · refine ⟨_, rfl, ?_⟩
        refine j_op0 rfl rfl rfl rfl ?_
        refine j_nil ⟨rfl, ?_⟩
        have q := D0_1_2
        rw [hP] at q
        exact ja_weak (by exact ⟨rfl, rfl, rfl, rfl, rfl, rfl, rfl, rfl, rfl, rfl, trivial⟩) (List.Perm.refl _) q
      · refine ⟨_, rfl, ?_⟩
        refine j_op0 rfl rfl rfl rfl ?_
        refine j_nil ⟨rfl, ?_⟩
        have q := D0_1_3
        rw [hP] at q
        exact ja_weak (by exact ⟨rfl, rfl, rfl, rfl, rfl, rfl, rfl, rfl, rfl, rfl, trivial⟩) (List.Perm.refl _) q
      · refine ⟨_, rfl, ?_⟩
        refine j_op0 rfl rfl rfl rfl ?_
        refine j_nil ⟨rfl, ?_⟩
        have q := D0_1_4
        rw [hP] at q
        exact ja_weak (by exact ⟨rfl, rfl, rfl, rfl, rfl, rfl, rfl, rfl, rfl, rfl, trivial⟩) (List.Perm.refl _) q
    have D1_2 : P [false, true, true, false, false, false, false, false, false, false, false, false, false] [(219, .os oc (iotaI f.vars.toNat).length cc), (220, .int f.phase), (2, .op (some r2) 0), (3, .op (some r3) 0), (10, .int f.phase), (11, .int f.pend), (12, .int f.round), (14, .ip [.int (f.yes + 1), .os ob css.length cap]), (28, .os oc (iotaI f.vars.toNat).length cc)] ((⟨oc, 2, cc * 1, ((iotaI f.vars.toNat).map encI).flatten⟩ : Blk) :: (⟨some r3, 86, 2, [.os none 0 0, .os none 0 0]⟩ : Blk) :: (⟨some r2, 82, 2, [.int 0, .os none 0 0]⟩ : Blk) :: XX) := by
      rw [hP]
      refine ja_step (rs := [0, 3, 4]) (by kernel_rfl) (by simp) (fun i hi => ?_)
      simp only [List.mem_cons, List.not_mem_nil, or_false] at hi
      rcases hi with rfl | rfl | rfl
      · refine ⟨_, rfl, ?_⟩
        refine j_op0 rfl rfl rfl rfl ?_
        refine j_nil ⟨rfl, ?_⟩
        have q := D0_1_2
        rw [hP] at q
        exact ja_weak (by exact ⟨rfl, rfl, rfl, rfl, rfl, rfl, rfl, rfl, rfl, rfl, trivial⟩) (List.Perm.refl _) q
      · refine ⟨_, rfl, ?_⟩
        refine j_op0 rfl rfl rfl rfl ?_
        refine j_nil ⟨rfl, ?_⟩
        have q := D1_2_3
        rw [hP] at q
        exact ja_weak (by exact ⟨rfl, rfl, rfl, rfl, rfl, rfl, rfl, rfl, rfl, rfl, trivial⟩) (List.Perm.refl _) q
      · refine ⟨_, rfl, ?_⟩
        refine j_op0 rfl rfl rfl rfl ?_
        refine j_nil ⟨rfl, ?_⟩
        have q := D1_2_4
        rw [hP] at q
        exact ja_weak (by exact ⟨rfl, rfl, rfl, rfl, rfl, rfl, rfl, rfl, rfl, rfl, trivial⟩) (List.Perm.refl _) q
    have D1 : P [false, true, false, false, false, false, false, false, false, false, false, false, false] [(219, .os oc (iotaI f.vars.toNat).length cc), (2, .op (some r2) 0), (3, .op (some r3) 0), (10, .int f.phase), (11, .int f.pend), (12, .int f.round), (14, .ip [.int (f.yes + 1), .os ob css.length cap]), (28, .os oc (iotaI f.vars.toNat).length cc)] ((⟨oc, 2, cc * 1, ((iotaI f.vars.toNat).map encI).flatten⟩ : Blk) :: (⟨some r3, 86, 2, [.os none 0 0, .os none 0 0]⟩ : Blk) :: (⟨some r2, 82, 2, [.int 0, .os none 0 0]⟩ : Blk) :: XX) := by
      rw [hP]
      refine ja_step (rs := [0, 2, 3, 4]) (by kernel_rfl) (by simp) (fun i hi => ?_)
      simp only [List.mem_cons, List.not_mem_nil, or_false] at hi
      rcases hi with rfl | rfl | rfl | rfl
      · refine ⟨_, rfl, ?_⟩
        refine j_op0 rfl rfl rfl rfl ?_
        refine j_nil ⟨rfl, ?_⟩
        have q := D0_1
        rw [hP] at q
        exact ja_weak (by exact ⟨rfl, rfl, rfl, rfl, rfl, rfl, rfl, rfl, rfl, trivial⟩) (List.Perm.refl _) q
      · refine ⟨_, rfl, ?_⟩
        refine j_op0 rfl rfl rfl rfl ?_
        refine j_nil ⟨rfl, ?_⟩
        have q := D1_2
        rw [hP] at q
        exact ja_weak (by exact ⟨rfl, rfl, rfl, rfl, rfl, rfl, rfl, rfl, rfl, trivial⟩) (List.Perm.refl _) q
      · refine ⟨_, rfl, ?_⟩
        refine j_op0 rfl rfl rfl rfl ?_
        refine j_nil ⟨rfl, ?_⟩
        have q := D1_3
        rw [hP] at q
        exact ja_weak (by exact ⟨rfl, rfl, rfl, rfl, rfl, rfl, rfl, rfl, rfl, trivial⟩) (List.Perm.refl _) q
      · refine ⟨_, rfl, ?_⟩
        refine j_op0 rfl rfl rfl rfl ?_
        refine j_nil ⟨rfl, ?_⟩
        have q := D1_4
        rw [hP] at q
        exact ja_weak (by exact ⟨rfl, rfl, rfl, rfl, rfl, rfl, rfl, rfl, rfl, trivial⟩) (List.Perm.refl _) q
    have D4 : P [false, false, false, false, true, false, false, false, false, false, false, false, false] [(222, .int f.round), (2, .op (some r2) 0), (3, .op (some r3) 0), (10, .int f.phase), (11, .int f.pend), (12, .int f.round), (14, .ip [.int (f.yes + 1), .os ob css.length cap]), (28, .os oc (iotaI f.vars.toNat).length cc)] ((⟨oc, 2, cc * 1, ((iotaI f.vars.toNat).map encI).flatten⟩ : Blk) :: (⟨some r3, 86, 2, [.os none 0 0, .os none 0 0]⟩ : Blk) :: (⟨some r2, 82, 2, [.int 0, .os none 0 0]⟩ : Blk) :: XX) := by
      rw [hP]
      refine ja_step (rs := [0, 1, 2, 3]) (by kernel_rfl) (by simp) (fun i hi => ?_)
      simp only [List.mem_cons, List.not_mem_nil, or_false] at hi
      rcases hi with rfl | rfl | rfl | rfl
      · refine ⟨_, rfl, ?_⟩
        refine j_op0 rfl rfl rfl rfl ?_
        refine j_nil ⟨rfl, ?_⟩
        have q := D0_4
        rw [hP] at q
        exact ja_weak (by exact ⟨rfl, rfl, rfl, rfl, rfl, rfl, rfl, rfl, rfl, trivial⟩) (List.Perm.refl _) q
      · refine ⟨_, rfl, ?_⟩
        refine j_op0 rfl rfl rfl rfl ?_
        refine j_nil ⟨rfl, ?_⟩
        have q := D1_4
        rw [hP] at q
        exact ja_weak (by exact ⟨rfl, rfl, rfl, rfl, rfl, rfl, rfl, rfl, rfl, trivial⟩) (List.Perm.refl _) q
      · refine ⟨_, rfl, ?_⟩
        refine j_op0 rfl rfl rfl rfl ?_
        refine j_nil ⟨rfl, ?_⟩
        have q := D2_4
        rw [hP] at q
        exact ja_weak (by exact ⟨rfl, rfl, rfl, rfl, rfl, rfl, rfl, rfl, rfl, trivial⟩) (List.Perm.refl _) q
      · refine ⟨_, rfl, ?_⟩
        refine j_op0 rfl rfl rfl rfl ?_
        refine j_nil ⟨rfl, ?_⟩
        have q := D3_4
        rw [hP] at q
        exact ja_weak (by exact ⟨rfl, rfl, rfl, rfl, rfl, rfl, rfl, rfl, rfl, trivial⟩) (List.Perm.refl _) q
    have D2 : P [false, false, true, false, false, false, false, false, false, false, false, false, false] [(220, .int f.phase), (2, .op (some r2) 0), (3, .op (some r3) 0), (10, .int f.phase), (11, .int f.pend), (12, .int f.round), (14, .ip [.int (f.yes + 1), .os ob css.length cap]), (28, .os oc (iotaI f.vars.toNat).length cc)] ((⟨oc, 2, cc * 1, ((iotaI f.vars.toNat).map encI).flatten⟩ : Blk) :: (⟨some r3, 86, 2, [.os none 0 0, .os none 0 0]⟩ : Blk) :: (⟨some r2, 82, 2, [.int 0, .os none 0 0]⟩ : Blk) :: XX) := by
      rw [hP]
      refine ja_step (rs := [0, 1, 3, 4]) (by kernel_rfl) (by simp) (fun i hi => ?_)
      simp only [List.mem_cons, List.not_mem_nil, or_false] at hi
      rcases hi with rfl | rfl | rfl | rfl
      · refine ⟨_, rfl, ?_⟩
        refine j_op0 rfl rfl rfl rfl ?_
        refine j_nil ⟨rfl, ?_⟩
        have q := D0_2
        rw [hP] at q
        exact ja_weak (by exact ⟨rfl, rfl, rfl, rfl, rfl, rfl, rfl, rfl, rfl, trivial⟩) (List.Perm.refl _) q
      · refine ⟨_, rfl, ?_⟩
        refine j_op0 rfl rfl rfl rfl ?_
        refine j_nil ⟨rfl, ?_⟩
        have q := D1_2
        rw [hP] at q
        exact ja_weak (by exact ⟨rfl, rfl, rfl, rfl, rfl, rfl, rfl, rfl, rfl, trivial⟩) (List.Perm.refl _) q
      · refine ⟨_, rfl, ?_⟩
        refine j_op0 rfl rfl rfl rfl ?_
        refine j_nil ⟨rfl, ?_⟩
        have q := D2_3
        rw [hP] at q
        exact ja_weak (by exact ⟨rfl, rfl, rfl, rfl, rfl, rfl, rfl, rfl, rfl, trivial⟩) (List.Perm.refl _) q
      · refine ⟨_, rfl, ?_⟩
        refine j_op0 rfl rfl rfl rfl ?_
        refine j_nil ⟨rfl, ?_⟩
        have q := D2_4
        rw [hP] at q
        exact ja_weak (by exact ⟨rfl, rfl, rfl, rfl, rfl, rfl, rfl, rfl, rfl, trivial⟩) (List.Perm.refl _) q
    have D3 : P [false, false, false, true, false, false, false, false, false, false, false, false, false] [(221, .int f.pend), (2, .op (some r2) 0), (3, .op (some r3) 0), (10, .int f.phase), (11, .int f.pend), (12, .int f.round), (14, .ip [.int (f.yes + 1), .os ob css.length cap]), (28, .os oc (iotaI f.vars.toNat).length cc)] ((⟨oc, 2, cc * 1, ((iotaI f.vars.toNat).map encI).flatten⟩ : Blk) :: (⟨some r3, 86, 2, [.os none 0 0, .os none 0 0]⟩ : Blk) :: (⟨some r2, 82, 2, [.int 0, .os none 0 0]⟩ : Blk) :: XX) := by
      rw [hP]
      refine ja_step (rs := [0, 1, 2, 4]) (by kernel_rfl) (by simp) (fun i hi => ?_)
      simp only [List.mem_cons, List.not_mem_nil, or_false] at hi
      rcases hi with rfl | rfl | rfl | rfl
      · refine ⟨_, rfl, ?_⟩
        refine j_op0 rfl rfl rfl rfl ?_
        refine j_nil ⟨rfl, ?_⟩
        have q := D0_3
        rw [hP] at q
        exact ja_weak (by exact ⟨rfl, rfl, rfl, rfl, rfl, rfl, rfl, rfl, rfl, trivial⟩) (List.Perm.refl _) q
      · refine ⟨_, rfl, ?_⟩
        refine j_op0 rfl rfl rfl rfl ?_
        refine j_nil ⟨rfl, ?_⟩
        have q := D1_3
        rw [hP] at q
        exact ja_weak (by exact ⟨rfl, rfl, rfl, rfl, rfl, rfl, rfl, rfl, rfl, trivial⟩) (List.Perm.refl _) q
      · refine ⟨_, rfl, ?_⟩
        refine j_op0 rfl rfl rfl rfl ?_
        refine j_nil ⟨rfl, ?_⟩
        have q := D2_3
        rw [hP] at q
        exact ja_weak (by exact ⟨rfl, rfl, rfl, rfl, rfl, rfl, rfl, rfl, rfl, trivial⟩) (List.Perm.refl _) q
      · refine ⟨_, rfl, ?_⟩
        refine j_op0 rfl rfl rfl rfl ?_
        refine j_nil ⟨rfl, ?_⟩
        have q := D3_4
        rw [hP] at q
        exact ja_weak (by exact ⟨rfl, rfl, rfl, rfl, rfl, rfl, rfl, rfl, rfl, trivial⟩) (List.Perm.refl _) q
    have D0 : P [true, false, false, false, false, false, false, false, false, false, false, false, false] [(218, .agg [.int (f.yes + 1), .os ob css.length cap]), (2, .op (some r2) 0), (3, .op (some r3) 0), (10, .int f.phase), (11, .int f.pend), (12, .int f.round), (14, .ip [.int (f.yes + 1), .os ob css.length cap]), (28, .os oc (iotaI f.vars.toNat).length cc)] ((⟨oc, 2, cc * 1, ((iotaI f.vars.toNat).map encI).flatten⟩ : Blk) :: (⟨some r3, 86, 2, [.os none 0 0, .os none 0 0]⟩ : Blk) :: (⟨some r2, 82, 2, [.int 0, .os none 0 0]⟩ : Blk) :: XX) := by
      rw [hP]
      refine ja_step (rs := [1, 2, 3, 4]) (by kernel_rfl) (by simp) (fun i hi => ?_)
      simp only [List.mem_cons, List.not_mem_nil, or_false] at hi
      rcases hi with rfl | rfl | rfl | rfl
      · refine ⟨_, rfl, ?_⟩
        refine j_op0 rfl rfl rfl rfl ?_
        refine j_nil ⟨rfl, ?_⟩
        have q := D0_1
        rw [hP] at q
        exact ja_weak (by exact ⟨rfl, rfl, rfl, rfl, rfl, rfl, rfl, rfl, rfl, trivial⟩) (List.Perm.refl _) q
      · refine ⟨_, rfl, ?_⟩
        refine j_op0 rfl rfl rfl rfl ?_
        refine j_nil ⟨rfl, ?_⟩
        have q := D0_2
        rw [hP] at q
        exact ja_weak (by exact ⟨rfl, rfl, rfl, rfl, rfl, rfl, rfl, rfl, rfl, trivial⟩) (List.Perm.refl _) q
      · refine ⟨_, rfl, ?_⟩
        refine j_op0 rfl rfl rfl rfl ?_
        refine j_nil ⟨rfl, ?_⟩
        have q := D0_3
        rw [hP] at q
        exact ja_weak (by exact ⟨rfl, rfl, rfl, rfl, rfl, rfl, rfl, rfl, rfl, trivial⟩) (List.Perm.refl _) q
      · refine ⟨_, rfl, ?_⟩
        refine j_op0 rfl rfl rfl rfl ?_
        refine j_nil ⟨rfl, ?_⟩
        have q := D0_4
        rw [hP] at q
        exact ja_weak (by exact ⟨rfl, rfl, rfl, rfl, rfl, rfl, rfl, rfl, rfl, trivial⟩) (List.Perm.refl _) q
    have D : P [false, false, false, false, false, false, false, false, false, false, false, false, false] [(2, .op (some r2) 0), (3, .op (some r3) 0), (10, .int f.phase), (11, .int f.pend), (12, .int f.round), (14, .ip [.int (f.yes + 1), .os ob css.length cap]), (28, .os oc (iotaI f.vars.toNat).length cc)] ((⟨oc, 2, cc * 1, ((iotaI f.vars.toNat).map encI).flatten⟩ : Blk) :: (⟨some r3, 86, 2, [.os none 0 0, .os none 0 0]⟩ : Blk) :: (⟨some r2, 82, 2, [.int 0, .os none 0 0]⟩ : Blk) :: XX) := by
      rw [hP]
      refine ja_step (rs := [0, 1, 2, 3, 4]) (by kernel_rfl) (by simp) (fun i hi => ?_)
      simp only [List.mem_cons, List.not_mem_nil, or_false] at hi
      rcases hi with rfl | rfl | rfl | rfl | rfl
      · refine ⟨_, rfl, ?_⟩
        refine j_op0 rfl rfl rfl rfl ?_
        refine j_nil ⟨rfl, ?_⟩
        have q := D0
        rw [hP] at q
        exact ja_weak (by exact ⟨rfl, rfl, rfl, rfl, rfl, rfl, rfl, rfl, trivial⟩) (List.Perm.refl _) q
      · refine ⟨_, rfl, ?_⟩
        refine j_op0 rfl rfl rfl rfl ?_
        refine j_nil ⟨rfl, ?_⟩
        have q := D1
        rw [hP] at q
        exact ja_weak (by exact ⟨rfl, rfl, rfl, rfl, rfl, rfl, rfl, rfl, trivial⟩) (List.Perm.refl _) q
      · refine ⟨_, rfl, ?_⟩
        refine j_op0 rfl rfl rfl rfl ?_
        refine j_nil ⟨rfl, ?_⟩
        have q := D2
        rw [hP] at q
        exact ja_weak (by exact ⟨rfl, rfl, rfl, rfl, rfl, rfl, rfl, rfl, trivial⟩) (List.Perm.refl _) q
      · refine ⟨_, rfl, ?_⟩
        refine j_op0 rfl rfl rfl rfl ?_
        refine j_nil ⟨rfl, ?_⟩
        have q := D3
        rw [hP] at q
        exact ja_weak (by exact ⟨rfl, rfl, rfl, rfl, rfl, rfl, rfl, rfl, trivial⟩) (List.Perm.refl _) q
      · refine ⟨_, rfl, ?_⟩
        refine j_op0 rfl rfl rfl rfl ?_
        refine j_nil ⟨rfl, ?_⟩
        have q := D4
        rw [hP] at q
        exact ja_weak (by exact ⟨rfl, rfl, rfl, rfl, rfl, rfl, rfl, rfl, trivial⟩) (List.Perm.refl _) q
    exact D
  case neg =>
    repeat' (first
      | (refine j_go ?_; first
        | refine j_op0 rfl rfl rfl rfl ?_)
      | refine j_nil ?_
      | (refine r_go ?_; first | refine run_seq ?_ | refine run_region ?_ | (refine (run_if rfl (fun hb => ?_) (fun hb => ?_)) <;> first | (exfalso; omega) | skip) | refine run_skip ?_)
      | refine seqQ_normal ?_)
    have kd7 : DB d (f.yes + 1) f.l7 hD6 := by rw [l7_f hm]; exact kd6
    have il7 := l7_len f
    refine j_bslM rfl rfl rfl rfl rfl rfl rfl rfl rfl rfl rfl (fun b0 => ?_)
    repeat' (first
      | (refine j_go ?_; first
        | refine j_build rfl rfl rfl rfl rfl rfl rfl ?_))
    refine j_kCall rfl rfl rfl rfl ?_
    refine jcp (⟨some r3, 86, 2, [.os none 0 0, .os none 0 0]⟩ :: ⟨some r2, 82, 2, [.int 0, .os none 0 0]⟩ :: F) (o_add d _ (f.l7) (by omega) (f.x8) _ hD6 [⟨some b0, 2, 1 * 1, _⟩] kd7 ⟨_, _, (.inl ⟨some b0, 1, rfl, rfl⟩ : ROI _ _ _), _, _, (.inr ⟨rfl, rfl, rfl⟩ : ROI _ (.sl []) []), rfl, rfl⟩) (perm_in1) (LeL.cons (Le.agg (LeL.cons (Le.refl _) (LeL.cons (Le.refl _) (LeL.cons (Le.refl _) (LeL.cons (Le.refl _) (LeL.cons (Le.refl _) (LeL.cons (Le.refl _) (LeL.cons (Le.nil 0) LeL.nil)))))))) (LeL.refl _)) rfl rfl (fun v hD8 kd8 => ?_)
    rw [show f.l7 ++ [f.x8] = f.l8 from rfl] at kd8
    repeat' (first
      | (refine j_go ?_; first
        | refine j_op0 rfl rfl rfl rfl ?_)
      | refine j_nil ?_
      | (refine r_go ?_; first | refine run_seq ?_ | refine run_region ?_ | refine run_block ?_)
      | refine seqQ_normal ?_)
    refine run_loop (fun x : Nat × Heap => [(2, .op (some r2) 0), (3, .op (some r3) 0), (5, .int f.vars), (6, .int f.clauses.length), (9, .int f.mark), (10, .int f.phase), (11, .int f.pend), (12, .int f.round), (14, .op (some d) 0), (15, .fn 134 [.op (some d) 0]), (170, .int f.clauses.length), (171, .int (x.1 : Int))]) (fun x => x.2 ++ (⟨some r3, 86, 2, [.os none 0 0, .os none 0 0]⟩ :: ⟨some r2, 82, 2, [.int 0, .os none 0 0]⟩ :: F))
      (fun x => x.1 ≤ f.clauses.length ∧ DB d (f.yes + 1) (f.l9 x.1) x.2) (fun x => f.clauses.length - x.1) (0, hD8) ⟨rfl, rfl, rfl, rfl, rfl, rfl, rfl, rfl, rfl, rfl, rfl, rfl, trivial⟩ rfl ⟨Nat.zero_le _, by dsimp only; rw [l9_zero]; exact kd8⟩ (fun ⟨k, hD⟩ ⟨kl, kd⟩ => ?_)
    dsimp only at kl kd ⊢
    have il := l9_len f k
    by_cases hk : k < f.clauses.length
    case pos =>
      exfalso; omega
    have hke : k = f.clauses.length := by omega
    subst hke
    repeat' (first
      | (refine j_go ?_; first
        | refine j_op0 rfl rfl rfl rfl ?_)
      | refine j_nil ?_
      | (refine r_go ?_; first | refine run_seq ?_ | refine run_region ?_ | (refine (run_if rfl (fun hb => ?_) (fun hb => ?_)) <;> first | (exfalso; omega) | skip) | refine run_block ?_ | refine run_exit ?_)
      | refine seqQ_normal ?_ | refine seqQ_exit ?_ | refine blockQ_eq ?_ | refine loopQ_exit ?_)
    refine run_loop (fun x : Nat × Heap => [(2, .op (some r2) 0), (3, .op (some r3) 0), (5, .int f.vars), (10, .int f.phase), (11, .int f.pend), (12, .int f.round), (14, .op (some d) 0), (15, .fn 134 [.op (some d) 0]), (192, .int f.clauses.length), (193, .int (x.1 : Int))]) (fun x => x.2 ++ (⟨some r3, 86, 2, [.os none 0 0, .os none 0 0]⟩ :: ⟨some r2, 82, 2, [.int 0, .os none 0 0]⟩ :: F))
      (fun x => x.1 ≤ f.clauses.length ∧ DB d (f.yes + 1) (f.l10 x.1) x.2) (fun x => f.clauses.length - x.1) (0, hD) ⟨rfl, rfl, rfl, rfl, rfl, rfl, rfl, rfl, rfl, rfl, trivial⟩ rfl ⟨Nat.zero_le _, by dsimp only; rw [l10_zero]; exact kd⟩ (fun ⟨k, hD⟩ ⟨kl, kd⟩ => ?_)
    dsimp only at kl kd ⊢
    have il := l10_len f k
    by_cases hk : k < f.clauses.length
    case pos =>
      exfalso; omega
    have hke : k = f.clauses.length := by omega
    subst hke
    repeat' (first
      | (refine j_go ?_; first
        | refine j_op0 rfl rfl rfl rfl ?_ | (refine j_kBsl rfl ?_; first | refine j_bs0 rfl rfl rfl rfl rfl rfl ?_))
      | refine j_nil ?_
      | (refine r_go ?_; first | refine run_seq ?_ | refine run_region ?_ | (refine (run_if rfl (fun hb => ?_) (fun hb => ?_)) <;> first | (exfalso; omega) | skip) | refine run_block ?_ | refine run_exit ?_)
      | refine seqQ_normal ?_ | refine seqQ_exit ?_ | refine blockQ_eq ?_ | refine loopQ_exit ?_)
    refine run_view (view_none 2 0 rfl) ?_
    refine run_loop (fun x : Nat × Option Nat × Nat => [(2, .op (some r2) 0), (3, .op (some r3) 0), (10, .int f.phase), (11, .int f.pend), (12, .int f.round), (14, .op (some d) 0), (209, .int f.vars), (28, .os x.2.1 (iotaI x.1).length x.2.2), (210, .int (x.1 : Int))]) (fun x => ⟨x.2.1, 2, x.2.2 * 1, ((iotaI x.1).map encI).flatten⟩ :: (hD ++ (⟨some r3, 86, 2, [.os none 0 0, .os none 0 0]⟩ :: ⟨some r2, 82, 2, [.int 0, .os none 0 0]⟩ :: F)))
      (fun x => x.1 ≤ f.vars.toNat) (fun x => f.vars.toNat - x.1) (0, none, 0) ⟨rfl, rfl, rfl, rfl, rfl, rfl, rfl, rfl, rfl, trivial⟩ rfl (Nat.zero_le _) (fun ⟨k, oc, cc⟩ kl => ?_)
    dsimp only at kl ⊢
    have il := iotaI_len (k := k)
    by_cases hk : k < f.vars.toNat
    case pos =>
      repeat' (first
      | (refine j_go ?_; first
        | refine j_op0 rfl rfl rfl rfl ?_ | (refine j_kBsl rfl ?_; first | refine j_bsl rfl rfl rfl rfl rfl rfl rfl rfl rfl rfl rfl ?_))
      | refine j_nil ?_
      | (refine r_go ?_; first | refine run_seq ?_ | refine run_region ?_ | (refine (run_if rfl (fun hb => ?_) (fun hb => ?_)) <;> first | (exfalso; omega) | skip) | refine run_block ?_ | refine run_skip ?_)
      | refine seqQ_normal ?_)
      refine j_append 0 (g := encI) (ys := iotaI k) [(k : Int)] rfl rfl rfl rfl rfl rfl rfl rfl rfl rfl rfl rfl (fun _ => rfl) (fun _ _ => rfl) ⟨by simp only [List.length_cons, List.length_nil]; omega, by simp only [List.length_cons, List.length_nil]; omega⟩ rfl rfl (fun b' cap' => ?_)
      rw [iotaI_succ]
      repeat' (first
      | (refine j_go ?_; first
        | refine j_op0 rfl rfl rfl rfl ?_ | (refine j_kBin rfl ?_; first | refine j_in rfl rfl ⟨by omega, by omega⟩ rfl rfl ?_))
      | refine j_nil ?_
      | (refine r_go ?_; first | refine run_region ?_)
      | refine seqQ_normal ?_ | refine blockQ_normal ?_)
      exact loopQ_next (k + 1, b', cap') (by dsimp only; omega) (by dsimp only; omega) rfl ⟨rfl, rfl, rfl, rfl, rfl, rfl, rfl, rfl, nx _, trivial⟩
    have hke : k = f.vars.toNat := by omega
    subst hke
    obtain ⟨ob, cap, css, hs, R, rfl⟩ := kd
    refine run_view (view_freezeP 2 14 rfl rfl) ?_
    repeat' (first
      | (refine j_go ?_; first
        | refine j_op0 rfl rfl rfl rfl ?_)
      | refine j_nil ?_
      | (refine r_go ?_; first | refine run_seq ?_ | refine run_region ?_ | (refine (run_if rfl (fun hb => ?_) (fun hb => ?_)) <;> first | (exfalso; omega) | skip) | refine run_exit ?_)
      | refine seqQ_normal ?_ | refine seqQ_exit ?_ | refine blockQ_eq ?_ | refine loopQ_exit ?_)
    generalize hXX : (⟨ob, 191, cap * 7, (css.map Subtype.val).flatten⟩ : Blk) :: (hs.flatten ++ F) = XX
    refine run_regionA ?_
    refine ja_weak (e' := [(2, .op (some r2) 0), (3, .op (some r3) 0), (10, .int f.phase), (11, .int f.pend), (12, .int f.round), (14, .ip [.int (f.yes + 1), .os ob css.length cap]), (28, .os oc (iotaI f.vars.toNat).length cc)]) (h' := (⟨oc, 2, cc * 1, ((iotaI f.vars.toNat).map encI).flatten⟩ : Blk) :: (⟨some r3, 86, 2, [.os none 0 0, .os none 0 0]⟩ : Blk) :: (⟨some r2, 82, 2, [.int 0, .os none 0 0]⟩ : Blk) :: XX) ⟨rfl, rfl, rfl, rfl, rfl, rfl, rfl, trivial⟩ ?_ ?_
    · rw [← hXX]
      change List.Perm (_ :: _ :: (hs.flatten ++ (_ :: _ :: F))) _
      classical exact List.perm_iff_count.2 fun _ => by simp only [List.count_cons, List.count_append]; omega
    refine ja_pred2 (fun P R9 hP hR => ?_)
    have fin : ∀ (b6 : Option Nat) (c6 : Nat) (b8 : Nat), R9 .normal [(218, .agg [.int (f.yes + 1), .os ob css.length cap]), (219, .os oc (iotaI f.vars.toNat).length cc), (220, .int f.phase), (221, .int f.pend), (222, .int f.round), (223, .sl ([f.phase, f.pend, f.round].map encI)), (224, .os b6 f.conts.length c6), (225, .agg [.int 0, .os b6 f.conts.length c6, .int 1]), (226, .os (some b8) 1 1), (227, .agg [.os none 0 0, .os (some b8) 1 1]), (4, .int 0), (2, .op (some r2) 0), (3, .op (some r3) 0), (10, .int f.phase), (11, .int f.pend), (12, .int f.round), (14, .ip [.int (f.yes + 1), .os ob css.length cap]), (28, .os oc (iotaI f.vars.toNat).length cc)] ((⟨some b8, 195, 1 * 3, [.int 0, .os b6 f.conts.length c6, .int 1]⟩ : Blk) :: (⟨b6, 2, c6 * 1, (f.conts.map encI).flatten⟩ : Blk) :: (⟨some r3, 86, 2, [.os none 0 0, .os (some b8) 1 1]⟩ : Blk) :: (⟨some r2, 82, 2, [.int (f.yes + 1), .os ob css.length cap]⟩ : Blk) :: XX) := by
      intro b6 c6 b8
      rw [hR]
      refine seqQ_normal ?_
      repeat' (first
      | (refine r_go ?_; first | refine run_ret ?_))
      refine endD_view (view_freezeP 3 2 rfl rfl) ?_
      refine endD_view (view_freezeP 2 3 rfl rfl) ?_
      refine endD_view (view_perm (h' := (((⟨ob, 191, cap * 7, (css.map Subtype.val).flatten⟩ : Blk) :: hs.flatten) ++ ([] ++ ((⟨some b8, 195, 1 * 3, ([(⟨[.int 0, .os b6 f.conts.length c6, .int 1], rfl⟩ : Cells 3)].map Subtype.val).flatten⟩ : Blk) :: [[(⟨b6, 2, c6 * 1, (f.conts.map encI).flatten⟩ : Blk)]].flatten))) ++ F) (by
        rw [← hXX]
        exact perm_fin)) ?_
      exact endD_ret rfl (.cons (.cellI rfl rfl) (.cons (.cellI rfl rfl) (.cons (.tmp rfl) .nil))) (Le.tup (LeL.cons (Le.refl _) (LeL.cons (Le.agg (LeL.cons (Le.nil 0) (LeL.cons (Le.refl _) LeL.nil))) (LeL.cons (Le.refl _) LeL.nil)))) ⟨_, _, _, _, rfl, ⟨.os ob css.length cap, .inl ⟨ob, cap, css, hs, R.l1, R.l2, R.all, by rw [R.l1]; rfl, rfl⟩, rfl⟩,
        ⟨.sl [], [], .inr ⟨rfl, rfl, rfl⟩, .os (some b8) 1 1, _, .inl ⟨some b8, 1, [(⟨[.int 0, .os b6 f.conts.length c6, .int 1], rfl⟩ : Cells 3)], [[_]], rfl, rfl, fun i h0 h1 h2 => by
          have : i = 0 := by simp at h1; omega
          subst this
          exact ⟨.os b6 f.conts.length c6, .inl ⟨b6, c6, rfl, rfl⟩, rfl⟩, rfl, rfl⟩, rfl, rfl⟩, rfl⟩ (.inl rfl)
    have D0_1_2_3_4_5_6_7_8_9_10_11_12 : ∀ (b6 : Option Nat) (c6 : Nat) (b8 : Nat), P [true, true, true, true, true, true, true, true, true, true, true, true, true] [(218, .agg [.int (f.yes + 1), .os ob css.length cap]), (219, .os oc (iotaI f.vars.toNat).length cc), (220, .int f.phase), (221, .int f.pend), (222, .int f.round), (223, .sl ([f.phase, f.pend, f.round].map encI)), (224, .os b6 f.conts.length c6), (225, .agg [.int 0, .os b6 f.conts.length c6, .int 1]), (226, .os (some b8) 1 1), (227, .agg [.os none 0 0, .os (some b8) 1 1]), (4, .int 0), (2, .op (some r2) 0), (3, .op (some r3) 0), (10, .int f.phase), (11, .int f.pend), (12, .int f.round), (14, .ip [.int (f.yes + 1), .os ob css.length cap]), (28, .os oc (iotaI f.vars.toNat).length cc)] ((⟨some b8, 195, 1 * 3, [.int 0, .os b6 f.conts.length c6, .int 1]⟩ : Blk) :: (⟨b6, 2, c6 * 1, (f.conts.map encI).flatten⟩ : Blk) :: (⟨some r3, 86, 2, [.os none 0 0, .os (some b8) 1 1]⟩ : Blk) :: (⟨some r2, 82, 2, [.int (f.yes + 1), .os ob css.length cap]⟩ : Blk) :: XX) := by
      intro b6 c6 b8
      rw [hP]
      refine ja_done (by kernel_rfl) ?_
      have q := fin b6 c6 b8
      rw [hR] at q
      exact q
    have D0_1_2_3_4_5_6_7_8_9_10_11 : ∀ (b6 : Option Nat) (c6 : Nat) (b8 : Nat), P [true, true, true, true, true, true, true, true, true, true, true, true, false] [(218, .agg [.int (f.yes + 1), .os ob css.length cap]), (219, .os oc (iotaI f.vars.toNat).length cc), (220, .int f.phase), (221, .int f.pend), (222, .int f.round), (223, .sl ([f.phase, f.pend, f.round].map encI)), (224, .os b6 f.conts.length c6), (225, .agg [.int 0, .os b6 f.conts.length c6, .int 1]), (226, .os (some b8) 1 1), (227, .agg [.os none 0 0, .os (some b8) 1 1]), (2, .op (some r2) 0), (3, .op (some r3) 0), (10, .int f.phase), (11, .int f.pend), (12, .int f.round), (14, .ip [.int (f.yes + 1), .os ob css.length cap]), (28, .os oc (iotaI f.vars.toNat).length cc)] ((⟨some b8, 195, 1 * 3, [.int 0, .os b6 f.conts.length c6, .int 1]⟩ : Blk) :: (⟨b6, 2, c6 * 1, (f.conts.map encI).flatten⟩ : Blk) :: (⟨some r3, 86, 2, [.os none 0 0, .os (some b8) 1 1]⟩ : Blk) :: (⟨some r2, 82, 2, [.int (f.yes + 1), .os ob css.length cap]⟩ : Blk) :: XX) := by
      intro b6 c6 b8
      rw [hP]
      refine ja_step (rs := [12]) (by kernel_rfl) (by simp) (fun i hi => ?_)
      simp only [List.mem_cons, List.not_mem_nil, or_false] at hi
      rcases hi with rfl
      · refine ⟨_, rfl, ?_⟩
        refine j_op0 rfl rfl rfl rfl ?_
        refine j_nil ⟨rfl, ?_⟩
        have q := D0_1_2_3_4_5_6_7_8_9_10_11_12 b6 c6 b8
        rw [hP] at q
        exact ja_weak (by exact ⟨rfl, rfl, rfl, rfl, rfl, rfl, rfl, rfl, rfl, rfl, rfl, rfl, rfl, rfl, rfl, rfl, rfl, rfl, trivial⟩) (List.Perm.refl _) q
    have D0_1_2_3_4_5_6_7_8_9_10 : ∀ (b6 : Option Nat) (c6 : Nat) (b8 : Nat), P [true, true, true, true, true, true, true, true, true, true, true, false, false] [(218, .agg [.int (f.yes + 1), .os ob css.length cap]), (219, .os oc (iotaI f.vars.toNat).length cc), (220, .int f.phase), (221, .int f.pend), (222, .int f.round), (223, .sl ([f.phase, f.pend, f.round].map encI)), (224, .os b6 f.conts.length c6), (225, .agg [.int 0, .os b6 f.conts.length c6, .int 1]), (226, .os (some b8) 1 1), (227, .agg [.os none 0 0, .os (some b8) 1 1]), (2, .op (some r2) 0), (3, .op (some r3) 0), (10, .int f.phase), (11, .int f.pend), (12, .int f.round), (14, .ip [.int (f.yes + 1), .os ob css.length cap]), (28, .os oc (iotaI f.vars.toNat).length cc)] ((⟨some b8, 195, 1 * 3, [.int 0, .os b6 f.conts.length c6, .int 1]⟩ : Blk) :: (⟨b6, 2, c6 * 1, (f.conts.map encI).flatten⟩ : Blk) :: (⟨some r3, 86, 2, [.os none 0 0, .os none 0 0]⟩ : Blk) :: (⟨some r2, 82, 2, [.int (f.yes + 1), .os ob css.length cap]⟩ : Blk) :: XX) := by
      intro b6 c6 b8
      rw [hP]
      refine ja_step (rs := [11]) (by kernel_rfl) (by simp) (fun i hi => ?_)
      simp only [List.mem_cons, List.not_mem_nil, or_false] at hi
      rcases hi with rfl
      · refine ⟨_, rfl, ?_⟩
        refine j_storeN 2 rfl rfl rfl rfl rfl rfl rfl rfl rfl rfl rfl ?_
        refine j_nil ⟨rfl, ?_⟩
        have q := D0_1_2_3_4_5_6_7_8_9_10_11 b6 c6 b8
        rw [hP] at q
        exact ja_weak (by exact ⟨rfl, rfl, rfl, rfl, rfl, rfl, rfl, rfl, rfl, rfl, rfl, rfl, rfl, rfl, rfl, rfl, rfl, trivial⟩) (List.Perm.refl _) q
    have D0_1_2_3_4_5_6_7_8_10 : ∀ (b6 : Option Nat) (c6 : Nat) (b8 : Nat), P [true, true, true, true, true, true, true, true, true, false, true, false, false] [(218, .agg [.int (f.yes + 1), .os ob css.length cap]), (219, .os oc (iotaI f.vars.toNat).length cc), (220, .int f.phase), (221, .int f.pend), (222, .int f.round), (223, .sl ([f.phase, f.pend, f.round].map encI)), (224, .os b6 f.conts.length c6), (225, .agg [.int 0, .os b6 f.conts.length c6, .int 1]), (226, .os (some b8) 1 1), (2, .op (some r2) 0), (3, .op (some r3) 0), (10, .int f.phase), (11, .int f.pend), (12, .int f.round), (14, .ip [.int (f.yes + 1), .os ob css.length cap]), (28, .os oc (iotaI f.vars.toNat).length cc)] ((⟨some b8, 195, 1 * 3, [.int 0, .os b6 f.conts.length c6, .int 1]⟩ : Blk) :: (⟨b6, 2, c6 * 1, (f.conts.map encI).flatten⟩ : Blk) :: (⟨some r3, 86, 2, [.os none 0 0, .os none 0 0]⟩ : Blk) :: (⟨some r2, 82, 2, [.int (f.yes + 1), .os ob css.length cap]⟩ : Blk) :: XX) := by
      intro b6 c6 b8
      rw [hP]
      refine ja_step (rs := [9]) (by kernel_rfl) (by simp) (fun i hi => ?_)
      simp only [List.mem_cons, List.not_mem_nil, or_false] at hi
      rcases hi with rfl
      · refine ⟨_, rfl, ?_⟩
        first | refine j_op0 rfl rfl rfl rfl ?_ | refine j_build rfl rfl rfl rfl rfl rfl rfl ?_
        refine j_nil ⟨rfl, ?_⟩
        have q := D0_1_2_3_4_5_6_7_8_9_10 b6 c6 b8
        rw [hP] at q
        exact ja_weak (by exact ⟨rfl, rfl, rfl, rfl, rfl, rfl, rfl, rfl, rfl, rfl, rfl, rfl, rfl, rfl, rfl, rfl, rfl, trivial⟩) (List.Perm.refl _) q
    have D0_1_2_3_4_5_6_7_8_9 : ∀ (b6 : Option Nat) (c6 : Nat) (b8 : Nat), P [true, true, true, true, true, true, true, true, true, true, false, false, false] [(218, .agg [.int (f.yes + 1), .os ob css.length cap]), (219, .os oc (iotaI f.vars.toNat).length cc), (220, .int f.phase), (221, .int f.pend), (222, .int f.round), (223, .sl ([f.phase, f.pend, f.round].map encI)), (224, .os b6 f.conts.length c6), (225, .agg [.int 0, .os b6 f.conts.length c6, .int 1]), (226, .os (some b8) 1 1), (227, .agg [.os none 0 0, .os (some b8) 1 1]), (2, .op (some r2) 0), (3, .op (some r3) 0), (10, .int f.phase), (11, .int f.pend), (12, .int f.round), (14, .ip [.int (f.yes + 1), .os ob css.length cap]), (28, .os oc (iotaI f.vars.toNat).length cc)] ((⟨some b8, 195, 1 * 3, [.int 0, .os b6 f.conts.length c6, .int 1]⟩ : Blk) :: (⟨b6, 2, c6 * 1, (f.conts.map encI).flatten⟩ : Blk) :: (⟨some r3, 86, 2, [.os none 0 0, .os none 0 0]⟩ : Blk) :: (⟨some r2, 82, 2, [.int 0, .os none 0 0]⟩ : Blk) :: XX) := by
      intro b6 c6 b8
      rw [hP]
      refine ja_step (rs := [10]) (by kernel_rfl) (by simp) (fun i hi => ?_)
      simp only [List.mem_cons, List.not_mem_nil, or_false] at hi
      rcases hi with rfl
      · refine ⟨_, rfl, ?_⟩
        refine j_storeN 3 rfl rfl rfl rfl rfl rfl rfl rfl rfl rfl rfl ?_
        refine j_nil ⟨rfl, ?_⟩
        have q := D0_1_2_3_4_5_6_7_8_9_10 b6 c6 b8
        rw [hP] at q
        exact ja_weak (by exact ⟨rfl, rfl, rfl, rfl, rfl, rfl, rfl, rfl, rfl, rfl, rfl, rfl, rfl, rfl, rfl, rfl, rfl, trivial⟩) (List.Perm.refl _) q
    have D0_1_2_3_4_5_6_7_8 : ∀ (b6 : Option Nat) (c6 : Nat) (b8 : Nat), P [true, true, true, true, true, true, true, true, true, false, false, false, false] [(218, .agg [.int (f.yes + 1), .os ob css.length cap]), (219, .os oc (iotaI f.vars.toNat).length cc), (220, .int f.phase), (221, .int f.pend), (222, .int f.round), (223, .sl ([f.phase, f.pend, f.round].map encI)), (224, .os b6 f.conts.length c6), (225, .agg [.int 0, .os b6 f.conts.length c6, .int 1]), (226, .os (some b8) 1 1), (2, .op (some r2) 0), (3, .op (some r3) 0), (10, .int f.phase), (11, .int f.pend), (12, .int f.round), (14, .ip [.int (f.yes + 1), .os ob css.length cap]), (28, .os oc (iotaI f.vars.toNat).length cc)] ((⟨some b8, 195, 1 * 3, [.int 0, .os b6 f.conts.length c6, .int 1]⟩ : Blk) :: (⟨b6, 2, c6 * 1, (f.conts.map encI).flatten⟩ : Blk) :: (⟨some r3, 86, 2, [.os none 0 0, .os none 0 0]⟩ : Blk) :: (⟨some r2, 82, 2, [.int 0, .os none 0 0]⟩ : Blk) :: XX) := by
      intro b6 c6 b8
      rw [hP]
      refine ja_step (rs := [9, 10]) (by kernel_rfl) (by simp) (fun i hi => ?_)
      simp only [List.mem_cons, List.not_mem_nil, or_false] at hi
      rcases hi with rfl | rfl
      · refine ⟨_, rfl, ?_⟩
        first | refine j_op0 rfl rfl rfl rfl ?_ | refine j_build rfl rfl rfl rfl rfl rfl rfl ?_
        refine j_nil ⟨rfl, ?_⟩
        have q := D0_1_2_3_4_5_6_7_8_9 b6 c6 b8
        rw [hP] at q
        exact ja_weak (by exact ⟨rfl, rfl, rfl, rfl, rfl, rfl, rfl, rfl, rfl, rfl, rfl, rfl, rfl, rfl, rfl, rfl, rfl, trivial⟩) (List.Perm.refl _) q
      · refine ⟨_, rfl, ?_⟩
        refine j_storeN 3 rfl rfl rfl rfl rfl rfl rfl rfl rfl rfl rfl ?_
        refine j_nil ⟨rfl, ?_⟩
        have q := D0_1_2_3_4_5_6_7_8_10 b6 c6 b8
        rw [hP] at q
        exact ja_weak (by exact ⟨rfl, rfl, rfl, rfl, rfl, rfl, rfl, rfl, rfl, rfl, rfl, rfl, rfl, rfl, rfl, rfl, trivial⟩) (List.Perm.refl _) q
    have D0_1_2_3_4_5_6_7_10 : ∀ (b6 : Option Nat) (c6 : Nat), P [true, true, true, true, true, true, true, true, false, false, true, false, false] [(218, .agg [.int (f.yes + 1), .os ob css.length cap]), (219, .os oc (iotaI f.vars.toNat).length cc), (220, .int f.phase), (221, .int f.pend), (222, .int f.round), (223, .sl ([f.phase, f.pend, f.round].map encI)), (224, .os b6 f.conts.length c6), (225, .agg [.int 0, .os b6 f.conts.length c6, .int 1]), (2, .op (some r2) 0), (3, .op (some r3) 0), (10, .int f.phase), (11, .int f.pend), (12, .int f.round), (14, .ip [.int (f.yes + 1), .os ob css.length cap]), (28, .os oc (iotaI f.vars.toNat).length cc)] ((⟨b6, 2, c6 * 1, (f.conts.map encI).flatten⟩ : Blk) :: (⟨some r3, 86, 2, [.os none 0 0, .os none 0 0]⟩ : Blk) :: (⟨some r2, 82, 2, [.int (f.yes + 1), .os ob css.length cap]⟩ : Blk) :: XX) := by
      intro b6 c6
      rw [hP]
      refine ja_step (rs := [8]) (by kernel_rfl) (by simp) (fun i hi => ?_)
      simp only [List.mem_cons, List.not_mem_nil, or_false] at hi
      rcases hi with rfl
      · refine ⟨_, rfl, ?_⟩
        refine j_bslM rfl rfl rfl rfl rfl rfl rfl rfl rfl rfl rfl (fun b8 => ?_)
        refine j_nil ⟨rfl, ?_⟩
        have q := D0_1_2_3_4_5_6_7_8_10 b6 c6 b8
        rw [hP] at q
        exact ja_weak (by exact ⟨rfl, rfl, rfl, rfl, rfl, rfl, rfl, rfl, rfl, rfl, rfl, rfl, rfl, rfl, rfl, rfl, trivial⟩) (List.Perm.refl _) q
    have D1_2_3_4_5_6_7_8_9 : ∀ (b6 : Option Nat) (c6 : Nat) (b8 : Nat), P [false, true, true, true, true, true, true, true, true, true, false, false, false] [(219, .os oc (iotaI f.vars.toNat).length cc), (220, .int f.phase), (221, .int f.pend), (222, .int f.round), (223, .sl ([f.phase, f.pend, f.round].map encI)), (224, .os b6 f.conts.length c6), (225, .agg [.int 0, .os b6 f.conts.length c6, .int 1]), (226, .os (some b8) 1 1), (227, .agg [.os none 0 0, .os (some b8) 1 1]), (2, .op (some r2) 0), (3, .op (some r3) 0), (10, .int f.phase), (11, .int f.pend), (12, .int f.round), (14, .ip [.int (f.yes + 1), .os ob css.length cap]), (28, .os oc (iotaI f.vars.toNat).length cc)] ((⟨some b8, 195, 1 * 3, [.int 0, .os b6 f.conts.length c6, .int 1]⟩ : Blk) :: (⟨b6, 2, c6 * 1, (f.conts.map encI).flatten⟩ : Blk) :: (⟨some r3, 86, 2, [.os none 0 0, .os none 0 0]⟩ : Blk) :: (⟨some r2, 82, 2, [.int 0, .os none 0 0]⟩ : Blk) :: XX) := by
      intro b6 c6 b8
      rw [hP]
      refine ja_step (rs := [0]) (by kernel_rfl) (by simp) (fun i hi => ?_)
      simp only [List.mem_cons, List.not_mem_nil, or_false] at hi
      rcases hi with rfl
      · refine ⟨_, rfl, ?_⟩
        refine j_op0 rfl rfl rfl rfl ?_
        refine j_nil ⟨rfl, ?_⟩
        have q := D0_1_2_3_4_5_6_7_8_9 b6 c6 b8
        rw [hP] at q
        exact ja_weak (by exact ⟨rfl, rfl, rfl, rfl, rfl, rfl, rfl, rfl, rfl, rfl, rfl, rfl, rfl, rfl, rfl, rfl, rfl, trivial⟩) (List.Perm.refl _) q
    have D1_2_3_4_5_6_7_8 : ∀ (b6 : Option Nat) (c6 : Nat) (b8 : Nat), P [false, true, true, true, true, true, true, true, true, false, false, false, false] [(219, .os oc (iotaI f.vars.toNat).length cc), (220, .int f.phase), (221, .int f.pend), (222, .int f.round), (223, .sl ([f.phase, f.pend, f.round].map encI)), (224, .os b6 f.conts.length c6), (225, .agg [.int 0, .os b6 f.conts.length c6, .int 1]), (226, .os (some b8) 1 1), (2, .op (some r2) 0), (3, .op (some r3) 0), (10, .int f.phase), (11, .int f.pend), (12, .int f.round), (14, .ip [.int (f.yes + 1), .os ob css.length cap]), (28, .os oc (iotaI f.vars.toNat).length cc)] ((⟨some b8, 195, 1 * 3, [.int 0, .os b6 f.conts.length c6, .int 1]⟩ : Blk) :: (⟨b6, 2, c6 * 1, (f.conts.map encI).flatten⟩ : Blk) :: (⟨some r3, 86, 2, [.os none 0 0, .os none 0 0]⟩ : Blk) :: (⟨some r2, 82, 2, [.int 0, .os none 0 0]⟩ : Blk) :: XX) := by
      intro b6 c6 b8
      rw [hP]
      refine ja_step (rs := [0, 9]) (by kernel_rfl) (by simp) (fun i hi => ?_)
      simp only [List.mem_cons, List.not_mem_nil, or_false] at hi
      rcases hi with rfl | rfl
      · refine ⟨_, rfl, ?_⟩
        refine j_op0 rfl rfl rfl rfl ?_
        refine j_nil ⟨rfl, ?_⟩
        have q := D0_1_2_3_4_5_6_7_8 b6 c6 b8
        rw [hP] at q
        exact ja_weak (by exact ⟨rfl, rfl, rfl, rfl, rfl, rfl, rfl, rfl, rfl, rfl, rfl, rfl, rfl, rfl, rfl, rfl, trivial⟩) (List.Perm.refl _) q
      · refine ⟨_, rfl, ?_⟩
        first | refine j_op0 rfl rfl rfl rfl ?_ | refine j_build rfl rfl rfl rfl rfl rfl rfl ?_
        refine j_nil ⟨rfl, ?_⟩
        have q := D1_2_3_4_5_6_7_8_9 b6 c6 b8
        rw [hP] at q
        exact ja_weak (by exact ⟨rfl, rfl, rfl, rfl, rfl, rfl, rfl, rfl, rfl, rfl, rfl, rfl, rfl, rfl, rfl, rfl, trivial⟩) (List.Perm.refl _) q
    have D0_1_2_3_4_5_6_10 : ∀ (b6 : Option Nat) (c6 : Nat), P [true, true, true, true, true, true, true, false, false, false, true, false, false] [(218, .agg [.int (f.yes + 1), .os ob css.length cap]), (219, .os oc (iotaI f.vars.toNat).length cc), (220, .int f.phase), (221, .int f.pend), (222, .int f.round), (223, .sl ([f.phase, f.pend, f.round].map encI)), (224, .os b6 f.conts.length c6), (2, .op (some r2) 0), (3, .op (some r3) 0), (10, .int f.phase), (11, .int f.pend), (12, .int f.round), (14, .ip [.int (f.yes + 1), .os ob css.length cap]), (28, .os oc (iotaI f.vars.toNat).length cc)] ((⟨b6, 2, c6 * 1, (f.conts.map encI).flatten⟩ : Blk) :: (⟨some r3, 86, 2, [.os none 0 0, .os none 0 0]⟩ : Blk) :: (⟨some r2, 82, 2, [.int (f.yes + 1), .os ob css.length cap]⟩ : Blk) :: XX) := by
      intro b6 c6
      rw [hP]
      refine ja_step (rs := [7]) (by kernel_rfl) (by simp) (fun i hi => ?_)
      simp only [List.mem_cons, List.not_mem_nil, or_false] at hi
      rcases hi with rfl
      · refine ⟨_, rfl, ?_⟩
        first | refine j_op0 rfl rfl rfl rfl ?_ | refine j_build rfl rfl rfl rfl rfl rfl rfl ?_
        refine j_nil ⟨rfl, ?_⟩
        have q := D0_1_2_3_4_5_6_7_10 b6 c6
        rw [hP] at q
        exact ja_weak (by exact ⟨rfl, rfl, rfl, rfl, rfl, rfl, rfl, rfl, rfl, rfl, rfl, rfl, rfl, rfl, rfl, trivial⟩) (List.Perm.refl _) q
    have D0_1_2_3_4_5_6_7 : ∀ (b6 : Option Nat) (c6 : Nat), P [true, true, true, true, true, true, true, true, false, false, false, false, false] [(218, .agg [.int (f.yes + 1), .os ob css.length cap]), (219, .os oc (iotaI f.vars.toNat).length cc), (220, .int f.phase), (221, .int f.pend), (222, .int f.round), (223, .sl ([f.phase, f.pend, f.round].map encI)), (224, .os b6 f.conts.length c6), (225, .agg [.int 0, .os b6 f.conts.length c6, .int 1]), (2, .op (some r2) 0), (3, .op (some r3) 0), (10, .int f.phase), (11, .int f.pend), (12, .int f.round), (14, .ip [.int (f.yes + 1), .os ob css.length cap]), (28, .os oc (iotaI f.vars.toNat).length cc)] ((⟨b6, 2, c6 * 1, (f.conts.map encI).flatten⟩ : Blk) :: (⟨some r3, 86, 2, [.os none 0 0, .os none 0 0]⟩ : Blk) :: (⟨some r2, 82, 2, [.int 0, .os none 0 0]⟩ : Blk) :: XX) := by
      intro b6 c6
      rw [hP]
      refine ja_step (rs := [8, 10]) (by kernel_rfl) (by simp) (fun i hi => ?_)
      simp only [List.mem_cons, List.not_mem_nil, or_false] at hi
      rcases hi with rfl | rfl
      · refine ⟨_, rfl, ?_⟩
        refine j_bslM rfl rfl rfl rfl rfl rfl rfl rfl rfl rfl rfl (fun b8 => ?_)
        refine j_nil ⟨rfl, ?_⟩
        have q := D0_1_2_3_4_5_6_7_8 b6 c6 b8
        rw [hP] at q
        exact ja_weak (by exact ⟨rfl, rfl, rfl, rfl, rfl, rfl, rfl, rfl, rfl, rfl, rfl, rfl, rfl, rfl, rfl, rfl, trivial⟩) (List.Perm.refl _) q
      · refine ⟨_, rfl, ?_⟩
        refine j_storeN 2 rfl rfl rfl rfl rfl rfl rfl rfl rfl rfl rfl ?_
        refine j_nil ⟨rfl, ?_⟩
        have q := D0_1_2_3_4_5_6_7_10 b6 c6
        rw [hP] at q
        exact ja_weak (by exact ⟨rfl, rfl, rfl, rfl, rfl, rfl, rfl, rfl, rfl, rfl, rfl, rfl, rfl, rfl, rfl, trivial⟩) (List.Perm.refl _) q
    have D1_2_3_4_5_6_7 : ∀ (b6 : Option Nat) (c6 : Nat), P [false, true, true, true, true, true, true, true, false, false, false, false, false] [(219, .os oc (iotaI f.vars.toNat).length cc), (220, .int f.phase), (221, .int f.pend), (222, .int f.round), (223, .sl ([f.phase, f.pend, f.round].map encI)), (224, .os b6 f.conts.length c6), (225, .agg [.int 0, .os b6 f.conts.length c6, .int 1]), (2, .op (some r2) 0), (3, .op (some r3) 0), (10, .int f.phase), (11, .int f.pend), (12, .int f.round), (14, .ip [.int (f.yes + 1), .os ob css.length cap]), (28, .os oc (iotaI f.vars.toNat).length cc)] ((⟨b6, 2, c6 * 1, (f.conts.map encI).flatten⟩ : Blk) :: (⟨some r3, 86, 2, [.os none 0 0, .os none 0 0]⟩ : Blk) :: (⟨some r2, 82, 2, [.int 0, .os none 0 0]⟩ : Blk) :: XX) := by
      intro b6 c6
      rw [hP]
      refine ja_step (rs := [0, 8]) (by kernel_rfl) (by simp) (fun i hi => ?_)
      simp only [List.mem_cons, List.not_mem_nil, or_false] at hi
      rcases hi with rfl | rfl
      · refine ⟨_, rfl, ?_⟩
        refine j_op0 rfl rfl rfl rfl ?_
        refine j_nil ⟨rfl, ?_⟩
        have q := D0_1_2_3_4_5_6_7 b6 c6
        rw [hP] at q
        exact ja_weak (by exact ⟨rfl, rfl, rfl, rfl, rfl, rfl, rfl, rfl, rfl, rfl, rfl, rfl, rfl, rfl, rfl, trivial⟩) (List.Perm.refl _) q
      · refine ⟨_, rfl, ?_⟩
        refine j_bslM rfl rfl rfl rfl rfl rfl rfl rfl rfl rfl rfl (fun b8 => ?_)
        refine j_nil ⟨rfl, ?_⟩
        have q := D1_2_3_4_5_6_7_8 b6 c6 b8
        rw [hP] at q
        exact ja_weak (by exact ⟨rfl, rfl, rfl, rfl, rfl, rfl, rfl, rfl, rfl, rfl, rfl, rfl, rfl, rfl, rfl, trivial⟩) (List.Perm.refl _) q
    have D0_1_2_3_4_5_6 : ∀ (b6 : Option Nat) (c6 : Nat), P [true, true, true, true, true, true, true, false, false, false, false, false, false] [(218, .agg [.int (f.yes + 1), .os ob css.length cap]), (219, .os oc (iotaI f.vars.toNat).length cc), (220, .int f.phase), (221, .int f.pend), (222, .int f.round), (223, .sl ([f.phase, f.pend, f.round].map encI)), (224, .os b6 f.conts.length c6), (2, .op (some r2) 0), (3, .op (some r3) 0), (10, .int f.phase), (11, .int f.pend), (12, .int f.round), (14, .ip [.int (f.yes + 1), .os ob css.length cap]), (28, .os oc (iotaI f.vars.toNat).length cc)] ((⟨b6, 2, c6 * 1, (f.conts.map encI).flatten⟩ : Blk) :: (⟨some r3, 86, 2, [.os none 0 0, .os none 0 0]⟩ : Blk) :: (⟨some r2, 82, 2, [.int 0, .os none 0 0]⟩ : Blk) :: XX) := by
      intro b6 c6
      rw [hP]
      refine ja_step (rs := [7, 10]) (by kernel_rfl) (by simp) (fun i hi => ?_)
      simp only [List.mem_cons, List.not_mem_nil, or_false] at hi
      rcases hi with rfl | rfl
      · refine ⟨_, rfl, ?_⟩
        first | refine j_op0 rfl rfl rfl rfl ?_ | refine j_build rfl rfl rfl rfl rfl rfl rfl ?_
        refine j_nil ⟨rfl, ?_⟩
        have q := D0_1_2_3_4_5_6_7 b6 c6
        rw [hP] at q
        exact ja_weak (by exact ⟨rfl, rfl, rfl, rfl, rfl, rfl, rfl, rfl, rfl, rfl, rfl, rfl, rfl, rfl, rfl, trivial⟩) (List.Perm.refl _) q
      · refine ⟨_, rfl, ?_⟩
        refine j_storeN 2 rfl rfl rfl rfl rfl rfl rfl rfl rfl rfl rfl ?_
        refine j_nil ⟨rfl, ?_⟩
        have q := D0_1_2_3_4_5_6_10 b6 c6
        rw [hP] at q
        exact ja_weak (by exact ⟨rfl, rfl, rfl, rfl, rfl, rfl, rfl, rfl, rfl, rfl, rfl, rfl, rfl, rfl, trivial⟩) (List.Perm.refl _) q
    have D1_2_3_4_5_6 : ∀ (b6 : Option Nat) (c6 : Nat), P [false, true, true, true, true, true, true, false, false, false, false, false, false] [(219, .os oc (iotaI f.vars.toNat).length cc), (220, .int f.phase), (221, .int f.pend), (222, .int f.round), (223, .sl ([f.phase, f.pend, f.round].map encI)), (224, .os b6 f.conts.length c6), (2, .op (some r2) 0), (3, .op (some r3) 0), (10, .int f.phase), (11, .int f.pend), (12, .int f.round), (14, .ip [.int (f.yes + 1), .os ob css.length cap]), (28, .os oc (iotaI f.vars.toNat).length cc)] ((⟨b6, 2, c6 * 1, (f.conts.map encI).flatten⟩ : Blk) :: (⟨some r3, 86, 2, [.os none 0 0, .os none 0 0]⟩ : Blk) :: (⟨some r2, 82, 2, [.int 0, .os none 0 0]⟩ : Blk) :: XX) := by
      intro b6 c6
      rw [hP]
      refine ja_step (rs := [0, 7]) (by kernel_rfl) (by simp) (fun i hi => ?_)
      simp only [List.mem_cons, List.not_mem_nil, or_false] at hi
      rcases hi with rfl | rfl
      · refine ⟨_, rfl, ?_⟩
        refine j_op0 rfl rfl rfl rfl ?_
        refine j_nil ⟨rfl, ?_⟩
        have q := D0_1_2_3_4_5_6 b6 c6
        rw [hP] at q
        exact ja_weak (by exact ⟨rfl, rfl, rfl, rfl, rfl, rfl, rfl, rfl, rfl, rfl, rfl, rfl, rfl, rfl, trivial⟩) (List.Perm.refl _) q
      · refine ⟨_, rfl, ?_⟩
        first | refine j_op0 rfl rfl rfl rfl ?_ | refine j_build rfl rfl rfl rfl rfl rfl rfl ?_
        refine j_nil ⟨rfl, ?_⟩
        have q := D1_2_3_4_5_6_7 b6 c6
        rw [hP] at q
        exact ja_weak (by exact ⟨rfl, rfl, rfl, rfl, rfl, rfl, rfl, rfl, rfl, rfl, rfl, rfl, rfl, rfl, trivial⟩) (List.Perm.refl _) q
    have D0_1_2_3_4_5 : P [true, true, true, true, true, true, false, false, false, false, false, false, false] [(218, .agg [.int (f.yes + 1), .os ob css.length cap]), (219, .os oc (iotaI f.vars.toNat).length cc), (220, .int f.phase), (221, .int f.pend), (222, .int f.round), (223, .sl ([f.phase, f.pend, f.round].map encI)), (2, .op (some r2) 0), (3, .op (some r3) 0), (10, .int f.phase), (11, .int f.pend), (12, .int f.round), (14, .ip [.int (f.yes + 1), .os ob css.length cap]), (28, .os oc (iotaI f.vars.toNat).length cc)] ((⟨oc, 2, cc * 1, ((iotaI f.vars.toNat).map encI).flatten⟩ : Blk) :: (⟨some r3, 86, 2, [.os none 0 0, .os none 0 0]⟩ : Blk) :: (⟨some r2, 82, 2, [.int 0, .os none 0 0]⟩ : Blk) :: XX) := by
      rw [hP]
      refine ja_step (rs := [6]) (by kernel_rfl) (by simp) (fun i hi => ?_)
      simp only [List.mem_cons, List.not_mem_nil, or_false] at hi
      rcases hi with rfl
      · refine ⟨_, rfl, ?_⟩
        refine j_append 0 (g := encI) (ys := iotaI f.vars.toNat) [f.phase, f.pend, f.round] rfl rfl rfl rfl rfl rfl rfl rfl rfl rfl rfl rfl (fun _ => rfl) (fun _ _ => rfl) ⟨by simp only [List.length_cons, List.length_nil]; omega, by simp only [List.length_cons, List.length_nil]; omega⟩ rfl rfl (fun b6 c6 => ?_)
        refine j_nil ⟨rfl, ?_⟩
        have q := D0_1_2_3_4_5_6 b6 c6
        rw [hP] at q
        exact ja_weak (by exact ⟨rfl, rfl, rfl, rfl, rfl, rfl, rfl, rfl, rfl, rfl, rfl, rfl, rfl, rfl, trivial⟩) (List.Perm.refl _) q
    have D0_1_2_3_4 : P [true, true, true, true, true, false, false, false, false, false, false, false, false] [(218, .agg [.int (f.yes + 1), .os ob css.length cap]), (219, .os oc (iotaI f.vars.toNat).length cc), (220, .int f.phase), (221, .int f.pend), (222, .int f.round), (2, .op (some r2) 0), (3, .op (some r3) 0), (10, .int f.phase), (11, .int f.pend), (12, .int f.round), (14, .ip [.int (f.yes + 1), .os ob css.length cap]), (28, .os oc (iotaI f.vars.toNat).length cc)] ((⟨oc, 2, cc * 1, ((iotaI f.vars.toNat).map encI).flatten⟩ : Blk) :: (⟨some r3, 86, 2, [.os none 0 0, .os none 0 0]⟩ : Blk) :: (⟨some r2, 82, 2, [.int 0, .os none 0 0]⟩ : Blk) :: XX) := by
      rw [hP]
      refine ja_step (rs := [5]) (by kernel_rfl) (by simp) (fun i hi => ?_)
      simp only [List.mem_cons, List.not_mem_nil, or_false] at hi
      rcases hi with rfl
      · refine ⟨_, rfl, ?_⟩
        refine j_bsl rfl rfl rfl rfl rfl rfl rfl rfl rfl rfl rfl ?_
        refine j_nil ⟨rfl, ?_⟩
        have q := D0_1_2_3_4_5
        rw [hP] at q
        exact ja_weak (by exact ⟨rfl, rfl, rfl, rfl, rfl, rfl, rfl, rfl, rfl, rfl, rfl, rfl, rfl, trivial⟩) (List.Perm.refl _) q
    have D0_2_3_4_5 : P [true, false, true, true, true, true, false, false, false, false, false, false, false] [(218, .agg [.int (f.yes + 1), .os ob css.length cap]), (220, .int f.phase), (221, .int f.pend), (222, .int f.round), (223, .sl ([f.phase, f.pend, f.round].map encI)), (2, .op (some r2) 0), (3, .op (some r3) 0), (10, .int f.phase), (11, .int f.pend), (12, .int f.round), (14, .ip [.int (f.yes + 1), .os ob css.length cap]), (28, .os oc (iotaI f.vars.toNat).length cc)] ((⟨oc, 2, cc * 1, ((iotaI f.vars.toNat).map encI).flatten⟩ : Blk) :: (⟨some r3, 86, 2, [.os none 0 0, .os none 0 0]⟩ : Blk) :: (⟨some r2, 82, 2, [.int 0, .os none 0 0]⟩ : Blk) :: XX) := by
      rw [hP]
      refine ja_step (rs := [1]) (by kernel_rfl) (by simp) (fun i hi => ?_)
      simp only [List.mem_cons, List.not_mem_nil, or_false] at hi
      rcases hi with rfl
      · refine ⟨_, rfl, ?_⟩
        refine j_op0 rfl rfl rfl rfl ?_
        refine j_nil ⟨rfl, ?_⟩
        have q := D0_1_2_3_4_5
        rw [hP] at q
        exact ja_weak (by exact ⟨rfl, rfl, rfl, rfl, rfl, rfl, rfl, rfl, rfl, rfl, rfl, rfl, rfl, trivial⟩) (List.Perm.refl _) q
    have D1_2_3_4_5 : P [false, true, true, true, true, true, false, false, false, false, false, false, false] [(219, .os oc (iotaI f.vars.toNat).length cc), (220, .int f.phase), (221, .int f.pend), (222, .int f.round), (223, .sl ([f.phase, f.pend, f.round].map encI)), (2, .op (some r2) 0), (3, .op (some r3) 0), (10, .int f.phase), (11, .int f.pend), (12, .int f.round), (14, .ip [.int (f.yes + 1), .os ob css.length cap]), (28, .os oc (iotaI f.vars.toNat).length cc)] ((⟨oc, 2, cc * 1, ((iotaI f.vars.toNat).map encI).flatten⟩ : Blk) :: (⟨some r3, 86, 2, [.os none 0 0, .os none 0 0]⟩ : Blk) :: (⟨some r2, 82, 2, [.int 0, .os none 0 0]⟩ : Blk) :: XX) := by
      rw [hP]
      refine ja_step (rs := [0, 6]) (by kernel_rfl) (by simp) (fun i hi => ?_)
      simp only [List.mem_cons, List.not_mem_nil, or_false] at hi
      rcases hi with rfl | rfl
      · refine ⟨_, rfl, ?_⟩
        refine j_op0 rfl rfl rfl rfl ?_
        refine j_nil ⟨rfl, ?_⟩
        have q := D0_1_2_3_4_5
        rw [hP] at q
        exact ja_weak (by exact ⟨rfl, rfl, rfl, rfl, rfl, rfl, rfl, rfl, rfl, rfl, rfl, rfl, rfl, trivial⟩) (List.Perm.refl _) q
      · refine ⟨_, rfl, ?_⟩
        refine j_append 0 (g := encI) (ys := iotaI f.vars.toNat) [f.phase, f.pend, f.round] rfl rfl rfl rfl rfl rfl rfl rfl rfl rfl rfl rfl (fun _ => rfl) (fun _ _ => rfl) ⟨by simp only [List.length_cons, List.length_nil]; omega, by simp only [List.length_cons, List.length_nil]; omega⟩ rfl rfl (fun b6 c6 => ?_)
        refine j_nil ⟨rfl, ?_⟩
        have q := D1_2_3_4_5_6 b6 c6
        rw [hP] at q
        exact ja_weak (by exact ⟨rfl, rfl, rfl, rfl, rfl, rfl, rfl, rfl, rfl, rfl, rfl, rfl, rfl, trivial⟩) (List.Perm.refl _) q
    have D0_2_3_4 : P [true, false, true, true, true, false, false, false, false, false, false, false, false] [(218, .agg [.int (f.yes + 1), .os ob css.length cap]), (220, .int f.phase), (221, .int f.pend), (222, .int f.round), (2, .op (some r2) 0), (3, .op (some r3) 0), (10, .int f.phase), (11, .int f.pend), (12, .int f.round), (14, .ip [.int (f.yes + 1), .os ob css.length cap]), (28, .os oc (iotaI f.vars.toNat).length cc)] ((⟨oc, 2, cc * 1, ((iotaI f.vars.toNat).map encI).flatten⟩ : Blk) :: (⟨some r3, 86, 2, [.os none 0 0, .os none 0 0]⟩ : Blk) :: (⟨some r2, 82, 2, [.int 0, .os none 0 0]⟩ : Blk) :: XX) := by
      rw [hP]
      refine ja_step (rs := [1, 5]) (by kernel_rfl) (by simp) (fun i hi => ?_)
      simp only [List.mem_cons, List.not_mem_nil, or_false] at hi
      rcases hi with rfl | rfl
      · refine ⟨_, rfl, ?_⟩
        refine j_op0 rfl rfl rfl rfl ?_
        refine j_nil ⟨rfl, ?_⟩
        have q := D0_1_2_3_4
        rw [hP] at q
        exact ja_weak (by exact ⟨rfl, rfl, rfl, rfl, rfl, rfl, rfl, rfl, rfl, rfl, rfl, rfl, trivial⟩) (List.Perm.refl _) q
      · refine ⟨_, rfl, ?_⟩
        refine j_bsl rfl rfl rfl rfl rfl rfl rfl rfl rfl rfl rfl ?_
        refine j_nil ⟨rfl, ?_⟩
        have q := D0_2_3_4_5
        rw [hP] at q
        exact ja_weak (by exact ⟨rfl, rfl, rfl, rfl, rfl, rfl, rfl, rfl, rfl, rfl, rfl, rfl, trivial⟩) (List.Perm.refl _) q
    have D2_3_4_5 : P [false, false, true, true, true, true, false, false, false, false, false, false, false] [(220, .int f.phase), (221, .int f.pend), (222, .int f.round), (223, .sl ([f.phase, f.pend, f.round].map encI)), (2, .op (some r2) 0), (3, .op (some r3) 0), (10, .int f.phase), (11, .int f.pend), (12, .int f.round), (14, .ip [.int (f.yes + 1), .os ob css.length cap]), (28, .os oc (iotaI f.vars.toNat).length cc)] ((⟨oc, 2, cc * 1, ((iotaI f.vars.toNat).map encI).flatten⟩ : Blk) :: (⟨some r3, 86, 2, [.os none 0 0, .os none 0 0]⟩ : Blk) :: (⟨some r2, 82, 2, [.int 0, .os none 0 0]⟩ : Blk) :: XX) := by
      rw [hP]
      refine ja_step (rs := [0, 1]) (by kernel_rfl) (by simp) (fun i hi => ?_)
      simp only [List.mem_cons, List.not_mem_nil, or_false] at hi
      rcases hi with rfl | rfl
      · refine ⟨_, rfl, ?_⟩
        refine j_op0 rfl rfl rfl rfl ?_
        refine j_nil ⟨rfl, ?_⟩
        have q := D0_2_3_4_5
        rw [hP] at q
        exact ja_weak (by exact ⟨rfl, rfl, rfl, rfl, rfl, rfl, rfl, rfl, rfl, rfl, rfl, rfl, trivial⟩) (List.Perm.refl _) q
      · refine ⟨_, rfl, ?_⟩
        refine j_op0 rfl rfl rfl rfl ?_
        refine j_nil ⟨rfl, ?_⟩
        have q := D1_2_3_4_5
        rw [hP] at q
        exact ja_weak (by exact ⟨rfl, rfl, rfl, rfl, rfl, rfl, rfl, rfl, rfl, rfl, rfl, rfl, trivial⟩) (List.Perm.refl _) q
    have D1_2_3_4 : P [false, true, true, true, true, false, false, false, false, false, false, false, false] [(219, .os oc (iotaI f.vars.toNat).length cc), (220, .int f.phase), (221, .int f.pend), (222, .int f.round), (2, .op (some r2) 0), (3, .op (some r3) 0), (10, .int f.phase), (11, .int f.pend), (12, .int f.round), (14, .ip [.int (f.yes + 1), .os ob css.length cap]), (28, .os oc (iotaI f.vars.toNat).length cc)] ((⟨oc, 2, cc * 1, ((iotaI f.vars.toNat).map encI).flatten⟩ : Blk) :: (⟨some r3, 86, 2, [.os none 0 0, .os none 0 0]⟩ : Blk) :: (⟨some r2, 82, 2, [.int 0, .os none 0 0]⟩ : Blk) :: XX) := by
      rw [hP]
      refine ja_step (rs := [0, 5]) (by kernel_rfl) (by simp) (fun i hi => ?_)
      simp only [List.mem_cons, List.not_mem_nil, or_false] at hi
      rcases hi with rfl | rfl
      · refine ⟨_, rfl, ?_⟩
        refine j_op0 rfl rfl rfl rfl ?_
        refine j_nil ⟨rfl, ?_⟩
        have q := D0_1_2_3_4
        rw [hP] at q
        exact ja_weak (by exact ⟨rfl, rfl, rfl, rfl, rfl, rfl, rfl, rfl, rfl, rfl, rfl, rfl, trivial⟩) (List.Perm.refl _) q
      · refine ⟨_, rfl, ?_⟩
        refine j_bsl rfl rfl rfl rfl rfl rfl rfl rfl rfl rfl rfl ?_
        refine j_nil ⟨rfl, ?_⟩
        have q := D1_2_3_4_5
        rw [hP] at q
        exact ja_weak (by exact ⟨rfl, rfl, rfl, rfl, rfl, rfl, rfl, rfl, rfl, rfl, rfl, rfl, trivial⟩) (List.Perm.refl _) q
    have D0_1_3_4 : P [true, true, false, true, true, false, false, false, false, false, false, false, false] [(218, .agg [.int (f.yes + 1), .os ob css.length cap]), (219, .os oc (iotaI f.vars.toNat).length cc), (221, .int f.pend), (222, .int f.round), (2, .op (some r2) 0), (3, .op (some r3) 0), (10, .int f.phase), (11, .int f.pend), (12, .int f.round), (14, .ip [.int (f.yes + 1), .os ob css.length cap]), (28, .os oc (iotaI f.vars.toNat).length cc)] ((⟨oc, 2, cc * 1, ((iotaI f.vars.toNat).map encI).flatten⟩ : Blk) :: (⟨some r3, 86, 2, [.os none 0 0, .os none 0 0]⟩ : Blk) :: (⟨some r2, 82, 2, [.int 0, .os none 0 0]⟩ : Blk) :: XX) := by
      rw [hP]
      refine ja_step (rs := [2]) (by kernel_rfl) (by simp) (fun i hi => ?_)
      simp only [List.mem_cons, List.not_mem_nil, or_false] at hi
      rcases hi with rfl
      · refine ⟨_, rfl, ?_⟩
        refine j_op0 rfl rfl rfl rfl ?_
        refine j_nil ⟨rfl, ?_⟩
        have q := D0_1_2_3_4
        rw [hP] at q
        exact ja_weak (by exact ⟨rfl, rfl, rfl, rfl, rfl, rfl, rfl, rfl, rfl, rfl, rfl, rfl, trivial⟩) (List.Perm.refl _) q
    have D0_1_2_3 : P [true, true, true, true, false, false, false, false, false, false, false, false, false] [(218, .agg [.int (f.yes + 1), .os ob css.length cap]), (219, .os oc (iotaI f.vars.toNat).length cc), (220, .int f.phase), (221, .int f.pend), (2, .op (some r2) 0), (3, .op (some r3) 0), (10, .int f.phase), (11, .int f.pend), (12, .int f.round), (14, .ip [.int (f.yes + 1), .os ob css.length cap]), (28, .os oc (iotaI f.vars.toNat).length cc)] ((⟨oc, 2, cc * 1, ((iotaI f.vars.toNat).map encI).flatten⟩ : Blk) :: (⟨some r3, 86, 2, [.os none 0 0, .os none 0 0]⟩ : Blk) :: (⟨some r2, 82, 2, [.int 0, .os none 0 0]⟩ : Blk) :: XX) := by
      rw [hP]
      refine ja_step (rs := [4]) (by kernel_rfl) (by simp) (fun i hi => ?_)
      simp only [List.mem_cons, List.not_mem_nil, or_false] at hi
      rcases hi with rfl
      · refine ⟨_, rfl, ?_⟩
        refine j_op0 rfl rfl rfl rfl ?_
        refine j_nil ⟨rfl, ?_⟩
        have q := D0_1_2_3_4
        rw [hP] at q
        exact ja_weak (by exact ⟨rfl, rfl, rfl, rfl, rfl, rfl, rfl, rfl, rfl, rfl, rfl, rfl, trivial⟩) (List.Perm.refl _) q
    have D0_1_2_4 : P [true, true, true, false, true, false, false, false, false, false, false, false, false] [(218, .agg [.int (f.yes + 1), .os ob css.length cap]), (219, .os oc (iotaI f.vars.toNat).length cc), (220, .int f.phase), (222, .int f.round), (2, .op (some r2) 0), (3, .op (some r3) 0), (10, .int f.phase), (11, .int f.pend), (12, .int f.round), (14, .ip [.int (f.yes + 1), .os ob css.length cap]), (28, .os oc (iotaI f.vars.toNat).length cc)] ((⟨oc, 2, cc * 1, ((iotaI f.vars.toNat).map encI).flatten⟩ : Blk) :: (⟨some r3, 86, 2, [.os none 0 0, .os none 0 0]⟩ : Blk) :: (⟨some r2, 82, 2, [.int 0, .os none 0 0]⟩ : Blk) :: XX) := by
      rw [hP]
      refine ja_step (rs := [3]) (by kernel_rfl) (by simp) (fun i hi => ?_)
      simp only [List.mem_cons, List.not_mem_nil, or_false] at hi
      rcases hi with rfl
      · refine ⟨_, rfl, ?_⟩
        refine j_op0 rfl rfl rfl rfl ?_
        refine j_nil ⟨rfl, ?_⟩
        have q := D0_1_2_3_4
        rw [hP] at q
        exact ja_weak (by exact ⟨rfl, rfl, rfl, rfl, rfl, rfl, rfl, rfl, rfl, rfl, rfl, rfl, trivial⟩) (List.Perm.refl _) q
    have D2_3_4 : P [false, false, true, true, true, false, false, false, false, false, false, false, false] [(220, .int f.phase), (221, .int f.pend), (222, .int f.round), (2, .op (some r2) 0), (3, .op (some r3) 0), (10, .int f.phase), (11, .int f.pend), (12, .int f.round), (14, .ip [.int (f.yes + 1), .os ob css.length cap]), (28, .os oc (iotaI f.vars.toNat).length cc)] ((⟨oc, 2, cc * 1, ((iotaI f.vars.toNat).map encI).flatten⟩ : Blk) :: (⟨some r3, 86, 2, [.os none 0 0, .os none 0 0]⟩ : Blk) :: (⟨some r2, 82, 2, [.int 0, .os none 0 0]⟩ : Blk) :: XX) := by
      rw [hP]
      refine ja_step (rs := [0, 1, 5]) (by kernel_rfl) (by simp) (fun i hi => ?_)
      simp only [List.mem_cons, List.not_mem_nil, or_false] at hi
      rcases hi with rfl | rfl | rfl
      · refine ⟨_, rfl, ?_⟩
        refine j_op0 rfl rfl rfl rfl ?_
        refine j_nil ⟨rfl, ?_⟩
        have q := D0_2_3_4
        rw [hP] at q
        exact ja_weak (by exact ⟨rfl, rfl, rfl, rfl, rfl, rfl, rfl, rfl, rfl, rfl, rfl, trivial⟩) (List.Perm.refl _) q
      · refine ⟨_, rfl, ?_⟩
        refine j_op0 rfl rfl rfl rfl ?_
        refine j_nil ⟨rfl, ?_⟩
        have q := D1_2_3_4
        rw [hP] at q
        exact ja_weak (by exact ⟨rfl, rfl, rfl, rfl, rfl, rfl, rfl, rfl, rfl, rfl, rfl, trivial⟩) (List.Perm.refl _) q
      · refine ⟨_, rfl, ?_⟩
        refine j_bsl rfl rfl rfl rfl rfl rfl rfl rfl rfl rfl rfl ?_
        refine j_nil ⟨rfl, ?_⟩
        have q := D2_3_4_5
        rw [hP] at q
        exact ja_weak (by exact ⟨rfl, rfl, rfl, rfl, rfl, rfl, rfl, rfl, rfl, rfl, rfl, trivial⟩) (List.Perm.refl _) q
    have D0_2_4 : P [true, false, true, false, true, false, false, false, false, false, false, false, false] [(218, .agg [.int (f.yes + 1), .os ob css.length cap]), (220, .int f.phase), (222, .int f.round), (2, .op (some r2) 0), (3, .op (some r3) 0), (10, .int f.phase), (11, .int f.pend), (12, .int f.round), (14, .ip [.int (f.yes + 1), .os ob css.length cap]), (28, .os oc (iotaI f.vars.toNat).length cc)] ((⟨oc, 2, cc * 1, ((iotaI f.vars.toNat).map encI).flatten⟩ : Blk) :: (⟨some r3, 86, 2, [.os none 0 0, .os none 0 0]⟩ : Blk) :: (⟨some r2, 82, 2, [.int 0, .os none 0 0]⟩ : Blk) :: XX) := by
      rw [hP]
      refine ja_step (rs := [1, 3]) (by kernel_rfl) (by simp) (fun i hi => ?_)
      simp only [List.mem_cons, List.not_mem_nil, or_false] at hi
      rcases hi with rfl | rfl
      · refine ⟨_, rfl, ?_⟩
        refine j_op0 rfl rfl rfl rfl ?_
        refine j_nil ⟨rfl, ?_⟩
        have q := D0_1_2_4
        rw [hP] at q
        exact ja_weak (by exact ⟨rfl, rfl, rfl, rfl, rfl, rfl, rfl, rfl, rfl, rfl, rfl, trivial⟩) (List.Perm.refl _) q
      · refine ⟨_, rfl, ?_⟩
        refine j_op0 rfl rfl rfl rfl ?_
        refine j_nil ⟨rfl, ?_⟩
        have q := D0_2_3_4
        rw [hP] at q
        exact ja_weak (by exact ⟨rfl, rfl, rfl, rfl, rfl, rfl, rfl, rfl, rfl, rfl, rfl, trivial⟩) (List.Perm.refl _) q
    have D0_2_3 : P [true, false, true, true, false, false, false, false, false, false, false, false, false] [(218, .agg [.int (f.yes + 1), .os ob css.length cap]), (220, .int f.phase), (221, .int f.pend), (2, .op (some r2) 0), (3, .op (some r3) 0), (10, .int f.phase), (11, .int f.pend), (12, .int f.round), (14, .ip [.int (f.yes + 1), .os ob css.length cap]), (28, .os oc (iotaI f.vars.toNat).length cc)] ((⟨oc, 2, cc * 1, ((iotaI f.vars.toNat).map encI).flatten⟩ : Blk) :: (⟨some r3, 86, 2, [.os none 0 0, .os none 0 0]⟩ : Blk) :: (⟨some r2, 82, 2, [.int 0, .os none 0 0]⟩ : Blk) :: XX) := by
      rw [hP]
      refine ja_step (rs := [1, 4]) (by kernel_rfl) (by simp) (fun i hi => ?_)
      simp only [List.mem_cons, List.not_mem_nil, or_false] at hi
      rcases hi with rfl | rfl
      · refine ⟨_, rfl, ?_⟩
        refine j_op0 rfl rfl rfl rfl ?_
        refine j_nil ⟨rfl, ?_⟩
        have q := D0_1_2_3
        rw [hP] at q
        exact ja_weak (by exact ⟨rfl, rfl, rfl, rfl, rfl, rfl, rfl, rfl, rfl, rfl, rfl, trivial⟩) (List.Perm.refl _) q
      · refine ⟨_, rfl, ?_⟩
        refine j_op0 rfl rfl rfl rfl ?_
        refine j_nil ⟨rfl, ?_⟩
        have q := D0_2_3_4
        rw [hP] at q
        exact ja_weak (by exact ⟨rfl, rfl, rfl, rfl, rfl, rfl, rfl, rfl, rfl, rfl, rfl, trivial⟩) (List.Perm.refl _) q
    have D1_2_3 : P [false, true, true, true, false, false, false, false, false, false, false, false, false] [(219, .os oc (iotaI f.vars.toNat).length cc), (220, .int f.phase), (221, .int f.pend), (2, .op (some r2) 0), (3, .op (some r3) 0), (10, .int f.phase), (11, .int f.pend), (12, .int f.round), (14, .ip [.int (f.yes + 1), .os ob css.length cap]), (28, .os oc (iotaI f.vars.toNat).length cc)] ((⟨oc, 2, cc * 1, ((iotaI f.vars.toNat).map encI).flatten⟩ : Blk) :: (⟨some r3, 86, 2, [.os none 0 0, .os none 0 0]⟩ : Blk) :: (⟨some r2, 82, 2, [.int 0, .os none 0 0]⟩ : Blk) :: XX) := by
      rw [hP]
      refine ja_step (rs := [0, 4]) (by kernel_rfl) (by simp) (fun i hi => ?_)
      simp only [List.mem_cons, List.not_mem_nil, or_false] at hi
      rcases hi with rfl | rfl
      · refine ⟨_, rfl, ?_⟩
        refine j_op0 rfl rfl rfl rfl ?_
        refine j_nil ⟨rfl, ?_⟩
        have q := D0_1_2_3
        rw [hP] at q
        exact ja_weak (by exact ⟨rfl, rfl, rfl, rfl, rfl, rfl, rfl, rfl, rfl, rfl, rfl, trivial⟩) (List.Perm.refl _) q
      · refine ⟨_, rfl, ?_⟩
        refine j_op0 rfl rfl rfl rfl ?_
        refine j_nil ⟨rfl, ?_⟩
        have q := D1_2_3_4
        rw [hP] at q
        exact ja_weak (by exact ⟨rfl, rfl, rfl, rfl, rfl, rfl, rfl, rfl, rfl, rfl, rfl, trivial⟩) (List.Perm.refl _) q
    have D1_3_4 : P [false, true, false, true, true, false, false, false, false, false, false, false, false] [(219, .os oc (iotaI f.vars.toNat).length cc), (221, .int f.pend), (222, .int f.round), (2, .op (some r2) 0), (3, .op (some r3) 0), (10, .int f.phase), (11, .int f.pend), (12, .int f.round), (14, .ip [.int (f.yes + 1), .os ob css.length cap]), (28, .os oc (iotaI f.vars.toNat).length cc)] ((⟨oc, 2, cc * 1, ((iotaI f.vars.toNat).map encI).flatten⟩ : Blk) :: (⟨some r3, 86, 2, [.os none 0 0, .os none 0 0]⟩ : Blk) :: (⟨some r2, 82, 2, [.int 0, .os none 0 0]⟩ : Blk) :: XX) := by
      rw [hP]
      refine ja_step (rs := [0, 2]) (by kernel_rfl) (by simp) (fun i hi => ?_)
      simp only [List.mem_cons, List.not_mem_nil, or_false] at hi
      rcases hi with rfl | rfl
      · refine ⟨_, rfl, ?_⟩
        refine j_op0 rfl rfl rfl rfl ?_
        refine j_nil ⟨rfl, ?_⟩
        have q := D0_1_3_4
        rw [hP] at q
        exact ja_weak (by exact ⟨rfl, rfl, rfl, rfl, rfl, rfl, rfl, rfl, rfl, rfl, rfl, trivial⟩) (List.Perm.refl _) q
      · refine ⟨_, rfl, ?_⟩
        refine j_op0 rfl rfl rfl rfl ?_
        refine j_nil ⟨rfl, ?_⟩
        have q := D1_2_3_4
        rw [hP] at q
        exact ja_weak (by exact ⟨rfl, rfl, rfl, rfl, rfl, rfl, rfl, rfl, rfl, rfl, rfl, trivial⟩) (List.Perm.refl _) q
    have D0_3_4 : P [true, false, false, true, true, false, false, false, false, false, false, false, false] [(218, .agg [.int (f.yes + 1), .os ob css.length cap]), (221, .int f.pend), (222, .int f.round), (2, .op (some r2) 0), (3, .op (some r3) 0), (10, .int f.phase), (11, .int f.pend), (12, .int f.round), (14, .ip [.int (f.yes + 1), .os ob css.length cap]), (28, .os oc (iotaI f.vars.toNat).length cc)] ((⟨oc, 2, cc * 1, ((iotaI f.vars.toNat).map encI).flatten⟩ : Blk) :: (⟨some r3, 86, 2, [.os none 0 0, .os none 0 0]⟩ : Blk) :: (⟨some r2, 82, 2, [.int 0, .os none 0 0]⟩ : Blk) :: XX) := by
      rw [hP]
      refine ja_step (rs := [1, 2]) (by kernel_rfl) (by simp) (fun i hi => ?_)
      simp only [List.mem_cons, List.not_mem_nil, or_false] at hi
      rcases hi with rfl | rfl
      · refine ⟨_, rfl, ?_⟩
        refine j_op0 rfl rfl rfl rfl ?_
        refine j_nil ⟨rfl, ?_⟩
        have q := D0_1_3_4
        rw [hP] at q
        exact ja_weak (by exact ⟨rfl, rfl, rfl, rfl, rfl, rfl, rfl, rfl, rfl, rfl, rfl, trivial⟩) (List.Perm.refl _) q
      · refine ⟨_, rfl, ?_⟩
        refine j_op0 rfl rfl rfl rfl ?_
        refine j_nil ⟨rfl, ?_⟩
        have q := D0_2_3_4
        rw [hP] at q
        exact ja_weak (by exact ⟨rfl, rfl, rfl, rfl, rfl, rfl, rfl, rfl, rfl, rfl, rfl, trivial⟩) (List.Perm.refl _) q
    have D0_1_2 : P [true, true, true, false, false, false, false, false, false, false, false, false, false] [(218, .agg [.int (f.yes + 1), .os ob css.length cap]), (219, .os oc (iotaI f.vars.toNat).length cc), (220, .int f.phase), (2, .op (some r2) 0), (3, .op (some r3) 0), (10, .int f.phase), (11, .int f.pend), (12, .int f.round), (14, .ip [.int (f.yes + 1), .os ob css.length cap]), (28, .os oc (iotaI f.vars.toNat).length cc)] ((⟨oc, 2, cc * 1, ((iotaI f.vars.toNat).map encI).flatten⟩ : Blk) :: (⟨some r3, 86, 2, [.os none 0 0, .os none 0 0]⟩ : Blk) :: (⟨some r2, 82, 2, [.int 0, .os none 0 0]⟩ : Blk) :: XX) := by
      rw [hP]
      refine ja_step (rs := [3, 4]) (by kernel_rfl) (by simp) (fun i hi => ?_)
      simp only [List.mem_cons, List.not_mem_nil, or_false] at hi
      rcases hi with rfl | rfl
      · refine ⟨_, rfl, ?_⟩
        refine j_op0 rfl rfl rfl rfl ?_
        refine j_nil ⟨rfl, ?_⟩
        have q := D0_1_2_3
        rw [hP] at q
        exact ja_weak (by exact ⟨rfl, rfl, rfl, rfl, rfl, rfl, rfl, rfl, rfl, rfl, rfl, trivial⟩) (List.Perm.refl _) q
      · refine ⟨_, rfl, ?_⟩
        refine j_op0 rfl rfl rfl rfl ?_
        refine j_nil ⟨rfl, ?_⟩
        have q := D0_1_2_4
        rw [hP] at q
        exact ja_weak (by exact ⟨rfl, rfl, rfl, rfl, rfl, rfl, rfl, rfl, rfl, rfl, rfl, trivial⟩) (List.Perm.refl _) q
    have D0_1_3 : P [true, true, false, true, false, false, false, false, false, false, false, false, false] [(218, .agg [.int (f.yes + 1), .os ob css.length cap]), (219, .os oc (iotaI f.vars.toNat).length cc), (221, .int f.pend), (2, .op (some r2) 0), (3, .op (some r3) 0), (10, .int f.phase), (11, .int f.pend), (12, .int f.round), (14, .ip [.int (f.yes + 1), .os ob css.length cap]), (28, .os oc (iotaI f.vars.toNat).length cc)] ((⟨oc, 2, cc * 1, ((iotaI f.vars.toNat).map encI).flatten⟩ : Blk) :: (⟨some r3, 86, 2, [.os none 0 0, .os none 0 0]⟩ : Blk) :: (⟨some r2, 82, 2, [.int 0, .os none 0 0]⟩ : Blk) :: XX) := by
      rw [hP]
      refine ja_step (rs := [2, 4]) (by kernel_rfl) (by simp) (fun i hi => ?_)
      simp only [List.mem_cons, List.not_mem_nil, or_false] at hi
      rcases hi with rfl | rfl
      · refine ⟨_, rfl, ?_⟩
        refine j_op0 rfl rfl rfl rfl ?_
        refine j_nil ⟨rfl, ?_⟩
        have q := D0_1_2_3
        rw [hP] at q
        exact ja_weak (by exact ⟨rfl, rfl, rfl, rfl, rfl, rfl, rfl, rfl, rfl, rfl, rfl, trivial⟩) (List.Perm.refl _) q
      · refine ⟨_, rfl, ?_⟩
        refine j_op0 rfl rfl rfl rfl ?_
        refine j_nil ⟨rfl, ?_⟩
        have q := D0_1_3_4
        rw [hP] at q
        exact ja_weak (by exact ⟨rfl, rfl, rfl, rfl, rfl, rfl, rfl, rfl, rfl, rfl, rfl, trivial⟩) (List.Perm.refl _) q
    have D0_1_4 : P [true, true, false, false, true, false, false, false, false, false, false, false, false] [(218, .agg [.int (f.yes + 1), .os ob css.length cap]), (219, .os oc (iotaI f.vars.toNat).length cc), (222, .int f.round), (2, .op (some r2) 0), (3, .op (some r3) 0), (10, .int f.phase), (11, .int f.pend), (12, .int f.round), (14, .ip [.int (f.yes + 1), .os ob css.length cap]), (28, .os oc (iotaI f.vars.toNat).length cc)] ((⟨oc, 2, cc * 1, ((iotaI f.vars.toNat).map encI).flatten⟩ : Blk) :: (⟨some r3, 86, 2, [.os none 0 0, .os none 0 0]⟩ : Blk) :: (⟨some r2, 82, 2, [.int 0, .os none 0 0]⟩ : Blk) :: XX) := by
      rw [hP]
      refine ja_step (rs := [2, 3]) (by kernel_rfl) (by simp) (fun i hi => ?_)
      simp only [List.mem_cons, List.not_mem_nil, or_false] at hi
      rcases hi with rfl | rfl
      · refine ⟨_, rfl, ?_⟩
        refine j_op0 rfl rfl rfl rfl ?_
        refine j_nil ⟨rfl, ?_⟩
        have q := D0_1_2_4
        rw [hP] at q
        exact ja_weak (by exact ⟨rfl, rfl, rfl, rfl, rfl, rfl, rfl, rfl, rfl, rfl, rfl, trivial⟩) (List.Perm.refl _) q
      · refine ⟨_, rfl, ?_⟩
        refine j_op0 rfl rfl rfl rfl ?_
        refine j_nil ⟨rfl, ?_⟩
        have q := D0_1_3_4
        rw [hP] at q
        exact ja_weak (by exact ⟨rfl, rfl, rfl, rfl, rfl, rfl, rfl, rfl, rfl, rfl, rfl, trivial⟩) (List.Perm.refl _) q
    have D1_2_4 : P [false, true, true, false, true, false, false, false, false, false, false, false, false] [(219, .os oc (iotaI f.vars.toNat).length cc), (220, .int f.phase), (222, .int f.round), (2, .op (some r2) 0), (3, .op (some r3) 0), (10, .int f.phase), (11, .int f.pend), (12, .int f.round), (14, .ip [.int (f.yes + 1), .os ob css.length cap]), (28, .os oc (iotaI f.vars.toNat).length cc)] ((⟨oc, 2, cc * 1, ((iotaI f.vars.toNat).map encI).flatten⟩ : Blk) :: (⟨some r3, 86, 2, [.os none 0 0, .os none 0 0]⟩ : Blk) :: (⟨some r2, 82, 2, [.int 0, .os none 0 0]⟩ : Blk) :: XX) := by
      rw [hP]
      refine ja_step (rs := [0, 3]) (by kernel_rfl) (by simp) (fun i hi => ?_)
      simp only [List.mem_cons, List.not_mem_nil, or_false] at hi
      rcases hi with rfl | rfl
      · refine ⟨_, rfl, ?_⟩
        refine j_op0 rfl rfl rfl rfl ?_
        refine j_nil ⟨rfl, ?_⟩
        have q := D0_1_2_4
        rw [hP] at q
        exact ja_weak (by exact ⟨rfl, rfl, rfl, rfl, rfl, rfl, rfl, rfl, rfl, rfl, rfl, trivial⟩) (List.Perm.refl _) q
      · refine ⟨_, rfl, ?_⟩
        refine j_op0 rfl rfl rfl rfl ?_
        refine j_nil ⟨rfl, ?_⟩
        have q := D1_2_3_4
        rw [hP] at q
        exact ja_weak (by exact ⟨rfl, rfl, rfl, rfl, rfl, rfl, rfl, rfl, rfl, rfl, rfl, trivial⟩) (List.Perm.refl _) q
    have D1_4 : P [false, true, false, false, true, false, false, false, false, false, false, false, false] [(219, .os oc (iotaI f.vars.toNat).length cc), (222, .int f.round), (2, .op (some r2) 0), (3, .op (some r3) 0), (10, .int f.phase), (11, .int f.pend), (12, .int f.round), (14, .ip [.int (f.yes + 1), .os ob css.length cap]), (28, .os oc (iotaI f.vars.toNat).length cc)] ((⟨oc, 2, cc * 1, ((iotaI f.vars.toNat).map encI).flatten⟩ : Blk) :: (⟨some r3, 86, 2, [.os none 0 0, .os none 0 0]⟩ : Blk) :: (⟨some r2, 82, 2, [.int 0, .os none 0 0]⟩ : Blk) :: XX) := by
      rw [hP]
      refine ja_step (rs := [0, 2, 3]) (by kernel_rfl) (by simp) (fun i hi => ?_)
      simp only [List.mem_cons, List.not_mem_nil, or_false] at hi
      rcases hi with rfl | rfl | rfl
      · refine ⟨_, rfl, ?_⟩
        refine j_op0 rfl rfl rfl rfl ?_
        refine j_nil ⟨rfl, ?_⟩
        have q := D0_1_4
        rw [hP] at q
        exact ja_weak (by exact ⟨rfl, rfl, rfl, rfl, rfl, rfl, rfl, rfl, rfl, rfl, trivial⟩) (List.Perm.refl _) q
      · refine ⟨_, rfl, ?_⟩
        refine j_op0 rfl rfl rfl rfl ?_
        refine j_nil ⟨rfl, ?_⟩
        have q := D1_2_4
        rw [hP] at q
        exact ja_weak (by exact ⟨rfl, rfl, rfl, rfl, rfl, rfl, rfl, rfl, rfl, rfl, trivial⟩) (List.Perm.refl _) q
      · refine ⟨_, rfl, ?_⟩
        refine j_op0 rfl rfl rfl rfl ?_
        refine j_nil ⟨rfl, ?_⟩
        have q := D1_3_4
        rw [hP] at q
        exact ja_weak (by exact ⟨rfl, rfl, rfl, rfl, rfl, rfl, rfl, rfl, rfl, rfl, trivial⟩) (List.Perm.refl _) q
    have D2_3 : P [false, false, true, true, false, false, false, false, false, false, false, false, false] [(220, .int f.phase), (221, .int f.pend), (2, .op (some r2) 0), (3, .op (some r3) 0), (10, .int f.phase), (11, .int f.pend), (12, .int f.round), (14, .ip [.int (f.yes + 1), .os ob css.length cap]), (28, .os oc (iotaI f.vars.toNat).length cc)] ((⟨oc, 2, cc * 1, ((iotaI f.vars.toNat).map encI).flatten⟩ : Blk) :: (⟨some r3, 86, 2, [.os none 0 0, .os none 0 0]⟩ : Blk) :: (⟨some r2, 82, 2, [.int 0, .os none 0 0]⟩ : Blk) :: XX) := by
      rw [hP]
      refine ja_step (rs := [0, 1, 4]) (by kernel_rfl) (by simp) (fun i hi => ?_)
      simp only [List.mem_cons, List.not_mem_nil, or_false] at hi
      rcases hi with rfl | rfl | rfl
      · refine ⟨_, rfl, ?_⟩
        refine j_op0 rfl rfl rfl rfl ?_
        refine j_nil ⟨rfl, ?_⟩
        have q := D0_2_3
        rw [hP] at q
        exact ja_weak (by exact ⟨rfl, rfl, rfl, rfl, rfl, rfl, rfl, rfl, rfl, rfl, trivial⟩) (List.Perm.refl _) q
      · refine ⟨_, rfl, ?_⟩
        refine j_op0 rfl rfl rfl rfl ?_
        refine j_nil ⟨rfl, ?_⟩
        have q := D1_2_3
        rw [hP] at q
        exact ja_weak (by exact ⟨rfl, rfl, rfl, rfl, rfl, rfl, rfl, rfl, rfl, rfl, trivial⟩) (List.Perm.refl _) q
      · refine ⟨_, rfl, ?_⟩
        refine j_op0 rfl rfl rfl rfl ?_
        refine j_nil ⟨rfl, ?_⟩
        have q := D2_3_4
        rw [hP] at q
        exact ja_weak (by exact ⟨rfl, rfl, rfl, rfl, rfl, rfl, rfl, rfl, rfl, rfl, trivial⟩) (List.Perm.refl _) q
    have D3_4 : P [false, false, false, true, true, false, false, false, false, false, false, false, false] [(221, .int f.pend), (222, .int f.round), (2, .op (some r2) 0), (3, .op (some r3) 0), (10, .int f.phase), (11, .int f.pend), (12, .int f.round), (14, .ip [.int (f.yes + 1), .os ob css.length cap]), (28, .os oc (iotaI f.vars.toNat).length cc)] ((⟨oc, 2, cc * 1, ((iotaI f.vars.toNat).map encI).flatten⟩ : Blk) :: (⟨some r3, 86, 2, [.os none 0 0, .os none 0 0]⟩ : Blk) :: (⟨some r2, 82, 2, [.int 0, .os none 0 0]⟩ : Blk) :: XX) := by
      rw [hP]
      refine ja_step (rs := [0, 1, 2]) (by kernel_rfl) (by simp) (fun i hi => ?_)
      simp only [List.mem_cons, List.not_mem_nil, or_false] at hi
      rcases hi with rfl | rfl | rfl
      · refine ⟨_, rfl, ?_⟩
        refine j_op0 rfl rfl rfl rfl ?_
        refine j_nil ⟨rfl, ?_⟩
        have q := D0_3_4
        rw [hP] at q
        exact ja_weak (by exact ⟨rfl, rfl, rfl, rfl, rfl, rfl, rfl, rfl, rfl, rfl, trivial⟩) (List.Perm.refl _) q
      · refine ⟨_, rfl, ?_⟩
        refine j_op0 rfl rfl rfl rfl ?_
        refine j_nil ⟨rfl, ?_⟩
        have q := D1_3_4
        rw [hP] at q
        exact ja_weak (by exact ⟨rfl, rfl, rfl, rfl, rfl, rfl, rfl, rfl, rfl, rfl, trivial⟩) (List.Perm.refl _) q
      · refine ⟨_, rfl, ?_⟩
        refine j_op0 rfl rfl rfl rfl ?_
        refine j_nil ⟨rfl, ?_⟩
        have q := D2_3_4
        rw [hP] at q
        exact ja_weak (by exact ⟨rfl, rfl, rfl, rfl, rfl, rfl, rfl, rfl, rfl, rfl, trivial⟩) (List.Perm.refl _) q
    have D0_3 : P [true, false, false, true, false, false, false, false, false, false, false, false, false] [(218, .agg [.int (f.yes + 1), .os ob css.length cap]), (221, .int f.pend), (2, .op (some r2) 0), (3, .op (some r3) 0), (10, .int f.phase), (11, .int f.pend), (12, .int f.round), (14, .ip [.int (f.yes + 1), .os ob css.length cap]), (28, .os oc (iotaI f.vars.toNat).length cc)] ((⟨oc, 2, cc * 1, ((iotaI f.vars.toNat).map encI).flatten⟩ : Blk) :: (⟨some r3, 86, 2, [.os none 0 0, .os none 0 0]⟩ : Blk) :: (⟨some r2, 82, 2, [.int 0, .os none 0 0]⟩ : Blk) :: XX) := by
      rw [hP]
      refine ja_step (rs := [1, 2, 4]) (by kernel_rfl) (by simp) (fun i hi => ?_)
      simp only [List.mem_cons, List.not_mem_nil, or_false] at hi
      rcases hi with rfl | rfl | rfl
      · refine ⟨_, rfl, ?_⟩
        refine j_op0 rfl rfl rfl rfl ?_
        refine j_nil ⟨rfl, ?_⟩
        have q := D0_1_3
        rw [hP] at q
        exact ja_weak (by exact ⟨rfl, rfl, rfl, rfl, rfl, rfl, rfl, rfl, rfl, rfl, trivial⟩) (List.Perm.refl _) q
      · refine ⟨_, rfl, ?_⟩
        refine j_op0 rfl rfl rfl rfl ?_
        refine j_nil ⟨rfl, ?_⟩
        have q := D0_2_3
        rw [hP] at q
        exact ja_weak (by exact ⟨rfl, rfl, rfl, rfl, rfl, rfl, rfl, rfl, rfl, rfl, trivial⟩) (List.Perm.refl _) q
      · refine ⟨_, rfl, ?_⟩
        refine j_op0 rfl rfl rfl rfl ?_
        refine j_nil ⟨rfl, ?_⟩
        have q := D0_3_4
        rw [hP] at q
        exact ja_weak (by exact ⟨rfl, rfl, rfl, rfl, rfl, rfl, rfl, rfl, rfl, rfl, trivial⟩) (List.Perm.refl _) q
    have D0_2 : P [true, false, true, false, false, false, false, false, false, false, false, false, false] [(218, .agg [.int (f.yes + 1), .os ob css.length cap]), (220, .int f.phase), (2, .op (some r2) 0), (3, .op (some r3) 0), (10, .int f.phase), (11, .int f.pend), (12, .int f.round), (14, .ip [.int (f.yes + 1), .os ob css.length cap]), (28, .os oc (iotaI f.vars.toNat).length cc)] ((⟨oc, 2, cc * 1, ((iotaI f.vars.toNat).map encI).flatten⟩ : Blk) :: (⟨some r3, 86, 2, [.os none 0 0, .os none 0 0]⟩ : Blk) :: (⟨some r2, 82, 2, [.int 0, .os none 0 0]⟩ : Blk) :: XX) := by
      rw [hP]
      refine ja_step (rs := [1, 3, 4]) (by kernel_rfl) (by simp) (fun i hi => ?_)
      simp only [List.mem_cons, List.not_mem_nil, or_false] at hi
      rcases hi with rfl | rfl | rfl
      · refine ⟨_, rfl, ?_⟩
        refine j_op0 rfl rfl rfl rfl ?_
        refine j_nil ⟨rfl, ?_⟩
        have q := D0_1_2
        rw [hP] at q
        exact ja_weak (by exact ⟨rfl, rfl, rfl, rfl, rfl, rfl, rfl, rfl, rfl, rfl, trivial⟩) (List.Perm.refl _) q
      · refine ⟨_, rfl, ?_⟩
        refine j_op0 rfl rfl rfl rfl ?_
        refine j_nil ⟨rfl, ?_⟩
        have q := D0_2_3
        rw [hP] at q
        exact ja_weak (by exact ⟨rfl, rfl, rfl, rfl, rfl, rfl, rfl, rfl, rfl, rfl, trivial⟩) (List.Perm.refl _) q
      · refine ⟨_, rfl, ?_⟩
        refine j_op0 rfl rfl rfl rfl ?_
        refine j_nil ⟨rfl, ?_⟩
        have q := D0_2_4
        rw [hP] at q
        exact ja_weak (by exact ⟨rfl, rfl, rfl, rfl, rfl, rfl, rfl, rfl, rfl, rfl, trivial⟩) (List.Perm.refl _) q
    have D0_4 : P [true, false, false, false, true, false, false, false, false, false, false, false, false] [(218, .agg [.int (f.yes + 1), .os ob css.length cap]), (222, .int f.round), (2, .op (some r2) 0), (3, .op (some r3) 0), (10, .int f.phase), (11, .int f.pend), (12, .int f.round), (14, .ip [.int (f.yes + 1), .os ob css.length cap]), (28, .os oc (iotaI f.vars.toNat).length cc)] ((⟨oc, 2, cc * 1, ((iotaI f.vars.toNat).map encI).flatten⟩ : Blk) :: (⟨some r3, 86, 2, [.os none 0 0, .os none 0 0]⟩ : Blk) :: (⟨some r2, 82, 2, [.int 0, .os none 0 0]⟩ : Blk) :: XX) := by
      rw [hP]
      refine ja_step (rs := [1, 2, 3]) (by kernel_rfl) (by simp) (fun i hi => ?_)
      simp only [List.mem_cons, List.not_mem_nil, or_false] at hi
      rcases hi with rfl | rfl | rfl
      · refine ⟨_, rfl, ?_⟩
        refine j_op0 rfl rfl rfl rfl ?_
        refine j_nil ⟨rfl, ?_⟩
        have q := D0_1_4
        rw [hP] at q
        exact ja_weak (by exact ⟨rfl, rfl, rfl, rfl, rfl, rfl, rfl, rfl, rfl, rfl, trivial⟩) (List.Perm.refl _) q
      · refine ⟨_, rfl, ?_⟩
        refine j_op0 rfl rfl rfl rfl ?_
        refine j_nil ⟨rfl, ?_⟩
        have q := D0_2_4
        rw [hP] at q
        exact ja_weak (by exact ⟨rfl, rfl, rfl, rfl, rfl, rfl, rfl, rfl, rfl, rfl, trivial⟩) (List.Perm.refl _) q
      · refine ⟨_, rfl, ?_⟩
        refine j_op0 rfl rfl rfl rfl ?_
        refine j_nil ⟨rfl, ?_⟩
        have q := D0_3_4
        rw [hP] at q
        exact ja_weak (by exact ⟨rfl, rfl, rfl, rfl, rfl, rfl, rfl, rfl, rfl, rfl, trivial⟩) (List.Perm.refl _) q
    have D2_4 : P [false, false, true, false, true, false, false, false, false, false, false, false, false] [(220, .int f.phase), (222, .int f.round), (2, .op (some r2) 0), (3, .op (some r3) 0), (10, .int f.phase), (11, .int f.pend), (12, .int f.round), (14, .ip [.int (f.yes + 1), .os ob css.length cap]), (28, .os oc (iotaI f.vars.toNat).length cc)] ((⟨oc, 2, cc * 1, ((iotaI f.vars.toNat).map encI).flatten⟩ : Blk) :: (⟨some r3, 86, 2, [.os none 0 0, .os none 0 0]⟩ : Blk) :: (⟨some r2, 82, 2, [.int 0, .os none 0 0]⟩ : Blk) :: XX) := by
      rw [hP]
      refine ja_step (rs := [0, 1, 3]) (by kernel_rfl) (by simp) (fun i hi => ?_)
      simp only [List.mem_cons, List.not_mem_nil, or_false] at hi
      rcases hi with rfl | rfl | rfl
      · refine ⟨_, rfl, ?_⟩
        refine j_op0 rfl rfl rfl rfl ?_
        refine j_nil ⟨rfl, ?_⟩
        have q := D0_2_4
        rw [hP] at q
        exact ja_weak (by exact ⟨rfl, rfl, rfl, rfl, rfl, rfl, rfl, rfl, rfl, rfl, trivial⟩) (List.Perm.refl _) q
      · refine ⟨_, rfl, ?_⟩
        refine j_op0 rfl rfl rfl rfl ?_
        refine j_nil ⟨rfl, ?_⟩
        have q := D1_2_4
        rw [hP] at q
        exact ja_weak (by exact ⟨rfl, rfl, rfl, rfl, rfl, rfl, rfl, rfl, rfl, rfl, trivial⟩) (List.Perm.refl _) q
      · refine ⟨_, rfl, ?_⟩
        refine j_op0 rfl rfl rfl rfl ?_
        refine j_nil ⟨rfl, ?_⟩
        have q := D2_3_4
        rw [hP] at q
        exact ja_weak (by exact ⟨rfl, rfl, rfl, rfl, rfl, rfl, rfl, rfl, rfl, rfl, trivial⟩) (List.Perm.refl _) q
    have D1_3 : P [false, true, false, true, false, false, false, false, false, false, false, false, false] [(219, .os oc (iotaI f.vars.toNat).length cc), (221, .int f.pend), (2, .op (some r2) 0), (3, .op (some r3) 0), (10, .int f.phase), (11, .int f.pend), (12, .int f.round), (14, .ip [.int (f.yes + 1), .os ob css.length cap]), (28, .os oc (iotaI f.vars.toNat).length cc)] ((⟨oc, 2, cc * 1, ((iotaI f.vars.toNat).map encI).flatten⟩ : Blk) :: (⟨some r3, 86, 2, [.os none 0 0, .os none 0 0]⟩ : Blk) :: (⟨some r2, 82, 2, [.int 0, .os none 0 0]⟩ : Blk) :: XX) := by
      rw [hP]
      refine ja_step (rs := [0, 2, 4]) (by kernel_rfl) (by simp) (fun i hi => ?_)
      simp only [List.mem_cons, List.not_mem_nil, or_false] at hi
      rcases hi with rfl | rfl | rfl
      · refine ⟨_, rfl, ?_⟩
        refine j_op0 rfl rfl rfl rfl ?_
        refine j_nil ⟨rfl, ?_⟩
        have q := D0_1_3
        rw [hP] at q
        exact ja_weak (by exact ⟨rfl, rfl, rfl, rfl, rfl, rfl, rfl, rfl, rfl, rfl, trivial⟩) (List.Perm.refl _) q
      · refine ⟨_, rfl, ?_⟩
        refine j_op0 rfl rfl rfl rfl ?_
        refine j_nil ⟨rfl, ?_⟩
        have q := D1_2_3
        rw [hP] at q
        exact ja_weak (by exact ⟨rfl, rfl, rfl, rfl, rfl, rfl, rfl, rfl, rfl, rfl, trivial⟩) (List.Perm.refl _) q
      · refine ⟨_, rfl, ?_⟩
        refine j_op0 rfl rfl rfl rfl ?_
        refine j_nil ⟨rfl, ?_⟩
        have q := D1_3_4
        rw [hP] at q
        exact ja_weak (by exact ⟨rfl, rfl, rfl, rfl, rfl, rfl, rfl, rfl, rfl, rfl, trivial⟩) (List.Perm.refl _) q
    have D0_1 : P [true, true, false, false, false, false, false, false, false, false, false, false, false] [(218, .agg [.int (f.yes + 1), .os ob css.length cap]), (219, .os oc (iotaI f.vars.toNat).length cc), (2, .op (some r2) 0), (3, .op (some r3) 0), (10, .int f.phase), (11, .int f.pend), (12, .int f.round), (14, .ip [.int (f.yes + 1), .os ob css.length cap]), (28, .os oc (iotaI f.vars.toNat).length cc)] ((⟨oc, 2, cc * 1, ((iotaI f.vars.toNat).map encI).flatten⟩ : Blk) :: (⟨some r3, 86, 2, [.os none 0 0, .os none 0 0]⟩ : Blk) :: (⟨some r2, 82, 2, [.int 0, .os none 0 0]⟩ : Blk) :: XX) := by
      rw [hP]
      refine ja_step (rs := [2, 3, 4]) (by kernel_rfl) (by simp) (fun i hi => ?_)
      simp only [List.mem_cons, List.not_mem_nil, or_false] at hi
      rcases hi with rfl | rfl | rfl
      · refine ⟨_, rfl, ?_⟩
        refine j_op0 rfl rfl rfl rfl ?_
        refine j_nil ⟨rfl, ?_⟩
        have q := D0_1_2
        rw [hP] at q
        exact ja_weak (by exact ⟨rfl, rfl, rfl, rfl, rfl, rfl, rfl, rfl, rfl, rfl, trivial⟩) (List.Perm.refl _) q
      · refine ⟨_, rfl, ?_⟩
        refine j_op0 rfl rfl rfl rfl ?_
        refine j_nil ⟨rfl, ?_⟩
        have q := D0_1_3
        rw [hP] at q
        exact ja_weak (by exact ⟨rfl, rfl, rfl, rfl, rfl, rfl, rfl, rfl, rfl, rfl, trivial⟩) (List.Perm.refl _) q
      · refine ⟨_, rfl, ?_⟩
        refine j_op0 rfl rfl rfl rfl ?_
        refine j_nil ⟨rfl, ?_⟩
        have q := D0_1_4
        rw [hP] at q
        exact ja_weak (by exact ⟨rfl, rfl, rfl, rfl, rfl, rfl, rfl, rfl, rfl, rfl, trivial⟩) (List.Perm.refl _) q
    have D1_2 : P [false, true, true, false, false, false, false, false, false, false, false, false, false] [(219, .os oc (iotaI f.vars.toNat).length cc), (220, .int f.phase), (2, .op (some r2) 0), (3, .op (some r3) 0), (10, .int f.phase), (11, .int f.pend), (12, .int f.round), (14, .ip [.int (f.yes + 1), .os ob css.length cap]), (28, .os oc (iotaI f.vars.toNat).length cc)] ((⟨oc, 2, cc * 1, ((iotaI f.vars.toNat).map encI).flatten⟩ : Blk) :: (⟨some r3, 86, 2, [.os none 0 0, .os none 0 0]⟩ : Blk) :: (⟨some r2, 82, 2, [.int 0, .os none 0 0]⟩ : Blk) :: XX) := by
      rw [hP]
      refine ja_step (rs := [0, 3, 4]) (by kernel_rfl) (by simp) (fun i hi => ?_)
      simp only [List.mem_cons, List.not_mem_nil, or_false] at hi
      rcases hi with rfl | rfl | rfl
      · refine ⟨_, rfl, ?_⟩
        refine j_op0 rfl rfl rfl rfl ?_
        refine j_nil ⟨rfl, ?_⟩
        have q := D0_1_2
        rw [hP] at q
        exact ja_weak (by exact ⟨rfl, rfl, rfl, rfl, rfl, rfl, rfl, rfl, rfl, rfl, trivial⟩) (List.Perm.refl _) q
      · refine ⟨_, rfl, ?_⟩
        refine j_op0 rfl rfl rfl rfl ?_
        refine j_nil ⟨rfl, ?_⟩
        have q := D1_2_3
        rw [hP] at q
        exact ja_weak (by exact ⟨rfl, rfl, rfl, rfl, rfl, rfl, rfl, rfl, rfl, rfl, trivial⟩) (List.Perm.refl _) q
      · refine ⟨_, rfl, ?_⟩
        refine j_op0 rfl rfl rfl rfl ?_
        refine j_nil ⟨rfl, ?_⟩
        have q := D1_2_4
        rw [hP] at q
        exact ja_weak (by exact ⟨rfl, rfl, rfl, rfl, rfl, rfl, rfl, rfl, rfl, rfl, trivial⟩) (List.Perm.refl _) q
    have D1 : P [false, true, false, false, false, false, false, false, false, false, false, false, false] [(219, .os oc (iotaI f.vars.toNat).length cc), (2, .op (some r2) 0), (3, .op (some r3) 0), (10, .int f.phase), (11, .int f.pend), (12, .int f.round), (14, .ip [.int (f.yes + 1), .os ob css.length cap]), (28, .os oc (iotaI f.vars.toNat).length cc)] ((⟨oc, 2, cc * 1, ((iotaI f.vars.toNat).map encI).flatten⟩ : Blk) :: (⟨some r3, 86, 2, [.os none 0 0, .os none 0 0]⟩ : Blk) :: (⟨some r2, 82, 2, [.int 0, .os none 0 0]⟩ : Blk) :: XX) := by
      rw [hP]
      refine ja_step (rs := [0, 2, 3, 4]) (by kernel_rfl) (by simp) (fun i hi => ?_)
      simp only [List.mem_cons, List.not_mem_nil, or_false] at hi
      rcases hi with rfl | rfl | rfl | rfl
      · refine ⟨_, rfl, ?_⟩
        refine j_op0 rfl rfl rfl rfl ?_
        refine j_nil ⟨rfl, ?_⟩
        have q := D0_1
        rw [hP] at q
        exact ja_weak (by exact ⟨rfl, rfl, rfl, rfl, rfl, rfl, rfl, rfl, rfl, trivial⟩) (List.Perm.refl _) q
      · refine ⟨_, rfl, ?_⟩
        refine j_op0 rfl rfl rfl rfl ?_
        refine j_nil ⟨rfl, ?_⟩
        have q := D1_2
        rw [hP] at q
        exact ja_weak (by exact ⟨rfl, rfl, rfl, rfl, rfl, rfl, rfl, rfl, rfl, trivial⟩) (List.Perm.refl _) q
      · refine ⟨_, rfl, ?_⟩
        refine j_op0 rfl rfl rfl rfl ?_
        refine j_nil ⟨rfl, ?_⟩
        have q := D1_3
        rw [hP] at q
        exact ja_weak (by exact ⟨rfl, rfl, rfl, rfl, rfl, rfl, rfl, rfl, rfl, trivial⟩) (List.Perm.refl _) q
      · refine ⟨_, rfl, ?_⟩
        refine j_op0 rfl rfl rfl rfl ?_
        refine j_nil ⟨rfl, ?_⟩
        have q := D1_4
        rw [hP] at q
        exact ja_weak (by exact ⟨rfl, rfl, rfl, rfl, rfl, rfl, rfl, rfl, rfl, trivial⟩) (List.Perm.refl _) q
    have D4 : P [false, false, false, false, true, false, false, false, false, false, false, false, false] [(222, .int f.round), (2, .op (some r2) 0), (3, .op (some r3) 0), (10, .int f.phase), (11, .int f.pend), (12, .int f.round), (14, .ip [.int (f.yes + 1), .os ob css.length cap]), (28, .os oc (iotaI f.vars.toNat).length cc)] ((⟨oc, 2, cc * 1, ((iotaI f.vars.toNat).map encI).flatten⟩ : Blk) :: (⟨some r3, 86, 2, [.os none 0 0, .os none 0 0]⟩ : Blk) :: (⟨some r2, 82, 2, [.int 0, .os none 0 0]⟩ : Blk) :: XX) := by
      rw [hP]
      refine ja_step (rs := [0, 1, 2, 3]) (by kernel_rfl) (by simp) (fun i hi => ?_)
      simp only [List.mem_cons, List.not_mem_nil, or_false] at hi
      rcases hi with rfl | rfl | rfl | rfl
      · refine ⟨_, rfl, ?_⟩
        refine j_op0 rfl rfl rfl rfl ?_
        refine j_nil ⟨rfl, ?_⟩
        have q := D0_4
        rw [hP] at q
        exact ja_weak (by exact ⟨rfl, rfl, rfl, rfl, rfl, rfl, rfl, rfl, rfl, trivial⟩) (List.Perm.refl _) q
      · refine ⟨_, rfl, ?_⟩
        refine j_op0 rfl rfl rfl rfl ?_
        refine j_nil ⟨rfl, ?_⟩
        have q := D1_4
        rw [hP] at q
        exact ja_weak (by exact ⟨rfl, rfl, rfl, rfl, rfl, rfl, rfl, rfl, rfl, trivial⟩) (List.Perm.refl _) q
      · refine ⟨_, rfl, ?_⟩
        refine j_op0 rfl rfl rfl rfl ?_
        refine j_nil ⟨rfl, ?_⟩
        have q := D2_4
        rw [hP] at q
        exact ja_weak (by exact ⟨rfl, rfl, rfl, rfl, rfl, rfl, rfl, rfl, rfl, trivial⟩) (List.Perm.refl _) q
      · refine ⟨_, rfl, ?_⟩
        refine j_op0 rfl rfl rfl rfl ?_
        refine j_nil ⟨rfl, ?_⟩
        have q := D3_4
        rw [hP] at q
        exact ja_weak (by exact ⟨rfl, rfl, rfl, rfl, rfl, rfl, rfl, rfl, rfl, trivial⟩) (List.Perm.refl _) q
    have D2 : P [false, false, true, false, false, false, false, false, false, false, false, false, false] [(220, .int f.phase), (2, .op (some r2) 0), (3, .op (some r3) 0), (10, .int f.phase), (11, .int f.pend), (12, .int f.round), (14, .ip [.int (f.yes + 1), .os ob css.length cap]), (28, .os oc (iotaI f.vars.toNat).length cc)] ((⟨oc, 2, cc * 1, ((iotaI f.vars.toNat).map encI).flatten⟩ : Blk) :: (⟨some r3, 86, 2, [.os none 0 0, .os none 0 0]⟩ : Blk) :: (⟨some r2, 82, 2, [.int 0, .os none 0 0]⟩ : Blk) :: XX) := by
      rw [hP]
      refine ja_step (rs := [0, 1, 3, 4]) (by kernel_rfl) (by simp) (fun i hi => ?_)
      simp only [List.mem_cons, List.not_mem_nil, or_false] at hi
      rcases hi with rfl | rfl | rfl | rfl
      · refine ⟨_, rfl, ?_⟩
        refine j_op0 rfl rfl rfl rfl ?_
        refine j_nil ⟨rfl, ?_⟩
        have q := D0_2
        rw [hP] at q
        exact ja_weak (by exact ⟨rfl, rfl, rfl, rfl, rfl, rfl, rfl, rfl, rfl, trivial⟩) (List.Perm.refl _) q
      · refine ⟨_, rfl, ?_⟩
        refine j_op0 rfl rfl rfl rfl ?_
        refine j_nil ⟨rfl, ?_⟩
        have q := D1_2
        rw [hP] at q
        exact ja_weak (by exact ⟨rfl, rfl, rfl, rfl, rfl, rfl, rfl, rfl, rfl, trivial⟩) (List.Perm.refl _) q
      · refine ⟨_, rfl, ?_⟩
        refine j_op0 rfl rfl rfl rfl ?_
        refine j_nil ⟨rfl, ?_⟩
        have q := D2_3
        rw [hP] at q
        exact ja_weak (by exact ⟨rfl, rfl, rfl, rfl, rfl, rfl, rfl, rfl, rfl, trivial⟩) (List.Perm.refl _) q
      · refine ⟨_, rfl, ?_⟩
        refine j_op0 rfl rfl rfl rfl ?_
        refine j_nil ⟨rfl, ?_⟩
        have q := D2_4
        rw [hP] at q
        exact ja_weak (by exact ⟨rfl, rfl, rfl, rfl, rfl, rfl, rfl, rfl, rfl, trivial⟩) (List.Perm.refl _) q
    have D3 : P [false, false, false, true, false, false, false, false, false, false, false, false, false] [(221, .int f.pend), (2, .op (some r2) 0), (3, .op (some r3) 0), (10, .int f.phase), (11, .int f.pend), (12, .int f.round), (14, .ip [.int (f.yes + 1), .os ob css.length cap]), (28, .os oc (iotaI f.vars.toNat).length cc)] ((⟨oc, 2, cc * 1, ((iotaI f.vars.toNat).map encI).flatten⟩ : Blk) :: (⟨some r3, 86, 2, [.os none 0 0, .os none 0 0]⟩ : Blk) :: (⟨some r2, 82, 2, [.int 0, .os none 0 0]⟩ : Blk) :: XX) := by
      rw [hP]
      refine ja_step (rs := [0, 1, 2, 4]) (by kernel_rfl) (by simp) (fun i hi => ?_)
      simp only [List.mem_cons, List.not_mem_nil, or_false] at hi
      rcases hi with rfl | rfl | rfl | rfl
      · refine ⟨_, rfl, ?_⟩
        refine j_op0 rfl rfl rfl rfl ?_
        refine j_nil ⟨rfl, ?_⟩
        have q := D0_3
        rw [hP] at q
        exact ja_weak (by exact ⟨rfl, rfl, rfl, rfl, rfl, rfl, rfl, rfl, rfl, trivial⟩) (List.Perm.refl _) q
      · refine ⟨_, rfl, ?_⟩
        refine j_op0 rfl rfl rfl rfl ?_
        refine j_nil ⟨rfl, ?_⟩
        have q := D1_3
        rw [hP] at q
        exact ja_weak (by exact ⟨rfl, rfl, rfl, rfl, rfl, rfl, rfl, rfl, rfl, trivial⟩) (List.Perm.refl _) q
      · refine ⟨_, rfl, ?_⟩
        refine j_op0 rfl rfl rfl rfl ?_
        refine j_nil ⟨rfl, ?_⟩
        have q := D2_3
        rw [hP] at q
        exact ja_weak (by exact ⟨rfl, rfl, rfl, rfl, rfl, rfl, rfl, rfl, rfl, trivial⟩) (List.Perm.refl _) q
      · refine ⟨_, rfl, ?_⟩
        refine j_op0 rfl rfl rfl rfl ?_
        refine j_nil ⟨rfl, ?_⟩
        have q := D3_4
        rw [hP] at q
        exact ja_weak (by exact ⟨rfl, rfl, rfl, rfl, rfl, rfl, rfl, rfl, rfl, trivial⟩) (List.Perm.refl _) q
    have D0 : P [true, false, false, false, false, false, false, false, false, false, false, false, false] [(218, .agg [.int (f.yes + 1), .os ob css.length cap]), (2, .op (some r2) 0), (3, .op (some r3) 0), (10, .int f.phase), (11, .int f.pend), (12, .int f.round), (14, .ip [.int (f.yes + 1), .os ob css.length cap]), (28, .os oc (iotaI f.vars.toNat).length cc)] ((⟨oc, 2, cc * 1, ((iotaI f.vars.toNat).map encI).flatten⟩ : Blk) :: (⟨some r3, 86, 2, [.os none 0 0, .os none 0 0]⟩ : Blk) :: (⟨some r2, 82, 2, [.int 0, .os none 0 0]⟩ : Blk) :: XX) := by
      rw [hP]
      refine ja_step (rs := [1, 2, 3, 4]) (by kernel_rfl) (by simp) (fun i hi => ?_)
      simp only [List.mem_cons, List.not_mem_nil, or_false] at hi
      rcases hi with rfl | rfl | rfl | rfl
      · refine ⟨_, rfl, ?_⟩
        refine j_op0 rfl rfl rfl rfl ?_
        refine j_nil ⟨rfl, ?_⟩
        have q := D0_1
        rw [hP] at q
        exact ja_weak (by exact ⟨rfl, rfl, rfl, rfl, rfl, rfl, rfl, rfl, rfl, trivial⟩) (List.Perm.refl _) q
      · refine ⟨_, rfl, ?_⟩
        refine j_op0 rfl rfl rfl rfl ?_
        refine j_nil ⟨rfl, ?_⟩
        have q := D0_2
        rw [hP] at q
        exact ja_weak (by exact ⟨rfl, rfl, rfl, rfl, rfl, rfl, rfl, rfl, rfl, trivial⟩) (List.Perm.refl _) q
      · refine ⟨_, rfl, ?_⟩
        refine j_op0 rfl rfl rfl rfl ?_
        refine j_nil ⟨rfl, ?_⟩
        have q := D0_3
        rw [hP] at q
        exact ja_weak (by exact ⟨rfl, rfl, rfl, rfl, rfl, rfl, rfl, rfl, rfl, trivial⟩) (List.Perm.refl _) q
      · refine ⟨_, rfl, ?_⟩
        refine j_op0 rfl rfl rfl rfl ?_
        refine j_nil ⟨rfl, ?_⟩
        have q := D0_4
        rw [hP] at q
        exact ja_weak (by exact ⟨rfl, rfl, rfl, rfl, rfl, rfl, rfl, rfl, rfl, trivial⟩) (List.Perm.refl _) q
    have D : P [false, false, false, false, false, false, false, false, false, false, false, false, false] [(2, .op (some r2) 0), (3, .op (some r3) 0), (10, .int f.phase), (11, .int f.pend), (12, .int f.round), (14, .ip [.int (f.yes + 1), .os ob css.length cap]), (28, .os oc (iotaI f.vars.toNat).length cc)] ((⟨oc, 2, cc * 1, ((iotaI f.vars.toNat).map encI).flatten⟩ : Blk) :: (⟨some r3, 86, 2, [.os none 0 0, .os none 0 0]⟩ : Blk) :: (⟨some r2, 82, 2, [.int 0, .os none 0 0]⟩ : Blk) :: XX) := by
      rw [hP]
      refine ja_step (rs := [0, 1, 2, 3, 4]) (by kernel_rfl) (by simp) (fun i hi => ?_)
      simp only [List.mem_cons, List.not_mem_nil, or_false] at hi
      rcases hi with rfl | rfl | rfl | rfl | rfl
      · refine ⟨_, rfl, ?_⟩
        refine j_op0 rfl rfl rfl rfl ?_
        refine j_nil ⟨rfl, ?_⟩
        have q := D0
        rw [hP] at q
        exact ja_weak (by exact ⟨rfl, rfl, rfl, rfl, rfl, rfl, rfl, rfl, trivial⟩) (List.Perm.refl _) q
      · refine ⟨_, rfl, ?_⟩
        refine j_op0 rfl rfl rfl rfl ?_
        refine j_nil ⟨rfl, ?_⟩
        have q := D1
        rw [hP] at q
        exact ja_weak (by exact ⟨rfl, rfl, rfl, rfl, rfl, rfl, rfl, rfl, trivial⟩) (List.Perm.refl _) q
      · refine ⟨_, rfl, ?_⟩
        refine j_op0 rfl rfl rfl rfl ?_
        refine j_nil ⟨rfl, ?_⟩
        have q := D2
        rw [hP] at q
        exact ja_weak (by exact ⟨rfl, rfl, rfl, rfl, rfl, rfl, rfl, rfl, trivial⟩) (List.Perm.refl _) q
      · refine ⟨_, rfl, ?_⟩
        refine j_op0 rfl rfl rfl rfl ?_
        refine j_nil ⟨rfl, ?_⟩
        have q := D3
        rw [hP] at q
        exact ja_weak (by exact ⟨rfl, rfl, rfl, rfl, rfl, rfl, rfl, rfl, trivial⟩) (List.Perm.refl _) q
      · refine ⟨_, rfl, ?_⟩
        refine j_op0 rfl rfl rfl rfl ?_
        refine j_nil ⟨rfl, ?_⟩
        have q := D4
        rw [hP] at q
        exact ja_weak (by exact ⟨rfl, rfl, rfl, rfl, rfl, rfl, rfl, rfl, trivial⟩) (List.Perm.refl _) q
    exact D
end Go.Proofs.Ytgjlemedckhlfaa
