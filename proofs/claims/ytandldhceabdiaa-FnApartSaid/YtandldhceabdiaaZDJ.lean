/-
  Steps: the program's list of applicable rules; IsHalted. No condition.
-/
import Derived.Test.YtandldhceabdiaaZS3b
import Derived.Test.YtandldhceabdiaaZS2d
import Derived.Test.YtandldhceabdiaaZJO
import Derived.Test.YtandldhceabdiaaZG2
import Derived.Test.YtandldhceabdiaaZFE
import Derived.Test.YtandldhceabdiaaZDI
namespace Go.Proofs.Ytandldhceabdiaa
open Go.AI
set_option maxRecDepth 8000
set_option maxHeartbeats 1600000

theorem rep_set {α : Type} {a z : α} {m k : Nat} (hk : k < m) : (List.replicate k a ++ List.replicate (m - k) z).set k a = List.replicate (k + 1) a ++ List.replicate (m - (k + 1)) z := by
  have e : m - k = (m - (k + 1)) + 1 := by omega
  rw [e, List.replicate_succ, List.set_append_right _ _ (by simp), List.length_replicate, Nat.sub_self, List.set_cons_zero, List.replicate_succ' (n := k), List.append_assoc]
  rfl

noncomputable def idxL (s : System) (t : State) (k : Nat) : List Int := ((List.range k).filter (fun i => dec (∃ h : i < s.rules.length, App s t s.rules[i]))).map (fun i : Nat => (i : Int))
theorem idxL_yes {s : System} {t : State} {k : Nat} (hk : k < s.rules.length) (ha : App s t s.rules[k]) : idxL s t k ++ [(k : Int)] = idxL s t (k + 1) := by
  unfold idxL
  rw [List.range_succ, List.filter_append, List.map_append, List.filter_cons_of_pos (by exact dec_t ⟨hk, ha⟩)]
  rfl
theorem idxL_no {s : System} {t : State} {k : Nat} (hk : k < s.rules.length) (ha : ¬ App s t s.rules[k]) : idxL s t k = idxL s t (k + 1) := by
  unfold idxL
  rw [List.range_succ, List.filter_append, List.map_append, List.filter_cons_of_neg (by rw [dec_f (fun ⟨_, q⟩ => ha q)]; simp)]
  simp
theorem idxL_len (s : System) (t : State) (k : Nat) : (idxL s t k).length ≤ k := by
  unfold idxL
  rw [List.length_map]
  exact Nat.le_trans (List.length_filter_le _ _) (by simp)
theorem idxL_mem {s : System} {t : State} {k : Nat} {x : Int} : x ∈ idxL s t k ↔ ∃ i : Nat, x = (i : Int) ∧ i < k ∧ ∃ h : i < s.rules.length, App s t s.rules[i] := by
  unfold idxL
  simp only [List.mem_map, List.mem_filter, List.mem_range]
  constructor
  · rintro ⟨i, ⟨h1, h2⟩, rfl⟩
    exact ⟨i, rfl, h1, dec_iff.1 h2⟩
  · rintro ⟨i, rfl, h1, h2⟩
    exact ⟨i, ⟨h1, dec_iff.2 h2⟩, rfl⟩

theorem c_applicable (s : System) (t : State) (hv : s.Ok) (ht : s.StateOk t) : Gives Try.prog 136 [.agg (encSystem s), .agg (encState t)] (.sl ((idxL s t s.rules.length).map Go.AI.encI)) := by
  refine fn_of_run tyOk ztOk mix Try.func136 rfl (by decide) Try.ntmps136 (fun w0 h => ?_)
  have hl := hv.1.2.1
  have h16 := hv.2.1
  repeat' (first
      | (refine j_go ?_; first
        | refine j_op0 rfl rfl rfl rfl ?_ | (refine j_kStore rfl ?_; first | refine j_storeN 0 rfl rfl rfl rfl rfl rfl rfl rfl rfl rfl rfl ?_) | refine j_box rfl rfl rfl rfl rfl rfl ?_ | refine j_buildA rfl rfl rfl rfl rfl rfl rfl ?_ | refine j_alloc rfl rfl rfl rfl rfl (fun _ => ?_))
      | refine j_nil ?_
      | (refine r_go ?_; first | refine run_seq ?_ | refine run_region ?_ | refine run_block ?_)
      | refine seqQ_normal ?_)
  rename_i b
  refine run_loop (fun k : Nat => [(2, .ip (encSystem s)), (3, .ip (encState t)), (5, .op (some b) 0), (13, .int (k : Int))]) (fun k => ⟨some b, 241, 6, ((List.replicate k (-1) ++ List.replicate (6 - k) 0).map Go.AI.encI).flatten⟩ :: h)
    (fun k => k ≤ 6) (fun k => 6 - k) 0 ⟨rfl, rfl, rfl, rfl, trivial⟩ rfl (by omega) (fun k kl => ?_)
  by_cases hk : k < 6
  · repeat' (first
      | (refine j_go ?_; first
        | refine j_op0 rfl rfl rfl rfl ?_ | (refine j_kIdx rfl ?_; first | refine j_aidx rfl rfl rfl rfl rfl (by omega) rfl rfl ?_))
      | refine j_nil ?_
      | (refine r_go ?_; first | refine run_seq ?_ | refine run_region ?_ | (refine (run_if rfl (fun hb => ?_) (fun hb => ?_)) <;> first | (exfalso; omega) | skip) | refine run_block ?_ | refine run_skip ?_)
      | refine seqQ_normal ?_)
    refine j_storeE 0 k (g := Go.AI.encI) (-1) rfl rfl rfl rfl rfl rfl rfl rfl rfl (fun _ => rfl) (by omega) (by simp; omega) ?_
    rw [rep_set hk]
    repeat' (first
      | (refine j_go ?_; first
        | refine j_op0 rfl rfl rfl rfl ?_ | (refine j_kBin rfl ?_; first | refine j_in rfl rfl ⟨by omega, by omega⟩ rfl rfl ?_))
      | refine j_nil ?_
      | (refine r_go ?_; first | refine run_region ?_)
      | refine seqQ_normal ?_ | refine blockQ_normal ?_)
    exact loopQ_next (k + 1) (by omega) (by omega) rfl ⟨rfl, rfl, rfl, nx _, trivial⟩
  have hk6 : k = 6 := by omega
  subst hk6
  repeat' (first
      | (refine j_go ?_; first
        | refine j_op0 rfl rfl rfl rfl ?_ | (refine j_kLen rfl ?_; first | refine j_len rfl rfl rfl rfl rfl rfl ?_))
      | refine j_nil ?_
      | (refine r_go ?_; first | refine run_seq ?_ | refine run_region ?_ | (refine (run_if rfl (fun hb => ?_) (fun hb => ?_)) <;> first | (exfalso; omega) | skip) | refine run_block ?_ | refine run_exit ?_)
      | refine seqQ_normal ?_ | refine seqQ_exit ?_ | refine blockQ_eq ?_ | refine loopQ_exit ?_)
  refine run_loop (fun k : Nat => [(2, .ip (encSystem s)), (3, .ip (encState t)), (5, .op (some b) 0), (20, .sl (s.rules.map encRule)), (21, .int s.rules.length), (22, .int (k : Int))]) (fun k => ⟨some b, 241, 6, ((bstL 6 (-1) (EnP s t) (s.rules.take k)).map Go.AI.encI).flatten⟩ :: h)
    (fun k => k ≤ s.rules.length) (fun k => s.rules.length - k) 0 ⟨rfl, rfl, rfl, rfl, rfl, rfl, trivial⟩ (by rw [List.take_zero, bstL_nil]; rfl) (by omega) (fun k kl => ?_)
  by_cases hk : k < s.rules.length
  · have hr := (hv.2.2 k hk).1
    have hc := hr.1
    have hcm : s.rules[k].cell = ((s.rules[k].cell.toNat : Nat) : Int) := by omega
    have hg : (bstL 6 (-1) (EnP s t) (s.rules.take k))[s.rules[k].cell.toNat]'(by rw [bstL_len]; omega) = bst (-1) (EnP s t) ((s.rules[k].cell.toNat : Nat) : Int) (s.rules.take k) := bstL_get _
    repeat' (first
      | (refine j_go ?_; first
        | refine j_op0 rfl rfl rfl rfl ?_ | (refine j_kIdx rfl ?_; first | refine j_idx rfl rfl rfl rfl rfl (by omega) rfl rfl rfl ?_) | (refine j_kBin rfl ?_; first | refine j_in rfl rfl ⟨by omega, by omega⟩ rfl rfl ?_) | (refine j_kCall rfl rfl rfl rfl ?_; first | refine jc (c_isEnabled _ _ _ hv ht hr) (LeL.refl _) rfl rfl ?_) | (refine j_kLoad rfl ?_; first | refine j_mload 0 rfl rfl rfl rfl rfl rfl rfl ?_) | (refine j_kStore rfl ?_; first | refine j_storeN 0 rfl rfl rfl rfl rfl rfl rfl rfl rfl rfl rfl ?_) | refine j_alloc rfl rfl rfl rfl rfl (fun _ => ?_))
      | refine j_nil ?_
      | (refine j_goO ?_; first
        | refine j_op0O rfl rfl rfl rfl ?_ | (refine j_kIdxO rfl ?_; first | refine j_aidxzO rfl rfl rfl rfl rfl (by omega) rfl rfl ?_) | (refine j_kLoadO rfl ?_; first | refine j_mloadO 0 rfl rfl rfl rfl rfl rfl rfl rfl ?_))
      | (refine r_go ?_; first | refine run_seq ?_ | refine run_region ?_ | (refine (run_if rfl (fun hb => ?_) (fun hb => ?_)) <;> first | (exfalso; omega) | skip) | refine run_block ?_ | refine run_skip ?_ | refine run_opn 11 [⟨0, true, false, 0⟩, ⟨1, true, false, 0⟩, ⟨2, true, false, 0⟩, ⟨3, true, false, 0⟩, ⟨4, true, false, 0⟩, ⟨5, true, false, 0⟩, ⟨6, true, false, 0⟩, ⟨7, true, false, 0⟩, ⟨8, true, false, 0⟩, ⟨9, true, false, 0⟩, ⟨10, false, true, 0⟩] rfl rfl (by kernel_rfl) ?_)
      | refine seqQ_normal ?_ | refine blockQ_normal ?_)
    · refine j_mloadEO 1 s.rules[k].cell.toNat (g := Go.AI.encI) (L := bstL 6 (-1) (EnP s t) (s.rules.take k)) (z := 1) rfl rfl rfl rfl rfl (fun _ => rfl) (by omega) (by rw [bstL_len]; omega) (fun _ => rfl) rfl rfl ?_
      rw [hg]
      repeat' (first
      | (refine j_goO ?_; first
        | refine j_op0O rfl rfl rfl rfl ?_ | (refine j_kIdxO rfl ?_; first | refine j_aidxzO rfl rfl rfl rfl rfl (by omega) rfl rfl ?_) | (refine j_kLoadO rfl ?_; first | refine j_mloadO 0 rfl rfl rfl rfl rfl rfl rfl rfl ?_)))
      refine j_storeEO 1 s.rules[k].cell.toNat (g := Go.AI.encI) (max (bst (-1) (EnP s t) ((s.rules[k].cell.toNat : Nat) : Int) (s.rules.take k)) s.rules[k].rank) rfl rfl rfl rfl rfl rfl rfl rfl rfl rfl (fun _ => rfl) (by omega) (by rw [bstL_len]; omega) (fun _ hk => nomatch hk) ?_
      rw [bstL_set hk hcm (by omega) (by assumption) rfl]
      repeat' (first
      | (refine j_go ?_; first
        | refine j_op0 rfl rfl rfl rfl ?_ | (refine j_kBin rfl ?_; first | refine j_in rfl rfl ⟨by omega, by omega⟩ rfl rfl ?_))
      | refine j_nil ?_
      | refine j_nilO ?_
      | (refine r_go ?_; first | refine run_region ?_)
      | refine seqQ_normal ?_ | refine blockQ_normal ?_)
      exact loopQ_nextD (k + 1) (by omega) (by omega) (List.sublist_cons_self _ _) ⟨rfl, rfl, rfl, rfl, rfl, nx _, trivial⟩
    · exact loopQ_nextD (k + 1) (by omega) (by omega) (by rw [bstL_skip hk (by assumption)]; exact List.sublist_cons_self _ _) ⟨rfl, rfl, rfl, rfl, rfl, nx _, trivial⟩
  have hke : k = s.rules.length := by omega
  subst hke
  repeat' (first
      | (refine j_go ?_; first
        | refine j_op0 rfl rfl rfl rfl ?_ | (refine j_kLen rfl ?_; first | refine j_len rfl rfl rfl rfl rfl rfl ?_) | (refine j_kBsl rfl ?_; first | refine j_bs0 rfl rfl rfl rfl rfl rfl ?_))
      | refine j_nil ?_
      | (refine r_go ?_; first | refine run_seq ?_ | refine run_region ?_ | (refine (run_if rfl (fun hb => ?_) (fun hb => ?_)) <;> first | (exfalso; omega) | skip) | refine run_block ?_ | refine run_exit ?_)
      | refine seqQ_normal ?_ | refine seqQ_exit ?_ | refine blockQ_eq ?_ | refine loopQ_exit ?_)
  refine run_view (view_none 2 0 rfl) ?_
  refine run_loop (fun x : Nat × Option Nat × Nat => [(2, .ip (encSystem s)), (3, .ip (encState t)), (5, .op (some b) 0), (43, .sl (s.rules.map encRule)), (44, .int s.rules.length), (9, .os x.2.1 (idxL s t x.1).length x.2.2), (45, .int (x.1 : Int))]) (fun x => ⟨x.2.1, 2, x.2.2 * 1, ((idxL s t x.1).map Go.AI.encI).flatten⟩ :: ⟨some b, 241, 6, ((bstL 6 (-1) (EnP s t) (s.rules.take s.rules.length)).map Go.AI.encI).flatten⟩ :: h)
    (fun x => x.1 ≤ s.rules.length) (fun x => s.rules.length - x.1) (0, none, 0) ⟨rfl, rfl, rfl, rfl, rfl, rfl, rfl, trivial⟩ rfl (Nat.zero_le _) (fun ⟨k, ob, cp⟩ kl => ?_)
  dsimp only at kl ⊢
  have il := idxL_len s t k
  by_cases hk : k < s.rules.length
  · have hr := (hv.2.2 k hk).1
    have hc := hr.1
    have hcm : s.rules[k].cell = ((s.rules[k].cell.toNat : Nat) : Int) := by omega
    have hg : (bstL 6 (-1) (EnP s t) (s.rules.take s.rules.length))[s.rules[k].cell.toNat]'(by rw [bstL_len]; omega) = bst (-1) (EnP s t) s.rules[k].cell s.rules := by rw [bstL_get, ← hcm, List.take_length]
    have hm : s.rules[k] ∈ s.rules := List.getElem_mem hk
    repeat' (first
      | (refine j_go ?_; first
        | refine j_op0 rfl rfl rfl rfl ?_ | (refine j_kIdx rfl ?_; first | refine j_idx rfl rfl rfl rfl rfl (by omega) rfl rfl rfl ?_ | refine j_aidxz rfl rfl rfl rfl rfl (by omega) rfl rfl ?_) | (refine j_kLoad rfl ?_; first | refine j_mload 0 rfl rfl rfl rfl rfl rfl rfl ?_) | (refine j_kStore rfl ?_; first | refine j_storeN 0 rfl rfl rfl rfl rfl rfl rfl rfl rfl rfl rfl ?_) | refine j_alloc rfl rfl rfl rfl rfl (fun _ => ?_))
      | refine j_nil ?_
      | (refine r_go ?_; first | refine run_seq ?_ | refine run_region ?_ | (refine (run_if rfl (fun hb => ?_) (fun hb => ?_)) <;> first | (exfalso; omega) | skip) | refine run_block ?_ | refine run_skip ?_ | refine run_regionD (by kernel_rfl) ?_)
      | refine seqQ_normal ?_)
    refine j_mloadE 2 s.rules[k].cell.toNat (g := Go.AI.encI) (L := bstL 6 (-1) (EnP s t) (s.rules.take s.rules.length)) (z := 1) rfl rfl rfl rfl (fun _ => rfl) (by omega) (by rw [bstL_len]; omega) (fun _ => rfl) rfl rfl ?_
    rw [hg]
    repeat' (first
      | (refine j_go ?_; first
        | refine j_op0 rfl rfl rfl rfl ?_ | refine j_off rfl rfl rfl ?_ | (refine j_kBin rfl ?_; first | refine j_in rfl rfl ⟨by omega, by omega⟩ rfl rfl ?_) | (refine j_kCall rfl rfl rfl rfl ?_; first | refine jc (c_isEnabled _ _ _ hv ht hr) (LeL.refl _) rfl rfl ?_) | (refine j_kLoad rfl ?_; first | refine j_mload 0 rfl rfl rfl rfl rfl rfl rfl ?_) | (refine j_kBsl rfl ?_; first | refine j_bsl rfl rfl rfl rfl rfl rfl rfl rfl rfl rfl rfl ?_) | (refine j_kGuard rfl ?_; first | (refine (j_if rfl rfl rfl (fun hb => ?_) (fun hb => ?_)) <;> first | (exfalso; omega) | skip)))
      | refine j_nil ?_
      | (refine r_go ?_; first | refine run_region ?_ | refine run_cond_f rfl ?_ | (refine (run_if rfl (fun hb => ?_) (fun hb => ?_)) <;> first | (exfalso; omega) | skip) | refine run_skip ?_)
      | refine seqQ_normal ?_ | refine blockQ_normal ?_)
    · have ha : App s t s.rules[k] := (app_iff (init := -1) (by omega) hv.ranks hm (by assumption)).1 (by assumption)
      refine j_append 1 (g := Go.AI.encI) [(k : Int)] rfl rfl rfl rfl rfl rfl rfl rfl rfl rfl rfl rfl (fun _ => rfl) (fun _ _ => rfl) ⟨by simp only [List.length_cons, List.length_nil]; omega, by simp only [List.length_cons, List.length_nil]; omega⟩ rfl rfl (fun b' cap' => ?_)
      rw [idxL_yes hk ha]
      repeat' (first
      | (refine j_go ?_; first
        | refine j_op0 rfl rfl rfl rfl ?_ | (refine j_kBin rfl ?_; first | refine j_in rfl rfl ⟨by omega, by omega⟩ rfl rfl ?_))
      | refine j_nil ?_
      | (refine r_go ?_; first | refine run_region ?_)
      | refine seqQ_normal ?_ | refine blockQ_normal ?_)
      exact loopQ_nextD (k + 1, b', cap') (by dsimp only; omega) (by dsimp only; omega) (List.sublist_cons_self _ _) ⟨rfl, rfl, rfl, rfl, rfl, rfl, nx _, trivial⟩
    all_goals
      have ha : ¬ App s t s.rules[k] := by first | exact (fun q => absurd q.1 (by assumption)) | exact (fun q => absurd ((app_iff (init := -1) (by omega) hv.ranks hm q.1).2 q) (by assumption))
      exact loopQ_nextD (k + 1, ob, cp) (by dsimp only; omega) (by dsimp only; omega) (by dsimp only; rw [← idxL_no hk ha]; exact List.sublist_cons_self _ _) ⟨rfl, rfl, rfl, rfl, rfl, (by dsimp only; rw [← idxL_no hk ha]; rfl), nx _, trivial⟩
  · have hke : k = s.rules.length := by omega
    subst hke
    repeat' (first
      | (refine j_go ?_; first
        | refine j_op0 rfl rfl rfl rfl ?_)
      | refine j_nil ?_
      | (refine r_go ?_; first | refine run_seq ?_ | refine run_region ?_ | (refine (run_if rfl (fun hb => ?_) (fun hb => ?_)) <;> first | (exfalso; omega) | skip) | refine run_ret ?_ | refine run_exit ?_)
      | refine seqQ_normal ?_ | refine seqQ_exit ?_ | refine blockQ_eq ?_ | refine loopQ_exit ?_)
    refine end_view (view_freeze (g := Go.AI.encI) (z := 1) (ys := idxL s t s.rules.length) 0 4 rfl rfl rfl (fun _ => rfl) rfl rfl) ?_
    exact end1 rfl sub1 rfl (.inl rfl)

theorem appL_get {s : System} {t : State} {k : Nat} (hk : k < (appL s t).length) : (appL s t)[k] = dec (App s t (s.rules[k]'(by simpa [appL] using hk))) := by simp [appL]
theorem appL_len (s : System) (t : State) : (appL s t).length = s.rules.length := by simp [appL]

theorem c_l03Both (s : System) (t : State) : Gives Try.prog 68 [.ip (encSystem s), .ip (encState t)] (.raw (.bool (dec (s.Ok ∧ s.StateOk t)))) := by
  refine fn_of_run tyOk ztOk mix Try.func68 rfl (by decide) Try.ntmps68 (fun w0 h => ?_)
  repeat' (first
      | (refine j_go ?_; first
        | refine j_op0 rfl rfl rfl rfl ?_ | refine j_off rfl rfl rfl ?_ | (refine j_kCall rfl rfl rfl rfl ?_; first | refine jc (c_l02Ok _) (LeL.refl _) rfl rfl ?_) | (refine j_kGuard rfl ?_; first | (refine (j_if rfl rfl rfl (fun hb => ?_) (fun hb => ?_)) <;> first | (exfalso; omega) | skip)))
      | refine j_nil ?_
      | (refine r_go ?_; first | refine run_seq ?_ | refine run_region ?_ | refine run_ret ?_)
      | refine seqQ_normal ?_)
  · have hv : s.Ok := by assumption
    repeat' (first
      | (refine j_go ?_; first
        | refine j_op0 rfl rfl rfl rfl ?_ | (refine j_kCall rfl rfl rfl rfl ?_; first | refine jc (c_l02State _ _ hv.1.2.1) (LeL.refl _) rfl rfl ?_))
      | refine j_nil ?_
      | (refine r_go ?_; first | refine run_ret ?_)
      | refine seqQ_normal ?_)
    exact end1 rfl (List.Sublist.refl _) (rbD ⟨fun q => ⟨hv, q⟩, fun q => q.2⟩) (.inl rfl)
  · exact end1 rfl (by first | exact List.Sublist.refl _ | exact sub1 | exact sub2 | exact sub3) (rbF (fun q => hb q.1)) (.inl rfl)

end Go.Proofs.Ytandldhceabdiaa

/-
  States: what WeighState of the reference and of the program compute. No condition.
-/
namespace Go.Proofs.Ytandldhceabdiaa
open Go.AI
set_option maxRecDepth 8000
set_option maxHeartbeats 1600000

theorem zip_len {g : Int → Int → Int} {a b : List Int} (h : a.length ≤ b.length) : (List.zipWith g a b).length = a.length := by simp; omega
theorem zip_succ {g : Int → Int → Int} {a b : List Int} {k : Nat} (ha : k < a.length) (hb : k < b.length) : (List.zipWith g a b).take k ++ [g a[k] b[k]] = (List.zipWith g a b).take (k + 1) := by
  rw [List.take_succ_eq_append_getElem (by simp; omega)]; simp

theorem c_both (of : FuncId) (caps : List A) (g : Int → Int → Int) (a b : List Int) (hg : ∀ k (ha : k < a.length) (hb : k < b.length), Gives Try.prog of (.int a[k] :: .int b[k] :: caps) (.int (g a[k] b[k]))) (hl : a.length ≤ b.length) (hn : a.length ≤ 1000000) : Gives Try.prog 186 [.sl (a.map Go.AI.encI), .sl (b.map Go.AI.encI), .fn of caps] (.sl ((List.zipWith g a b).map Go.AI.encI)) := by
  refine fn_of_run tyOk ztOk mix Try.func186 rfl (by decide) Try.ntmps186 (fun w0 h => ?_)
  have hz := zip_len (g := g) hl
  repeat' (first
      | (refine j_go ?_; first
        | refine j_op0 rfl rfl rfl rfl ?_ | (refine j_kLen rfl ?_; first | refine j_len rfl rfl rfl rfl rfl rfl ?_) | (refine j_kBsl rfl ?_; first | refine j_bs0 rfl rfl rfl rfl rfl rfl ?_))
      | refine j_nil ?_
      | (refine r_go ?_; first | refine run_seq ?_ | refine run_region ?_ | refine run_block ?_)
      | refine seqQ_normal ?_)
  refine run_view (view_none 2 0 rfl) ?_
  refine run_loop (fun s : Nat × Option Nat × Nat => [(1, .sl (b.map Go.AI.encI)), (2, .fn of caps), (7, .os s.2.1 ((List.zipWith g a b).take s.1).length s.2.2), (11, .sl (a.map Go.AI.encI)), (12, .int a.length), (13, .int (s.1 : Int))]) (fun s => ⟨s.2.1, 2, s.2.2 * 1, (((List.zipWith g a b).take s.1).map Go.AI.encI).flatten⟩ :: h) (fun s => s.1 ≤ a.length) (fun s => a.length - s.1) (0, none, 0) ⟨rfl, rfl, rfl, rfl, rfl, rfl, trivial⟩ rfl (Nat.zero_le _) (fun ⟨k, ob, cp⟩ kl => ?_)
  dsimp only at kl ⊢
  by_cases hk : k < a.length
  · have hkb : k < b.length := by omega
    have hz2 : ((List.zipWith g a b).take k).length = k := by rw [List.length_take]; omega
    repeat' (first
      | (refine j_go ?_; first
        | refine j_op0 rfl rfl rfl rfl ?_ | (refine j_kIdx rfl ?_; first | refine j_idx rfl rfl rfl rfl rfl (by omega) rfl rfl rfl ?_) | (refine j_kCall rfl rfl rfl rfl ?_; first | refine jc (hg k hk hkb) (LeL.refl _) rfl rfl ?_) | (refine j_kBsl rfl ?_; first | refine j_bsl rfl rfl rfl rfl rfl rfl rfl rfl rfl rfl rfl ?_))
      | refine j_nil ?_
      | (refine r_go ?_; first | refine run_seq ?_ | refine run_region ?_ | (refine (run_if rfl (fun hb => ?_) (fun hb => ?_)) <;> first | (exfalso; omega) | skip) | refine run_block ?_ | refine run_skip ?_)
      | refine seqQ_normal ?_)
    refine j_append 0 (g := Go.AI.encI) [g a[k] b[k]] rfl rfl rfl rfl rfl rfl rfl rfl rfl rfl rfl rfl (fun _ => rfl) (fun _ _ => rfl) ⟨by rw [hz2]; simp only [List.length_cons, List.length_nil]; omega, by rw [hz2]; simp only [List.length_cons, List.length_nil]; omega⟩ rfl rfl (fun b' cap' => ?_)
    rw [zip_succ hk hkb]
    repeat' (first
      | (refine j_go ?_; first
        | refine j_op0 rfl rfl rfl rfl ?_ | (refine j_kBin rfl ?_; first | refine j_in rfl rfl ⟨by omega, by omega⟩ rfl rfl ?_))
      | refine j_nil ?_
      | (refine r_go ?_; first | refine run_region ?_)
      | refine seqQ_normal ?_ | refine blockQ_normal ?_)
    exact loopQ_next (k + 1, b', cap') (by dsimp only; omega) (by dsimp only; omega) rfl ⟨rfl, rfl, rfl, rfl, rfl, nx _, trivial⟩
  · repeat' (first
      | (refine j_go ?_; first
        | refine j_op0 rfl rfl rfl rfl ?_)
      | refine j_nil ?_
      | (refine r_go ?_; first | refine run_seq ?_ | refine run_region ?_ | (refine (run_if rfl (fun hb => ?_) (fun hb => ?_)) <;> first | (exfalso; omega) | skip) | refine run_ret ?_ | refine run_exit ?_)
      | refine seqQ_normal ?_ | refine seqQ_exit ?_ | refine blockQ_eq ?_ | refine loopQ_exit ?_)
    refine end_view (view_freeze (g := Go.AI.encI) (z := 1) (ys := (List.zipWith g a b).take k) 0 6 rfl rfl rfl (fun _ => rfl) rfl rfl) ?_
    exact end1 rfl (List.Sublist.refl _) (by rw [List.take_of_length_le (by omega)]) (.inl rfl)

end Go.Proofs.Ytandldhceabdiaa

/-
  Choices: what is left of the bags; IsChoice. No condition.
-/
namespace Go.Proofs.Ytandldhceabdiaa
open Go.AI
set_option maxRecDepth 8000
set_option maxHeartbeats 1600000

/-- The sum of a list and another one m times. -/
def plusL (a b : List Int) (m : Int) : List Int := List.zipWith (fun x y => x + y * m) a b
theorem plusL_comm (a b : List Int) (m : Int) : List.zipWith (fun x y => x + m * y) a b = plusL a b m := by
  unfold plusL; congr; funext x y; rw [Int.mul_comm]
def Fits (a b : List Int) (m : Int) : Prop := a.length ≤ b.length ∧ a.length ≤ 1000000 ∧ (∀ x ∈ a, -1000000000000 ≤ x ∧ x ≤ 1000000000000) ∧ ∀ y ∈ b, -1000000000000 ≤ y * m ∧ y * m ≤ 1000000000000

theorem c_l01Plus (a b : List Int) (m : Int) (hh : Fits a b m) : Gives Try.prog 217 [.sl (a.map Go.AI.encI), .sl (b.map Go.AI.encI), .int m] (.sl ((plusL a b m).map Go.AI.encI)) := by
  refine fn_of_run tyOk ztOk mix Try.func217 rfl (by decide) Try.ntmps217 (fun w0 h => ?_)
  obtain ⟨hl, hn, ha, hb0⟩ := hh
  have hz := zip_len (g := fun x y => x + y * m) hl
  repeat' (first
      | (refine j_go ?_; first
        | refine j_op0 rfl rfl rfl rfl ?_ | (refine j_kBsl rfl ?_; first | refine j_bs0 rfl rfl rfl rfl rfl rfl ?_))
      | refine j_nil ?_
      | (refine r_go ?_; first | refine run_seq ?_ | refine run_region ?_ | refine run_block ?_)
      | refine seqQ_normal ?_)
  refine run_view (view_none 2 0 rfl) ?_
  refine run_loop (fun s : Nat × Option Nat × Nat => [(0, .sl (a.map Go.AI.encI)), (1, .sl (b.map Go.AI.encI)), (2, .int m), (7, .os s.2.1 ((plusL a b m).take s.1).length s.2.2), (8, .int (s.1 : Int))]) (fun s => ⟨s.2.1, 2, s.2.2 * 1, (((plusL a b m).take s.1).map Go.AI.encI).flatten⟩ :: h) (fun s => s.1 ≤ a.length) (fun s => a.length - s.1) (0, none, 0) ⟨rfl, rfl, rfl, rfl, rfl, trivial⟩ rfl (Nat.zero_le _) (fun ⟨k, ob, cp⟩ kl => ?_)
  dsimp only at kl ⊢
  by_cases hk : k < a.length
  · have hkb : k < b.length := by omega
    have hz2 : ((plusL a b m).take k).length = k := by unfold plusL; rw [List.length_take]; omega
    have x1 := ha _ (List.getElem_mem hk)
    have x2 := hb0 _ (List.getElem_mem hkb)
    repeat' (first
      | (refine j_go ?_; first
        | refine j_op0 rfl rfl rfl rfl ?_ | (refine j_kLen rfl ?_; first | refine j_len rfl rfl rfl rfl rfl rfl ?_))
      | refine j_nil ?_
      | (refine j_goO ?_; first
        | refine j_op0O rfl rfl rfl rfl ?_ | (refine j_kIdxO rfl ?_; first | refine j_idxO rfl rfl rfl rfl rfl (by omega) rfl rfl rfl ?_) | (refine j_kBinO rfl ?_; first | refine j_inO rfl rfl ⟨by omega, by omega⟩ rfl rfl ?_) | (refine j_kBslO rfl ?_; first | refine j_bslO rfl rfl rfl rfl rfl rfl rfl rfl rfl rfl rfl ?_))
      | (refine r_go ?_; first | refine run_seq ?_ | refine run_region ?_ | (refine (run_if rfl (fun hb => ?_) (fun hb => ?_)) <;> first | (exfalso; omega) | skip) | refine run_block ?_ | refine run_skip ?_ | refine run_opn 5 [⟨0, true, false, 0⟩, ⟨1, true, false, 0⟩, ⟨2, true, false, 0⟩, ⟨3, true, false, 0⟩, ⟨4, true, false, 0⟩, ⟨5, true, false, 0⟩, ⟨6, true, false, 0⟩, ⟨7, true, false, 0⟩, ⟨8, true, false, 0⟩, ⟨9, true, false, 0⟩, ⟨10, true, false, 0⟩, ⟨11, true, false, 0⟩, ⟨12, true, false, 0⟩, ⟨13, false, true, 0⟩, ⟨14, true, false, 0⟩] rfl rfl (by kernel_rfl) ?_)
      | refine seqQ_normal ?_)
    refine j_appendO 0 (g := Go.AI.encI) [a[k] + b[k] * m] rfl (fun _ hk => nomatch hk) rfl rfl rfl rfl rfl rfl rfl rfl rfl rfl rfl rfl (fun _ => rfl) (fun _ _ => rfl) ⟨by rw [hz2]; simp only [List.length_cons, List.length_nil]; omega, by rw [hz2]; simp only [List.length_cons, List.length_nil]; omega⟩ rfl rfl (fun b' cap' => ?_)
    have es : (plusL a b m).take k ++ [a[k] + b[k] * m] = (plusL a b m).take (k + 1) := zip_succ (g := fun x y => x + y * m) hk hkb
    rw [es]
    repeat' (first
      | (refine j_go ?_; first
        | refine j_op0 rfl rfl rfl rfl ?_ | (refine j_kBin rfl ?_; first | refine j_in rfl rfl ⟨by omega, by omega⟩ rfl rfl ?_))
      | refine j_nil ?_
      | (refine j_goO ?_; first
        | refine j_op0O rfl rfl rfl rfl ?_)
      | refine j_nilO ?_
      | (refine r_go ?_; first | refine run_region ?_)
      | refine seqQ_normal ?_ | refine blockQ_normal ?_)
    exact loopQ_next (k + 1, b', cap') (by dsimp only; omega) (by dsimp only; omega) rfl ⟨rfl, rfl, rfl, rfl, nx _, trivial⟩
  · repeat' (first
      | (refine j_go ?_; first
        | refine j_op0 rfl rfl rfl rfl ?_ | (refine j_kLen rfl ?_; first | refine j_len rfl rfl rfl rfl rfl rfl ?_))
      | refine j_nil ?_
      | (refine r_go ?_; first | refine run_seq ?_ | refine run_region ?_ | (refine (run_if rfl (fun hb => ?_) (fun hb => ?_)) <;> first | (exfalso; omega) | skip) | refine run_ret ?_ | refine run_exit ?_)
      | refine seqQ_normal ?_ | refine seqQ_exit ?_ | refine blockQ_eq ?_ | refine loopQ_exit ?_)
    refine end_view (view_freeze (g := Go.AI.encI) (z := 1) (ys := (plusL a b m).take k) 0 6 rfl rfl rfl (fun _ => rfl) rfl rfl) ?_
    exact end1 rfl (List.Sublist.refl _) (by rw [List.take_of_length_le (by unfold plusL; omega)]) (.inl rfl)

theorem c_plus1 (m x y : Int) (h0 : (-1000000000000 ≤ x ∧ x ≤ 1000000000000) ∧ -1000000000000 ≤ m * y ∧ m * y ≤ 1000000000000) : Gives Try.prog 187 [.int x, .int y, .ip [.int m]] (.int (x + m * y)) := by
  refine fn_of_run tyOk ztOk mix Try.func187 rfl (by decide) Try.ntmps187 (fun w0 h => ?_)
  repeat' (first
      | (refine j_go ?_; first
        | refine j_op0 rfl rfl rfl rfl ?_ | (refine j_kBin rfl ?_; first | refine j_in rfl rfl ⟨by omega, by omega⟩ rfl rfl ?_))
      | refine j_nil ?_
      | (refine r_go ?_; first | refine run_seq ?_ | refine run_region ?_ | refine run_ret ?_)
      | refine seqQ_normal ?_)
  exact end1 rfl (List.Sublist.refl _) (rfl) (.inl rfl)
theorem c_plus (a b : List Int) (m : Int) (hh : Fits a b m) : Gives Try.prog 138 [.sl (a.map Go.AI.encI), .sl (b.map Go.AI.encI), .int m] (.sl ((plusL a b m).map Go.AI.encI)) := by
  refine fn_of_run tyOk ztOk mix Try.func138 rfl (by decide) Try.ntmps138 (fun w0 h => ?_)
  obtain ⟨hl, hn, ha, hb0⟩ := hh
  repeat' (first
      | (refine j_go ?_; first
        | refine j_op0 rfl rfl rfl rfl ?_ | (refine j_kCall rfl rfl rfl rfl ?_; first | refine jc (c_both _ _ (fun x y => x + m * y) _ _ (fun k h1 h2 => c_plus1 m _ _ ⟨ha _ (List.getElem_mem h1), by rw [Int.mul_comm]; exact hb0 _ (List.getElem_mem h2)⟩) hl hn) (LeL.refl _) rfl rfl ?_) | refine j_box rfl rfl rfl rfl rfl rfl ?_)
      | refine j_nil ?_
      | (refine r_go ?_; first | refine run_seq ?_ | refine run_region ?_ | refine run_ret ?_)
      | refine seqQ_normal ?_)
  exact end1 rfl (List.Sublist.refl _) (by rw [plusL_comm]) (.inl rfl)

theorem c_l00Own (l : List Int) (hn : l.length ≤ 1000000) : Gives Try.prog 163 [.sl (l.map Go.AI.encI)] (.sl (l.map Go.AI.encI)) := by
  refine fn_of_run tyOk ztOk mix Try.func163 rfl (by decide) Try.ntmps163 (fun w0 h => ?_)
  repeat' (first
      | (refine j_go ?_; first
        | refine j_op0 rfl rfl rfl rfl ?_ | (refine j_kBsl rfl ?_; first | refine j_bs0 rfl rfl rfl rfl rfl rfl ?_))
      | refine j_nil ?_
      | (refine r_go ?_; first | refine run_seq ?_ | refine run_region ?_)
      | refine seqQ_normal ?_)
  refine j_append0 (g := Go.AI.encI) l rfl rfl rfl rfl rfl rfl rfl rfl (fun _ => rfl) (fun _ _ => rfl) ⟨by omega, by omega⟩ rfl rfl (fun b' cap' => ?_)
  repeat' (first
      | (refine j_go ?_; first
        | refine j_op0 rfl rfl rfl rfl ?_)
      | refine j_nil ?_
      | (refine r_go ?_; first | refine run_ret ?_)
      | refine seqQ_normal ?_)
  refine end_view (view_freeze (g := Go.AI.encI) (z := 1) (ys := l) 0 2 rfl rfl rfl (fun _ => rfl) rfl rfl) ?_
  exact end1 rfl (List.Sublist.refl _) rfl (.inl rfl)

/-- What is left of all bags behind the first k counts. -/
def restK (s : System) (t : State) (cs : List Int) : Nat → List (List Int)
  | 0 => t.bags
  | k + 1 => (restK s t cs k).set (s.rules.getD k default).cell.toNat (plusL ((restK s t cs k).getD (s.rules.getD k default).cell.toNat []) (s.rules.getD k default).need (0 - cs.getD k 0))
theorem neg_mul_bnd {x y : Int} (hx : 0 ≤ x ∧ x ≤ 1000) (hy : 0 ≤ y ∧ y ≤ 1000) : -1000000 ≤ x * (0 - y) ∧ x * (0 - y) ≤ 0 := by
  have h1 := Int.mul_le_mul_of_nonneg_left (show -1000 ≤ 0 - y by omega) hx.1
  have h2 := Int.mul_le_mul_of_nonneg_left (show 0 - y ≤ 0 by omega) hx.1
  omega
/-- Counts are a choice. -/
def Ch (s : System) (t : State) (cs : List Int) : Prop := (∀ i (h : i < s.rules.length) (h2 : i < cs.length), 0 < cs[i] → App s t s.rules[i]) ∧ ∀ b ∈ restK s t cs s.rules.length, ∀ x ∈ b, 0 ≤ x
open Classical in
noncomputable def restA (s : System) (t : State) (cs : List Int) : A := if Ch s t cs then .sl ((restK s t cs s.rules.length).map (encS Go.AI.encI)) else .any (fun _ => True)
theorem Le.tup2 {a b c : A} (h : Le a c) : Le (.tup [a, b]) (.tup [c, b]) := fun S w x r => by
  cases r with
  | tup cs vs hl hr =>
    refine .tup _ vs hl (fun j hj hj' => ?_)
    cases j with
    | zero => exact h _ _ _ (hr 0 (by simp) hj')
    | succ j => exact hr (j + 1) (by simpa using hj) hj'
end Go.Proofs.Ytandldhceabdiaa

/-
  Choices: what the program computes of them; IsChoice, IsMaximal. No condition.
-/
namespace Go.Proofs.Ytandldhceabdiaa
open Go.AI
set_option maxRecDepth 8000
set_option maxHeartbeats 1600000

theorem c_cloneSS (l : List (List Int)) (hne : l ≠ []) (hn : l.length ≤ 1000000) : Does Try.prog 135 [.sl (l.map (encS Go.AI.encI))] [] (fun v h1 => ∃ b cap, v = .os b l.length cap ∧ h1 = [⟨b, 22, cap * 1, (l.map (encS Go.AI.encI)).flatten⟩]) := by
  refine fn_of_runD tyOk ztOk mix Try.func135 rfl (by decide) Try.ntmps135 (fun w0 F => ?_)
  repeat' (first
      | (refine j_go ?_; first
        | refine j_op0 rfl rfl rfl rfl ?_)
      | refine j_nil ?_
      | (refine r_go ?_; first | refine run_seq ?_ | refine run_region ?_)
      | refine seqQ_normal ?_)
  refine j_slnil rfl rfl rfl rfl (by simpa using hne) rfl rfl ?_
  repeat' (first
      | (refine j_go ?_; first
        | refine j_op0 rfl rfl rfl rfl ?_ | (refine j_kBsl rfl ?_; first | refine j_bs0 rfl rfl rfl rfl rfl rfl ?_))
      | refine j_nil ?_
      | (refine r_go ?_; first | refine run_seq ?_ | refine run_region ?_ | refine run_cond_f rfl ?_ | refine run_skip ?_)
      | refine seqQ_normal ?_)
  refine j_append0 (g := encS Go.AI.encI) l rfl rfl rfl rfl rfl rfl rfl rfl (fun _ => rfl) (fun _ _ => rfl) ⟨by omega, by omega⟩ rfl rfl (fun b' cap' => ?_)
  repeat' (first
      | (refine j_go ?_; first
        | refine j_op0 rfl rfl rfl rfl ?_)
      | refine j_nil ?_
      | (refine r_go ?_; first | refine run_ret ?_)
      | refine seqQ_normal ?_)
  exact endD_ret (h1 := [⟨b', 22, cap' * 1, (l.map (encS Go.AI.encI)).flatten⟩]) rfl (vs := [_]) (.cons (.tmp rfl) .nil) (Le.refl _) ⟨_, _, rfl, rfl⟩ (.inl rfl)

/-- All rules that are counted are applicable. -/
def AllApp (s : System) (t : State) (cs : List Int) : Prop := ∀ i (h : i < s.rules.length) (h2 : i < cs.length), 0 < cs[i] → App s t s.rules[i]
open Classical in
noncomputable def restI (s : System) (t : State) (cs : List Int) : A := if AllApp s t cs then .sl ((restK s t cs s.rules.length).map (encS Go.AI.encI)) else .os none 0 0
end Go.Proofs.Ytandldhceabdiaa

/-
  Copies of lists in memory of the call's own, their marks, and what is held. No condition but that the sizes are bounded.
-/
namespace Go.Proofs.Ytandldhceabdiaa
open Go.AI
set_option maxRecDepth 8000
set_option maxHeartbeats 1600000
end Go.Proofs.Ytandldhceabdiaa

/-
  Lists of numbers that hold what a condition picks, and answers in memory of the call's own. No condition.
-/
namespace Go.Proofs.Ytandldhceabdiaa
open Go.AI

open Classical in
/-- A list where a condition holds, else the empty one. -/
noncomputable def lsP (p : Prop) (l : List Int) : List Int := if p then l else []
theorem ls_t {p : Prop} (h : p) (l : List Int) : lsP p l = l := by unfold lsP; rw [if_pos h]
theorem ls_f {p : Prop} (h : ¬p) (l : List Int) : lsP p l = [] := by unfold lsP; rw [if_neg h]
/-- What a call hands back that answers with a list of numbers in memory of its own, and a code. -/
def OwnI (l : List Int) (c : Int) : A → Heap → Prop := fun v h' => ∃ b cap, v = .tup [.os b l.length cap, .int c] ∧ h' = [⟨b, 2, cap * 1, (l.map Go.AI.encI).flatten⟩]
end Go.Proofs.Ytandldhceabdiaa

/-
  Lists of rules and of cells, in memory of the call's own: ApplicableRules, KidsNow. No condition.
-/
namespace Go.Proofs.Ytandldhceabdiaa
open Go.AI
set_option maxRecDepth 8000
set_option maxHeartbeats 1600000

end Go.Proofs.Ytandldhceabdiaa

/-
  Plain facts: what is a choice stays one when objects are added, where no rule forbids objects and all have one rank. No program in sight.
-/
namespace Go.Proofs.Ytandldhceabdiaa
open Go.AI
set_option maxRecDepth 8000

/-- No less, place by place. -/
def Big (a b : List Int) : Prop := a.length = b.length ∧ ∀ i (h : i < a.length) (h2 : i < b.length), a[i] ≤ b[i]
theorem Big.refl (a : List Int) : Big a a := ⟨rfl, fun _ _ _ => Int.le_refl _⟩
/-- A state with more objects. -/
structure More (t u : State) : Prop where
  al : u.alive = t.alive
  n : u.bags.length = t.bags.length
  b : ∀ c, Big (t.bags.getD c []) (u.bags.getD c [])
/-! #### the system without ranks and without objects that must not be there -/
/-! #### a state to which objects are added -/
end Go.Proofs.Ytandldhceabdiaa

/-
  Choices: IsChoice, IsMaximal of the reference and of the program. No condition.
-/
namespace Go.Proofs.Ytandldhceabdiaa
open Go.AI
set_option maxRecDepth 8000
set_option maxHeartbeats 1600000





end Go.Proofs.Ytandldhceabdiaa

/-
  Small functions of the laws over systems. No condition.
-/
namespace Go.Proofs.Ytandldhceabdiaa
open Go.AI
set_option maxRecDepth 8000
set_option maxHeartbeats 1600000

theorem c_a2Long (a b : List UInt8) : Gives Try.prog 20 [.sl (a.map encY), .sl (b.map encY)] (.raw (.bool (dec (3000 < (a.length : Int) ∨ 3000 < (b.length : Int))))) := by
  refine fn_of_run tyOk ztOk mix Try.func20 rfl (by decide) Try.ntmps20 (fun w0 h => ?_)
  repeat' (first
      | (refine j_go ?_; first
        | refine j_op0 rfl rfl rfl rfl ?_ | refine j_off rfl rfl rfl ?_ | (refine j_kLen rfl ?_; first | refine j_len rfl rfl rfl rfl rfl rfl ?_) | (refine j_kGuard rfl ?_; first | (refine (j_if rfl rfl rfl (fun hb => ?_) (fun hb => ?_)) <;> first | (exfalso; omega) | skip)))
      | refine j_nil ?_
      | (refine r_go ?_; first | refine run_seq ?_ | refine run_region ?_ | refine run_ret ?_)
      | refine seqQ_normal ?_)
  all_goals first
    | exact end1 rfl (by first | exact List.Sublist.refl _ | exact sub1 | exact sub2 | exact sub3) (rbT (.inl (by assumption))) (.inl rfl)
    | exact end1 rfl (List.Sublist.refl _) (rbD ⟨fun q => .inr q, fun q => q.resolve_left (by assumption)⟩) (.inl rfl)
    | trace_state
end Go.Proofs.Ytandldhceabdiaa
