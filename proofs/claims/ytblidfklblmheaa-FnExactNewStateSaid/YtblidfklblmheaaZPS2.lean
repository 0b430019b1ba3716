/-
  States in memory of the call's own: their marks, and what is held of them. No condition but that the sizes are bounded.
-/
import Derived.Test.YtblidfklblmheaaZO2
import Derived.Test.YtblidfklblmheaaZPB
namespace Go.Proofs.Ytblidfklblmheaa
open Go.AI
set_option maxRecDepth 8000
set_option maxHeartbeats 1600000
def ROState (x : State) (a : A) (h : Heap) : Prop := ∃ (a0 : A) (h0 : Heap), ROB x.alive a0 h0 ∧ ∃ (a1 : A) (h1 : Heap), ROII x.bags a1 h1 ∧ ∃ (a2 : A) (h2 : Heap), ROI x.around a2 h2 ∧ a = .agg [a0, a1, a2] ∧ h = h0 ++ (h1 ++ h2)
theorem ROState.frz {x : State} {a : A} {h : Heap} (o : ROState x a h) : Frz h a (.agg (encState x)) := by
  obtain ⟨a0, h0, o0, a1, h1, o1, a2, h2, o2, rfl, rfl⟩ := o
  exact Frz.agg (FrzL.cons (Frz.mono (fun _ hk => by simp [hk]) o0.frz) (FrzL.cons (Frz.mono (fun _ hk => by simp [hk]) o1.frz) (FrzL.cons (Frz.mono (fun _ hk => by simp [hk]) o2.frz) (FrzL.nil _))))
theorem ROState.clo {x : State} {a : A} {h : Heap} (o : ROState x a h) : Clo a ∧ CloH h := by
  obtain ⟨a0, h0, o0, a1, h1, o1, a2, h2, o2, rfl, rfl⟩ := o
  exact ⟨Clo.agg (CloL.cons o0.clo.1 (CloL.cons o1.clo.1 (CloL.cons o2.clo.1 CloL.nil))), o0.clo.2.append (o1.clo.2.append o2.clo.2)⟩
theorem OwnF.okc {α : Type} {g : α → List A} {T z : Nat} {l : List α} {a : A} {h : Heap} (o : OwnF g T z l a h) : okCell a = true := by
  rcases o with ⟨b, cap, rfl, rfl⟩ | ⟨rfl, rfl, rfl⟩ <;> rfl
theorem OwnLL.okc {β : Type} {O : β → A → Heap → Prop} {T : Nat} {L : List β} {a : A} {h : Heap} (o : OwnLL O T L a h) : okCell a = true := by
  rcases o with ⟨b, cap, vs, hs, _, _, _, rfl, rfl⟩ | ⟨rfl, rfl, rfl⟩ <;> rfl
theorem ROState.cells {x : State} {a : A} {h : Heap} (o : ROState x a h) : ∃ a0 a1 a2, a = .agg [a0, a1, a2] ∧ [a0, a1, a2].all okCell = true := by
  obtain ⟨a0, h0, o0, a1, h1, o1, a2, h2, o2, rfl, rfl⟩ := o
  exact ⟨a0, a1, a2, rfl, by simp only [List.all_cons, List.all_nil, OwnF.okc o0, OwnLL.okc o1, OwnF.okc o2]; rfl⟩
noncomputable def mkState (k : Nat) (x : State) : State := ⟨markedB k x.alive.length, markedII (k + x.alive.length) x.bags, markedI (k + x.alive.length + mcnt List.length x.bags) x.around.length⟩
def rcState (x : State) : Nat := x.alive.length + mcnt List.length x.bags + x.around.length
theorem r_markState (x : State) (a : A) (h : Heap) (k0 : Nat) (o : ROState x a h) (hk : k0 + rcState x ≤ 4611686018427387904) : Does Try.prog 33 [a, .int (k0 : Int)] h (fun v h' => v = .int ((k0 + rcState x : Nat) : Int) ∧ ROState (mkState k0 x) a h') := by
  obtain ⟨a0, h0, o0, a1, h1, o1, a2, h2, o2, rfl, rfl⟩ := o
  unfold rcState at hk
  refine fn_of_runD tyOk ztOk mix Try.func33 rfl (by decide) Try.ntmps33 (fun w0 F => ?_)
  refine run_heq (h' := h0 ++ (h1 ++ (h2 ++ F))) (by simp only [List.append_assoc]) ?_
  repeat' (first
      | (refine j_go ?_; first
        | refine j_op0 rfl rfl rfl rfl ?_ | (refine j_kLoad rfl ?_; first | refine j_mload 0 rfl rfl rfl rfl rfl rfl rfl ?_ | refine j_mload 1 rfl rfl rfl rfl rfl rfl rfl ?_ | refine j_mload 2 rfl rfl rfl rfl rfl rfl rfl ?_) | (refine j_kStore rfl ?_; first | refine j_store 0 rfl rfl rfl rfl rfl rfl rfl rfl rfl rfl rfl ?_ | refine j_storeN 0 rfl rfl rfl rfl rfl rfl rfl rfl rfl rfl rfl ?_ | refine j_store 1 rfl rfl rfl rfl rfl rfl rfl rfl rfl rfl rfl ?_ | refine j_storeN 1 rfl rfl rfl rfl rfl rfl rfl rfl rfl rfl rfl ?_ | refine j_store 2 rfl rfl rfl rfl rfl rfl rfl rfl rfl rfl rfl ?_ | refine j_storeN 2 rfl rfl rfl rfl rfl rfl rfl rfl rfl rfl rfl ?_) | refine j_box rfl rfl rfl rfl rfl rfl ?_)
      | refine j_nil ?_
      | (refine r_go ?_; first | refine run_seq ?_ | refine run_region ?_ | refine run_cond_t rfl ?_ | refine run_cond_f rfl ?_ | (refine (run_if rfl (fun hb => ?_) (fun hb => ?_)) <;> first | (exfalso; omega) | skip) | (refine (run_ifn rfl (fun hb => ?_) (fun hb => ?_)) <;> first | (exfalso; omega) | skip) | refine run_block ?_ | refine run_ret ?_ | refine run_exit ?_ | refine run_skip ?_ | refine run_regionD (by kernel_rfl) ?_ | refine run_condn rfl (fun hb => ?_) (fun hb => ?_) | refine run_cond rfl (fun hb => ?_) (fun hb => ?_))
      | refine seqQ_normal ?_ | refine seqQ_ret ?_ | refine seqQ_exit ?_ | refine blockQ_normal ?_ | refine blockQ_ret ?_ | refine blockQ_eq ?_ | refine blockQ_ne rfl ?_ | refine loopQ_ret ?_ | refine loopQ_exit ?_)
  refine j_kCall rfl rfl rfl rfl ?_
  refine jcp _ (r_markB _ _ _ k0 o0 (by omega)) (List.Perm.refl _) (LeL.refl _) rfl rfl (fun v n0 hR => ?_)
  obtain ⟨rfl, p0⟩ := hR
  repeat' (first
      | (refine j_go ?_; first
        | refine j_op0 rfl rfl rfl rfl ?_ | (refine j_kLoad rfl ?_; first | refine j_mload 0 rfl rfl rfl rfl rfl rfl rfl ?_ | refine j_mload 1 rfl rfl rfl rfl rfl rfl rfl ?_ | refine j_mload 2 rfl rfl rfl rfl rfl rfl rfl ?_) | (refine j_kStore rfl ?_; first | refine j_store 0 rfl rfl rfl rfl rfl rfl rfl rfl rfl rfl rfl ?_ | refine j_storeN 0 rfl rfl rfl rfl rfl rfl rfl rfl rfl rfl rfl ?_ | refine j_store 1 rfl rfl rfl rfl rfl rfl rfl rfl rfl rfl rfl ?_ | refine j_storeN 1 rfl rfl rfl rfl rfl rfl rfl rfl rfl rfl rfl ?_ | refine j_store 2 rfl rfl rfl rfl rfl rfl rfl rfl rfl rfl rfl ?_ | refine j_storeN 2 rfl rfl rfl rfl rfl rfl rfl rfl rfl rfl rfl ?_) | refine j_box rfl rfl rfl rfl rfl rfl ?_)
      | refine j_nil ?_
      | (refine r_go ?_; first | refine run_seq ?_ | refine run_region ?_ | refine run_cond_t rfl ?_ | refine run_cond_f rfl ?_ | (refine (run_if rfl (fun hb => ?_) (fun hb => ?_)) <;> first | (exfalso; omega) | skip) | (refine (run_ifn rfl (fun hb => ?_) (fun hb => ?_)) <;> first | (exfalso; omega) | skip) | refine run_block ?_ | refine run_ret ?_ | refine run_exit ?_ | refine run_skip ?_ | refine run_regionD (by kernel_rfl) ?_ | refine run_condn rfl (fun hb => ?_) (fun hb => ?_) | refine run_cond rfl (fun hb => ?_) (fun hb => ?_))
      | refine seqQ_normal ?_ | refine seqQ_ret ?_ | refine seqQ_exit ?_ | refine blockQ_normal ?_ | refine blockQ_ret ?_ | refine blockQ_eq ?_ | refine blockQ_ne rfl ?_ | refine loopQ_ret ?_ | refine loopQ_exit ?_)
  refine j_kCall rfl rfl rfl rfl ?_
  refine jcp _ (r_markII _ _ _ (k0 + x.alive.length) o1 (by omega)) (pmid0 (l1 := n0)) (LeL.refl _) rfl rfl (fun v n1 hR => ?_)
  obtain ⟨rfl, p1⟩ := hR
  repeat' (first
      | (refine j_go ?_; first
        | refine j_op0 rfl rfl rfl rfl ?_ | (refine j_kLoad rfl ?_; first | refine j_mload 0 rfl rfl rfl rfl rfl rfl rfl ?_ | refine j_mload 1 rfl rfl rfl rfl rfl rfl rfl ?_ | refine j_mload 2 rfl rfl rfl rfl rfl rfl rfl ?_) | (refine j_kStore rfl ?_; first | refine j_store 0 rfl rfl rfl rfl rfl rfl rfl rfl rfl rfl rfl ?_ | refine j_storeN 0 rfl rfl rfl rfl rfl rfl rfl rfl rfl rfl rfl ?_ | refine j_store 1 rfl rfl rfl rfl rfl rfl rfl rfl rfl rfl rfl ?_ | refine j_storeN 1 rfl rfl rfl rfl rfl rfl rfl rfl rfl rfl rfl ?_ | refine j_store 2 rfl rfl rfl rfl rfl rfl rfl rfl rfl rfl rfl ?_ | refine j_storeN 2 rfl rfl rfl rfl rfl rfl rfl rfl rfl rfl rfl ?_) | refine j_box rfl rfl rfl rfl rfl rfl ?_)
      | refine j_nil ?_
      | (refine r_go ?_; first | refine run_seq ?_ | refine run_region ?_ | refine run_cond_t rfl ?_ | refine run_cond_f rfl ?_ | (refine (run_if rfl (fun hb => ?_) (fun hb => ?_)) <;> first | (exfalso; omega) | skip) | (refine (run_ifn rfl (fun hb => ?_) (fun hb => ?_)) <;> first | (exfalso; omega) | skip) | refine run_block ?_ | refine run_ret ?_ | refine run_exit ?_ | refine run_skip ?_ | refine run_regionD (by kernel_rfl) ?_ | refine run_condn rfl (fun hb => ?_) (fun hb => ?_) | refine run_cond rfl (fun hb => ?_) (fun hb => ?_))
      | refine seqQ_normal ?_ | refine seqQ_ret ?_ | refine seqQ_exit ?_ | refine blockQ_normal ?_ | refine blockQ_ret ?_ | refine blockQ_eq ?_ | refine blockQ_ne rfl ?_ | refine loopQ_ret ?_ | refine loopQ_exit ?_)
  refine j_kCall rfl rfl rfl rfl ?_
  refine jcp _ (r_markI _ _ _ (k0 + x.alive.length + mcnt List.length x.bags) o2 (by omega)) (pmid2 (l1 := n1) (l2 := n0)) (LeL.refl _) rfl rfl (fun v n2 hR => ?_)
  obtain ⟨rfl, p2⟩ := hR
  repeat' (first
      | (refine j_go ?_; first
        | refine j_op0 rfl rfl rfl rfl ?_ | (refine j_kLoad rfl ?_; first | refine j_mload 0 rfl rfl rfl rfl rfl rfl rfl ?_ | refine j_mload 1 rfl rfl rfl rfl rfl rfl rfl ?_ | refine j_mload 2 rfl rfl rfl rfl rfl rfl rfl ?_) | (refine j_kStore rfl ?_; first | refine j_store 0 rfl rfl rfl rfl rfl rfl rfl rfl rfl rfl rfl ?_ | refine j_storeN 0 rfl rfl rfl rfl rfl rfl rfl rfl rfl rfl rfl ?_ | refine j_store 1 rfl rfl rfl rfl rfl rfl rfl rfl rfl rfl rfl ?_ | refine j_storeN 1 rfl rfl rfl rfl rfl rfl rfl rfl rfl rfl rfl ?_ | refine j_store 2 rfl rfl rfl rfl rfl rfl rfl rfl rfl rfl rfl ?_ | refine j_storeN 2 rfl rfl rfl rfl rfl rfl rfl rfl rfl rfl rfl ?_) | refine j_box rfl rfl rfl rfl rfl rfl ?_)
      | refine j_nil ?_
      | (refine r_go ?_; first | refine run_seq ?_ | refine run_region ?_ | refine run_cond_t rfl ?_ | refine run_cond_f rfl ?_ | (refine (run_if rfl (fun hb => ?_) (fun hb => ?_)) <;> first | (exfalso; omega) | skip) | (refine (run_ifn rfl (fun hb => ?_) (fun hb => ?_)) <;> first | (exfalso; omega) | skip) | refine run_block ?_ | refine run_ret ?_ | refine run_exit ?_ | refine run_skip ?_ | refine run_regionD (by kernel_rfl) ?_ | refine run_condn rfl (fun hb => ?_) (fun hb => ?_) | refine run_cond rfl (fun hb => ?_) (fun hb => ?_))
      | refine seqQ_normal ?_ | refine seqQ_ret ?_ | refine seqQ_exit ?_ | refine blockQ_normal ?_ | refine blockQ_ret ?_ | refine blockQ_eq ?_ | refine blockQ_ne rfl ?_ | refine loopQ_ret ?_ | refine loopQ_exit ?_)
  refine endD_view (view_perm (h' := n0 ++ (n1 ++ n2) ++ F) (by classical exact List.perm_iff_count.2 fun _ => by simp only [List.count_append]; omega)) ?_
  exact endD_ret (h1 := n0 ++ (n1 ++ n2)) rfl (.cons (.tmp rfl) .nil) (Le.refl _) ⟨ani (by unfold rcState; omega), a0, n0, p0, a1, n1, p1, a2, n2, p2, rfl, rfl⟩ (.inl rfl)
theorem c_heldState (x : State) (k0 : Nat) (hk : k0 + rcState x ≤ 4611686018427387904) : Gives Try.prog 46 [.agg (encState (mkState k0 x)), .int (k0 : Int)] (.int ((k0 + rcState x : Nat) : Int)) := by
  unfold rcState at hk
  refine fn_of_run tyOk ztOk mix Try.func46 rfl (by decide) Try.ntmps46 (fun w0 h => ?_)
  have q1 := c_heldInt64SS x.bags (k0 + x.alive.length) (by omega)
  have q2 := c_heldInt64S (markedI (k0 + x.alive.length + mcnt List.length x.bags) x.around.length) (k0 + x.alive.length + mcnt List.length x.bags) (fun _ _ => markedI_get _) (by rw [markedI_len]; omega)
  rw [markedI_len] at q2
  repeat' (first
      | (refine j_go ?_; first
        | refine j_op0 rfl rfl rfl rfl ?_ | (refine j_kBin rfl ?_; first | refine j_in rfl rfl ⟨by omega, by omega⟩ rfl rfl ?_) | (refine j_kCall rfl rfl rfl rfl ?_; first | refine jc (c_heldBoolS k0 x.alive.length (by omega)) (LeL.refl _) rfl rfl ?_ | refine jc (q1) (LeL.refl _) rfl rfl ?_ | refine jc (q2) (LeL.refl _) rfl rfl ?_ | refine jc (c_heldBoolS k0 x.alive.length (by omega)) (by repeat' (first | exact LeL.nil | refine LeL.cons ?_ ?_ | exact Le.refl _ | exact Le.nilm _ _ | exact Le.nil _ | refine Le.agg ?_)) rfl rfl ?_ | refine jc (q1) (by repeat' (first | exact LeL.nil | refine LeL.cons ?_ ?_ | exact Le.refl _ | exact Le.nilm _ _ | exact Le.nil _ | refine Le.agg ?_)) rfl rfl ?_ | refine jc (q2) (by repeat' (first | exact LeL.nil | refine LeL.cons ?_ ?_ | exact Le.refl _ | exact Le.nilm _ _ | exact Le.nil _ | refine Le.agg ?_)) rfl rfl ?_) | refine j_box rfl rfl rfl rfl rfl rfl ?_)
      | refine j_nil ?_
      | (refine r_go ?_; first | refine run_seq ?_ | refine run_region ?_ | refine run_cond_t rfl ?_ | refine run_cond_f rfl ?_ | (refine (run_if rfl (fun hb => ?_) (fun hb => ?_)) <;> first | (exfalso; omega) | skip) | (refine (run_ifn rfl (fun hb => ?_) (fun hb => ?_)) <;> first | (exfalso; omega) | skip) | refine run_block ?_ | refine run_ret ?_ | refine run_exit ?_ | refine run_skip ?_ | refine run_regionD (by kernel_rfl) ?_ | refine run_condn rfl (fun hb => ?_) (fun hb => ?_) | refine run_cond rfl (fun hb => ?_) (fun hb => ?_))
      | refine seqQ_normal ?_ | refine seqQ_ret ?_ | refine seqQ_exit ?_ | refine blockQ_normal ?_ | refine blockQ_ret ?_ | refine blockQ_eq ?_ | refine blockQ_ne rfl ?_ | refine loopQ_ret ?_ | refine loopQ_exit ?_)
  all_goals first | (exfalso; omega) | exact end1 rfl (List.Sublist.refl _) (ani (by unfold rcState; omega)) (.inl rfl) | trace_state
end Go.Proofs.Ytblidfklblmheaa
