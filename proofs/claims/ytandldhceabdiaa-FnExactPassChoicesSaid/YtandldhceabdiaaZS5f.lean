/-
  Lists of numbers that hold what a condition picks, and answers in memory of the call's own. No condition.
-/
import Derived.Test.YtandldhceabdiaaZOB
import Derived.Test.YtandldhceabdiaaZOwn
import Derived.Test.YtandldhceabdiaaZE5
namespace Go.Proofs.Ytandldhceabdiaa
open Go.AI

open Classical in
/-- A list where a condition holds, else the empty one. -/
noncomputable def lsP (p : Prop) (l : List Int) : List Int := if p then l else []
end Go.Proofs.Ytandldhceabdiaa

/-
  The bag of all objects, on both sides: TotalBag. No condition.
-/
namespace Go.Proofs.Ytandldhceabdiaa
open Go.AI
set_option maxRecDepth 8000
set_option maxHeartbeats 1600000

/-- A list in memory of the call's own. -/
def OwnL (l : List Int) : A → Heap → Prop := fun v h' => ∃ b cap, v = .os b l.length cap ∧ h' = [⟨b, 2, cap * 1, (l.map Go.AI.encI).flatten⟩]
theorem OwnL.clo {l : List Int} {v : A} {h1 : Heap} (q : OwnL l v h1) : Clo v ∧ CloH h1 := by
  obtain ⟨b, cap, rfl, rfl⟩ := q
  exact ⟨Clo.os _ _ _, CloH.cons (CloL.mapInt _ _) CloH.nil⟩
theorem o_cloneI (l : List Int) (hne : l ≠ []) (hn : l.length ≤ 1000000) : Does Try.prog 117 [.sl (l.map Go.AI.encI)] [] (OwnL l) := by
  refine fn_of_runD tyOk ztOk mix Try.func117 rfl (by decide) Try.ntmps117 (fun w0 F => ?_)
  repeat' (first
      | (refine j_go ?_; first
        | refine j_op0 rfl rfl rfl rfl ?_)
      | refine j_nil ?_
      | (refine r_go ?_; first | refine run_seq ?_ | refine run_region ?_)
      | refine seqQ_normal ?_)
  refine j_slnil rfl rfl rfl rfl (by simpa using hne) rfl rfl ?_
  repeat' (first
      | (refine j_go ?_; first
        | refine j_op0 rfl rfl rfl rfl ?_ | (refine j_kBsl rfl ?_; first | refine j_bs0 rfl rfl rfl rfl rfl rfl ?_))
      | refine j_nil ?_
      | (refine r_go ?_; first | refine run_seq ?_ | refine run_region ?_ | refine run_cond_f rfl ?_ | refine run_skip ?_)
      | refine seqQ_normal ?_)
  refine j_append0 (g := Go.AI.encI) l rfl rfl rfl rfl rfl rfl rfl rfl (fun _ => rfl) (fun _ _ => rfl) ⟨by omega, by omega⟩ rfl rfl (fun b' cap' => ?_)
  repeat' (first
      | (refine j_go ?_; first
        | refine j_op0 rfl rfl rfl rfl ?_)
      | refine j_nil ?_
      | (refine r_go ?_; first | refine run_ret ?_)
      | refine seqQ_normal ?_)
  exact endD_ret (h1 := [⟨b', 2, cap' * 1, (l.map Go.AI.encI).flatten⟩]) rfl (vs := [_]) (.cons (.tmp rfl) .nil) (Le.refl _) ⟨_, _, rfl, rfl⟩ (.inl rfl)

open Classical in
noncomputable def cdL (p : Prop) : Int := if p then 0 else 3
/-- All objects of what is around and of the first k cells. -/
def totK (t : State) : Nat → List Int
  | 0 => t.around
  | k + 1 => plusL (totK t k) (t.bags.getD k []) 1
open Classical in
noncomputable def codeTotalBag (s : System) (t : State) : Int := if s.Ok ∧ s.StateOk t then cdL (Bag (totK t t.bags.length)) else 1
end Go.Proofs.Ytandldhceabdiaa

/-
  Results in memory of the call's own: their marks, and what is held of them. No condition but that the sizes are bounded.
-/
namespace Go.Proofs.Ytandldhceabdiaa
open Go.AI
set_option maxRecDepth 8000
set_option maxHeartbeats 1600000
def ROI (l : List Int) (a : A) (h : Heap) : Prop := OwnF Go.AI.encI 2 1 l a h
def ROB (l : List Bool) (a : A) (h : Heap) : Prop := OwnF encB 4 1 l a h
def ROII (L : List (List Int)) (a : A) (h : Heap) : Prop := OwnLL ROI 22 L a h
theorem ROI.frz {l : List Int} {a : A} {h : Heap} (o : ROI l a h) : Frz h a (.sl (l.map Go.AI.encI)) := OwnF.frz (fun _ => rfl) rfl o
theorem ROB.frz {l : List Bool} {a : A} {h : Heap} (o : ROB l a h) : Frz h a (.sl (l.map encB)) := OwnF.frz (fun _ => rfl) rfl o
theorem ROII.frz {l : List (List Int)} {a : A} {h : Heap} (o : ROII l a h) : Frz h a (.sl (l.map (encS Go.AI.encI))) := OwnLL.frz (enc := fun x => (x.map Go.AI.encI)) (fun _ _ _ q => q.frz) o (fun _ => rfl)
theorem ROI.clo {l : List Int} {a : A} {h : Heap} (o : ROI l a h) : Clo a ∧ CloH h := OwnF.clo (fun _ => CloL.cons (Clo.int _) CloL.nil) o
theorem ROB.clo {l : List Bool} {a : A} {h : Heap} (o : ROB l a h) : Clo a ∧ CloH h := OwnF.clo (fun _ => CloL.cons (Clo.raw _) CloL.nil) o
theorem ROII.clo {l : List (List Int)} {a : A} {h : Heap} (o : ROII l a h) : Clo a ∧ CloH h := OwnLL.clo (fun _ _ _ q => q.clo) o
theorem r_markI (r : List Int) (a : A) (h : Heap) (k0 : Nat) (o : ROI r a h) (hk : k0 + r.length ≤ 4611686018427387904) :
    Does Try.prog 44 [a, .int (k0 : Int)] h (fun v h' => v = .int ((k0 + r.length : Nat) : Int) ∧ ROI (markedI k0 r.length) a h') := by
  rcases o with ⟨b, cap, rfl, rfl⟩ | ⟨rfl, rfl, rfl⟩
  case inr =>
    refine fn_of_runD tyOk ztOk mix Try.func44 rfl (by decide) Try.ntmps44 (fun w0 F => ?_)
    change Run _ _ _ _ _ F
    repeat' (first
      | (refine j_go ?_; first
        | refine j_op0 rfl rfl rfl rfl ?_)
      | refine j_nil ?_
      | (refine r_go ?_; first | refine run_seq ?_ | refine run_region ?_ | refine run_block ?_)
      | refine seqQ_normal ?_)
    refine run_loop (fun _ : Unit => [(0, .sl []), (1, .int (k0 : Int)), (5, .int 0)]) (fun _ => F) (fun _ => True) (fun _ => 0) () ⟨rfl, rfl, rfl, trivial⟩ rfl trivial (fun _ _ => ?_)
    repeat' (first
      | (refine j_go ?_; first
        | refine j_op0 rfl rfl rfl rfl ?_ | (refine j_kLen rfl ?_; first | refine j_op rfl rfl rfl rfl ?_))
      | refine j_nil ?_
      | (refine r_go ?_; first | refine run_seq ?_ | refine run_region ?_ | (refine (run_if rfl (fun hb => ?_) (fun hb => ?_)) <;> first | (exfalso; omega) | skip) | refine run_block ?_ | refine run_ret ?_ | refine run_exit ?_ | refine run_skip ?_)
      | refine seqQ_normal ?_ | refine seqQ_exit ?_ | refine blockQ_eq ?_ | refine loopQ_exit ?_)
    · exact absurd hb (by simp)
    exact endD_ret (h1 := []) rfl (vs := [_]) (.cons (.tmp rfl) .nil) (Le.refl _) ⟨rfl, .inr ⟨rfl, rfl, rfl⟩⟩ (.inl rfl)
  have := x_markI b cap k0 r hk
  exact this.drop fun v h' ⟨q1, q2⟩ => ⟨h', h', .refl _, List.Sublist.refl _, q1, .inl ⟨b, cap, by rw [markedI_len], q2⟩⟩
theorem c_heldInt64SS (L : List (List Int)) (k0 : Nat) (hk : k0 + mcnt List.length L ≤ 4611686018427387904) : Gives Try.prog 19 [.sl ((markedII k0 L).map (encS Go.AI.encI)), .int (k0 : Int)] (.int ((k0 + mcnt List.length L : Nat) : Int)) := by
  have hn : (markedII k0 L).length = L.length := markedII_len L k0
  refine fn_of_run tyOk ztOk mix Try.func19 rfl (by decide) Try.ntmps19 (fun w0 h => ?_)
  refine run_len (t := 0) rfl (fun hmx => ?_)
  rw [List.length_map, hn] at hmx
  repeat' (first
      | (refine j_go ?_; first
        | refine j_op0 rfl rfl rfl rfl ?_)
      | refine j_nil ?_
      | (refine r_go ?_; first | refine run_seq ?_ | refine run_region ?_ | refine run_block ?_)
      | refine seqQ_normal ?_)
  refine run_loop (fun i : Nat => [(0, .sl ((markedII k0 L).map (encS Go.AI.encI))), (1, .int ((k0 + mcnt List.length (L.take i) : Nat) : Int)), (5, .int (i : Int))]) (fun _ => h) (fun i => i ≤ L.length) (fun i => L.length - i) 0 ⟨rfl, (by simp [mcnt]; rfl), rfl, trivial⟩ rfl (by omega) ?_
  intro i g1
  by_cases hi : i < L.length
  · have hLi := markedII_get L k0 i hi
    have hsn := mcnt_take (f := List.length) hi
    have hlt := mcnt_take_le (f := List.length) (i + 1) L
    have hgi := c_heldInt64S (markedII k0 L)[i] (k0 + mcnt List.length (L.take i)) (by rw [hLi]; exact fun _ _ => markedI_get _) (by rw [hLi, markedI_len]; omega)
    rw [show (markedII k0 L)[i].length = L[i].length from by rw [hLi, markedI_len]] at hgi
    repeat' (first
      | (refine j_go ?_; first
        | refine j_op0 rfl rfl rfl rfl ?_ | (refine j_kIdx rfl ?_; first | refine j_idx rfl rfl rfl rfl rfl (by omega) rfl rfl rfl ?_) | (refine j_kBin rfl ?_; first | refine j_in rfl rfl ⟨by omega, by omega⟩ rfl rfl ?_) | (refine j_kLen rfl ?_; first | refine j_len rfl rfl rfl rfl rfl rfl ?_) | (refine j_kCall rfl rfl rfl rfl ?_; first | refine jc (hgi) (LeL.refl _) rfl rfl ?_))
      | refine j_nil ?_
      | (refine r_go ?_; first | refine run_seq ?_ | refine run_region ?_ | (refine (run_if rfl (fun hb => ?_) (fun hb => ?_)) <;> first | (exfalso; omega) | skip) | refine run_block ?_ | refine run_skip ?_)
      | refine seqQ_normal ?_ | refine blockQ_normal ?_)
    all_goals first | exact loopQ_next (i + 1) (by omega) (by omega) rfl ⟨rfl, (by rw [hsn, ← Nat.add_assoc]; rfl), nx _, trivial⟩ | (exfalso; omega) | trace_state
  · repeat' (first
      | (refine j_go ?_; first
        | refine j_op0 rfl rfl rfl rfl ?_ | (refine j_kLen rfl ?_; first | refine j_len rfl rfl rfl rfl rfl rfl ?_))
      | refine j_nil ?_
      | (refine r_go ?_; first | refine run_seq ?_ | refine run_region ?_ | (refine (run_if rfl (fun hb => ?_) (fun hb => ?_)) <;> first | (exfalso; omega) | skip) | refine run_ret ?_ | refine run_exit ?_)
      | refine seqQ_normal ?_ | refine seqQ_exit ?_ | refine blockQ_eq ?_ | refine loopQ_exit ?_)
    have : i = L.length := by omega
    subst this
    exact end1 rfl (List.Sublist.refl _) (by rw [List.take_length]) (.inl rfl)
theorem r_markII (L : List (List Int)) (a : A) (h : Heap) (k0 : Nat) (o : ROII L a h) (hk : k0 + mcnt List.length L ≤ 4611686018427387904) :
    Does Try.prog 18 [a, .int (k0 : Int)] h (fun v h' => v = .int ((k0 + mcnt List.length L : Nat) : Int) ∧ ROII (markedII k0 L) a h') := by
  rcases o with ⟨b, cap, vs, hs, l1, l2, hall, rfl, rfl⟩ | ⟨rfl, rfl, rfl⟩
  case inr =>
    refine fn_of_runD tyOk ztOk mix Try.func18 rfl (by decide) Try.ntmps18 (fun w0 F => ?_)
    change Run _ _ _ _ _ F
    repeat' (first
      | (refine j_go ?_; first
        | refine j_op0 rfl rfl rfl rfl ?_)
      | refine j_nil ?_
      | (refine r_go ?_; first | refine run_seq ?_ | refine run_region ?_ | refine run_block ?_)
      | refine seqQ_normal ?_)
    refine run_loop (fun _ : Unit => [(0, .sl []), (1, .int (k0 : Int)), (5, .int 0)]) (fun _ => F) (fun _ => True) (fun _ => 0) () ⟨rfl, rfl, rfl, trivial⟩ rfl trivial (fun _ _ => ?_)
    repeat' (first
      | (refine j_go ?_; first
        | refine j_op0 rfl rfl rfl rfl ?_ | (refine j_kLen rfl ?_; first | refine j_op rfl rfl rfl rfl ?_))
      | refine j_nil ?_
      | (refine r_go ?_; first | refine run_seq ?_ | refine run_region ?_ | (refine (run_if rfl (fun hb => ?_) (fun hb => ?_)) <;> first | (exfalso; omega) | skip) | refine run_block ?_ | refine run_ret ?_ | refine run_exit ?_ | refine run_skip ?_)
      | refine seqQ_normal ?_ | refine seqQ_exit ?_ | refine blockQ_eq ?_ | refine loopQ_exit ?_)
    · exact absurd hb (by simp)
    exact endD_ret (h1 := []) rfl (vs := [_]) (.cons (.tmp rfl) .nil) (Le.refl _) ⟨rfl, .inr ⟨rfl, rfl, rfl⟩⟩ (.inl rfl)
  refine fn_of_runD tyOk ztOk mix Try.func18 rfl (by decide) Try.ntmps18 (fun w0 F => ?_)
  change Run _ _ _ _ _ (⟨b, 22, cap * 1, (vs.map fun a => [a]).flatten⟩ :: (hs.flatten ++ F))
  refine run_olen (t := 0) rfl (fun hol => ?_)
  repeat' (first
      | (refine j_go ?_; first
        | refine j_op0 rfl rfl rfl rfl ?_)
      | refine j_nil ?_
      | (refine r_go ?_; first | refine run_seq ?_ | refine run_region ?_ | refine run_block ?_)
      | refine seqQ_normal ?_)
  refine run_loop (fun s : Nat × List Heap => [(0, .os b L.length cap), (1, .int ((k0 + mcnt List.length (L.take s.1) : Nat) : Int)), (5, .int (s.1 : Int))])
    (fun s => ⟨b, 22, cap * 1, (vs.map fun a => [a]).flatten⟩ :: (s.2.flatten ++ ((hs.drop s.1).flatten ++ F)))
    (fun s => s.1 ≤ L.length ∧ s.2.length = s.1 ∧ ∀ i (h0 : i < L.length) (h1 : i < vs.length) (h2 : i < s.2.length), ROI (markedI (k0 + mcnt List.length (L.take i)) L[i].length) vs[i] s.2[i]) (fun s => L.length - s.1) (0, []) ⟨rfl, (by simp [mcnt]; rfl), rfl, trivial⟩ (by simp) ⟨by simp, rfl, fun _ _ _ h2 => absurd h2 (Nat.not_lt_zero _)⟩ ?_
  intro ⟨k, ms⟩ ⟨g1, g2, g3⟩
  dsimp only at g1 g2 g3 ⊢
  by_cases hkl : k < L.length
  · have hc1 : k < vs.length := by omega
    have hc2 : k < hs.length := by omega
    have hsn := mcnt_take (f := List.length) hkl
    have hlt := mcnt_take_le (f := List.length) (k + 1) L
    have hd : (hs.drop k).flatten = hs[k] ++ (hs.drop (k + 1)).flatten := by rw [List.drop_eq_getElem_cons hc2]; rfl
    have o0 := hall k hkl hc1 hc2
    have hne : (vs.map fun a => [a]).flatten ≠ [] := by rw [sing_flat]; exact fun q => by rw [q] at hc1; simp at hc1
    refine run_some 0 rfl hne (fun b2 hb2 => ?_)
    subst hb2
    rw [hd]
    refine run_heq (h' := ⟨some b2, 22, cap * 1, (vs.map fun a => [a]).flatten⟩ :: (ms.flatten ++ (hs[k] ++ ((hs.drop (k + 1)).flatten ++ F)))) (by simp only [List.append_assoc]) ?_
    repeat' (first
      | (refine j_go ?_; first
        | refine j_op0 rfl rfl rfl rfl ?_ | (refine j_kIdx rfl ?_; first | refine j_midx rfl rfl rfl rfl rfl (by first | omega | (simp only [List.length_append, List.length_cons, List.length_nil]; omega)) rfl rfl ?_) | (refine j_kLen rfl ?_; first | refine j_op rfl rfl rfl rfl ?_))
      | refine j_nil ?_
      | (refine r_go ?_; first | refine run_seq ?_ | refine run_region ?_ | (refine (run_if rfl (fun hb => ?_) (fun hb => ?_)) <;> first | (exfalso; omega) | skip) | refine run_block ?_ | refine run_skip ?_)
      | refine seqQ_normal ?_)
    refine j_mloadE 0 k (g := fun a => [a]) (L := vs) (z := 1) rfl rfl rfl rfl (fun _ => rfl) rfl hc1 (fun _ => rfl) rfl rfl ?_
    repeat' (first
      | (refine j_go ?_; first
        | refine j_op0 rfl rfl rfl rfl ?_))
    refine j_kCall rfl rfl rfl rfl ?_
    refine jcp _ (r_markI _ _ _ (k0 + mcnt List.length (L.take k)) o0 (by omega)) (pmid0 (l1 := _ :: ms.flatten)) (LeL.refl _) rfl rfl (fun v h1 hR => ?_)
    obtain ⟨rfl, hR⟩ := hR
    repeat' (first
      | (refine j_go ?_; first
        | refine j_op0 rfl rfl rfl rfl ?_ | (refine j_kBin rfl ?_; first | refine j_in rfl rfl ⟨by omega, by omega⟩ rfl rfl ?_))
      | refine j_nil ?_
      | (refine r_go ?_; first | refine run_region ?_)
      | refine seqQ_normal ?_ | refine blockQ_normal ?_)
    refine loopQ_view (view_perm (h' := ⟨some b2, 22, cap * 1, (vs.map fun a => [a]).flatten⟩ :: ((ms ++ [h1]).flatten ++ ((hs.drop (k + 1)).flatten ++ F))) (by
      simp only [List.flatten_append, List.flatten_cons, List.flatten_nil, List.append_nil, List.append_assoc, List.cons_append]
      exact (by classical exact List.perm_iff_count.2 fun _ => by simp only [List.count_append, List.count_cons]; omega))) ?_
    refine loopQ_next (k + 1, ms ++ [h1]) ⟨by dsimp only; omega, by simp [g2], fun i h0 h1' h2' => ?_⟩ (by dsimp only; omega) rfl ⟨rfl, (by dsimp only; rw [hsn, ← Nat.add_assoc]; rfl), nx _, trivial⟩
    dsimp only at h2' ⊢
    by_cases hik : i < k
    · rw [List.getElem_append_left (by omega)]; exact g3 i h0 h1' (by omega)
    · have : i = k := by simp at h2'; omega
      subst this
      rw [List.getElem_append_right (by omega)]
      simpa [g2] using hR
  · repeat' (first
      | (refine j_go ?_; first
        | refine j_op0 rfl rfl rfl rfl ?_ | (refine j_kLen rfl ?_; first | refine j_op rfl rfl rfl rfl ?_))
      | refine j_nil ?_
      | (refine r_go ?_; first | refine run_seq ?_ | refine run_region ?_ | (refine (run_if rfl (fun hb => ?_) (fun hb => ?_)) <;> first | (exfalso; omega) | skip) | refine run_ret ?_ | refine run_exit ?_)
      | refine seqQ_normal ?_ | refine seqQ_exit ?_ | refine blockQ_eq ?_ | refine loopQ_exit ?_)
    have : k = L.length := by omega
    subst this
    have e : (hs.drop L.length).flatten = [] := by rw [List.drop_of_length_le (by omega)]; rfl
    have e2 : mcnt List.length (L.take L.length) = mcnt List.length L := by rw [List.take_length]
    exact endD_ret (h1 := ⟨b, 22, cap * 1, (vs.map fun a => [a]).flatten⟩ :: ms.flatten) (by rw [e]; simp) (.cons (.tmp rfl) .nil) (Le.refl _) ⟨by rw [e2]; rfl, .inl ⟨b, cap, vs, ms, by rw [markedII_len]; exact l1, by rw [markedII_len]; exact g2, fun i h0 h1 h2 => by
      rw [markedII_get L k0 i (by rw [markedII_len] at h0; exact h0)]
      exact g3 i (by rw [markedII_len] at h0; exact h0) h1 h2, by rw [markedII_len], rfl⟩⟩ (.inl rfl)

theorem OwnF.okc {α : Type} {g : α → List A} {T z : Nat} {l : List α} {a : A} {h : Heap} (o : OwnF g T z l a h) : okCell a = true := by
  rcases o with ⟨b, cap, rfl, rfl⟩ | ⟨rfl, rfl, rfl⟩ <;> rfl
theorem OwnLL.okc {β : Type} {O : β → A → Heap → Prop} {T : Nat} {L : List β} {a : A} {h : Heap} (o : OwnLL O T L a h) : okCell a = true := by
  rcases o with ⟨b, cap, vs, hs, _, _, _, rfl, rfl⟩ | ⟨rfl, rfl, rfl⟩ <;> rfl

theorem ROI.frzF {l : List Int} {a : A} {h : Heap} (o : ROI l a h) : FrzF h a (.sl (l.map Go.AI.encI)) := OwnF.frzF (fun _ => rfl) rfl o
theorem ROB.frzF {l : List Bool} {a : A} {h : Heap} (o : ROB l a h) : FrzF h a (.sl (l.map encB)) := OwnF.frzF (fun _ => rfl) rfl o
theorem ROII.frzF {l : List (List Int)} {a : A} {h : Heap} (o : ROII l a h) : FrzF h a (.sl (l.map (encS Go.AI.encI))) := OwnLL.frzF (enc := fun x => (x.map Go.AI.encI)) (fun _ _ _ q => q.frzF) o (fun _ => rfl)
end Go.Proofs.Ytandldhceabdiaa

/-
  What a rule changes, in memory of the call's own: ChangeOf. No condition.
-/
namespace Go.Proofs.Ytandldhceabdiaa
open Go.AI
set_option maxRecDepth 8000
set_option maxHeartbeats 1600000

def addL (L : List (List Int)) (c : Nat) (b : List Int) (m : Int) : List (List Int) := L.set c (plusL (L.getD c []) b m)
theorem addL_get {L : List (List Int)} {c : Nat} (hc : c < L.length) (b : List Int) (m : Int) : addL L c b m = L.set c (plusL L[c] b m) := by unfold addL; rw [getD_get hc]
structure ChOk (s : System) (L : List (List Int)) (B : Int) : Prop where
  n : L.length = s.parents.length + 1
  b : ∀ x ∈ L, (x.length : Int) = s.kinds ∧ ∀ y ∈ x, -B ≤ y ∧ y ≤ B
theorem ChOk.fits {s : System} {L : List (List Int)} {B : Int} (h : ChOk s L B) (hk : 1 ≤ s.kinds ∧ s.kinds ≤ 8) (hB : B ≤ 1000000) {c : Nat} (hc : c < L.length) {b : List Int} (hb : BagK s.kinds b) {m : Int} (hm : m = 1 ∨ m = -1) : Fits L[c] b m := by
  have q := h.b _ (List.getElem_mem hc)
  have e := hb.2
  refine ⟨by omega, by omega, fun x hx => by have := q.2 x hx; omega, fun y hy => ?_⟩
  have := hb.1.1 y hy
  rcases hm with rfl | rfl <;> omega
theorem ChOk.add {s : System} {L : List (List Int)} {B : Int} (h : ChOk s L B) {c : Nat} (hc : c < L.length) {b : List Int} (hb : BagK s.kinds b) {m : Int} (hm : m = 1 ∨ m = -1) : ChOk s (addL L c b m) (B + 1000) := by
  rw [addL_get hc]
  refine ⟨by rw [List.length_set]; exact h.n, fun x hx => ?_⟩
  rcases List.mem_or_eq_of_mem_set hx with hx | rfl
  · have q := h.b x hx
    exact ⟨q.1, fun y hy => by have := q.2 y hy; omega⟩
  · have q := h.b _ (List.getElem_mem hc)
    have e := hb.2
    unfold plusL
    refine ⟨by rw [List.length_zipWith]; have := q.1; omega, fun y hy => ?_⟩
    obtain ⟨i, hi, rfl⟩ := List.getElem_of_mem hy
    rw [List.length_zipWith] at hi
    rw [List.getElem_zipWith]
    have h1 := q.2 _ (List.getElem_mem (n := i) (by omega))
    have h2 := hb.1.1 _ (List.getElem_mem (n := i) (by omega))
    rcases hm with rfl | rfl <;> omega
def toC (s : System) (t : State) (r : Rule) : Nat := if 0 ≤ pnow s t r.cell then (pnow s t r.cell).toNat else s.parents.length
def z0 (s : System) : List (List Int) := List.replicate (s.parents.length + 1) (List.replicate s.kinds.toNat 0)
def ch1 (s : System) (r : Rule) : List (List Int) := addL (z0 s) r.cell.toNat r.need (-1)
def ch2 (s : System) (r : Rule) : List (List Int) := addL (ch1 s r) r.cell.toNat r.here 1
def ch3 (s : System) (t : State) (r : Rule) : List (List Int) := addL (ch2 s r) (toC s t r) r.out 1
def chK (L : List (List Int)) (r : Rule) : Nat → List (List Int)
  | 0 => L
  | k + 1 => addL (chK L r k) (r.into.getD k default).cell.toNat (r.into.getD k default).bag 1
def chF (s : System) (t : State) (r : Rule) : List (List Int) := chK (ch3 s t r) r r.into.length
theorem z0_ok {s : System} (hk : 1 ≤ s.kinds ∧ s.kinds ≤ 8) : ChOk s (z0 s) 0 := by
  unfold z0
  refine ⟨by simp, fun x hx => ?_⟩
  rw [List.eq_of_mem_replicate hx]
  exact ⟨by rw [List.length_replicate]; omega, fun y hy => by rw [List.eq_of_mem_replicate hy]; omega⟩
theorem toC_lt {s : System} {t : State} {r : Rule} (hv : s.Ok) (hr : s.RuleOk r) : toC s t r < s.parents.length + 1 := by
  have := pnow_bnd (t := t) hv hr.1
  unfold toC
  split <;> omega
structure Chs (s : System) (t : State) (r : Rule) : Prop where
  k : 1 ≤ s.kinds ∧ s.kinds ≤ 8
  c : r.cell.toNat < s.parents.length + 1
  to : toC s t r < s.parents.length + 1
  o1 : ChOk s (ch1 s r) 1000
  o2 : ChOk s (ch2 s r) 2000
  o3 : ChOk s (ch3 s t r) 3000
theorem chs {s : System} {t : State} {r : Rule} (hv : s.Ok) (hr : s.RuleOk r) : Chs s t r := by
  have k8 := hv.1.1
  have h0 := hr.1
  have ht := toC_lt (t := t) hv hr
  obtain ⟨_, _, _, _, b1, _, _, b2, b3, _⟩ := hr
  have o0 := z0_ok k8
  have o1 : ChOk s (ch1 s r) 1000 := by
    exact o0.add (c := r.cell.toNat) (by have := o0.n; omega) b1 (.inr rfl)
  have o2 : ChOk s (ch2 s r) 2000 := o1.add (c := r.cell.toNat) (by have := o1.n; omega) b2 (.inl rfl)
  have o3 : ChOk s (ch3 s t r) 3000 := o2.add (c := toC s t r) (by have := o2.n; omega) b3 (.inl rfl)
  exact ⟨k8, by omega, ht, o1, o2, o3⟩
open Classical in
noncomputable def resChangeOf (s : System) (t : State) (i : Int) : List (List Int) := if s.Ok ∧ s.StateOk t ∧ (0 ≤ i ∧ i ≤ (s.rules.length : Int) - 1) ∧ EnP s t (s.rules.getD i.toNat default) then chF s t (s.rules.getD i.toNat default) else []
open Classical in
noncomputable def codeChangeOf (s : System) (t : State) (i : Int) : Int := if s.Ok ∧ s.StateOk t then if 0 ≤ i ∧ i ≤ (s.rules.length : Int) - 1 then if EnP s t (s.rules.getD i.toNat default) then 0 else 4 else 2 else 1
end Go.Proofs.Ytandldhceabdiaa
