/-
  Choices: what the program computes of them; IsChoice, IsMaximal. No condition.
-/
import Derived.Test.YtgjlemedckhlfaaZS3d
import Derived.Test.YtgjlemedckhlfaaZHBase
import Derived.Test.YtgjlemedckhlfaaZJA
import Derived.Test.YtgjlemedckhlfaaZOwn
namespace Go.Proofs.Ytgjlemedckhlfaa
open Go.AI
set_option maxRecDepth 8000
set_option maxHeartbeats 1600000

theorem c_slIndex (l : List Int) (x : Int) : Gives Try.prog 220 [.sl (l.map encI), .int x] (.int (fIdx (fun y => x = y) l)) := by
  refine fn_of_run tyOk ztOk mix Try.func220 rfl (by decide) Try.ntmps220 (fun w0 h => ?_)
  refine run_len (t := 0) rfl (fun hl => ?_)
  rw [List.length_map] at hl
  repeat' (first
      | (refine j_go ?_; first
        | refine j_op0 rfl rfl rfl rfl ?_ | (refine j_kLen rfl ?_; first | refine j_len rfl rfl rfl rfl rfl rfl ?_))
      | refine j_nil ?_
      | (refine r_go ?_; first | refine run_seq ?_ | refine run_region ?_ | refine run_block ?_)
      | refine seqQ_normal ?_)
  refine run_loop (fun k : Nat => [(0, .sl (l.map encI)), (1, .int x), (7, .int l.length), (8, .int (k : Int))]) (fun _ => _) (fun k => k ≤ l.length ∧ (∀ i (h : i < l.length), i < k → ¬ x = l[i])) (fun k => l.length - k) 0 ⟨rfl, rfl, rfl, rfl, trivial⟩ rfl ⟨Nat.zero_le _, by first | (intros; omega) | (simp; done) | rfl | trivial | exact ⟨by simp [sumF], by intros; omega⟩ | exact ⟨by omega, by simp⟩⟩ (fun k ⟨kl, kp⟩ => ?_)
  repeat' (first
      | (refine j_go ?_; first
        | refine j_op0 rfl rfl rfl rfl ?_ | (refine j_kIdx rfl ?_; first | refine j_idx rfl rfl rfl rfl rfl (by omega) rfl rfl rfl ?_) | (refine j_kBin rfl ?_; first | refine j_in rfl rfl ⟨by omega, by omega⟩ rfl rfl ?_))
      | refine j_nil ?_
      | (refine r_go ?_; first | refine run_seq ?_ | refine run_region ?_ | (refine (run_if rfl (fun hb => ?_) (fun hb => ?_)) <;> first | (exfalso; omega) | skip) | refine run_block ?_ | refine run_ret ?_ | refine run_exit ?_ | refine run_skip ?_)
      | refine seqQ_normal ?_ | refine seqQ_ret ?_ | refine seqQ_exit ?_ | refine blockQ_normal ?_ | refine blockQ_ret ?_ | refine blockQ_eq ?_ | refine loopQ_ret ?_ | refine loopQ_exit ?_)
  · exact end1 rfl (List.Sublist.refl _) (ai (fIdx_at (by omega) hb kp).symm) (.inl rfl)
  · exact loopQ_nextD (k + 1) ⟨by omega, all_step kp (fun _ => hb)⟩ (by omega) (by first | exact List.Sublist.refl _ | exact sub1 | exact sub2 | exact sub3) ⟨rfl, rfl, rfl, nx _, trivial⟩
  · exact end1 rfl (List.Sublist.refl _) (ai (fIdx_none (fun i h => kp i h (by omega))).symm) (.inl rfl)
theorem c_slContains (l : List Int) (x : Int) : Gives Try.prog 135 [.sl (l.map encI), .int x] (.raw (.bool (dec (x ∈ l)))) := by
  refine fn_of_run tyOk ztOk mix Try.func135 rfl (by decide) Try.ntmps135 (fun w0 h => ?_)
  repeat' (first
      | (refine j_go ?_; first
        | refine j_op0 rfl rfl rfl rfl ?_ | (refine j_kCall rfl rfl rfl rfl ?_; first | refine jc (c_slIndex _ _) (LeL.refl _) rfl rfl ?_))
      | refine j_nil ?_
      | (refine r_go ?_; first | refine run_seq ?_ | refine run_region ?_ | refine run_ret ?_)
      | refine seqQ_normal ?_)
  exact end1 rfl (List.Sublist.refl _) (rbD (by rw [fIdx_ex]; exact ⟨fun ⟨y, hy, e⟩ => e ▸ hy, fun q => ⟨x, q, rfl⟩⟩)) (.inl rfl)

/-- All rules that are counted are applicable. -/
def AllApp (s : System) (t : State) (cs : List Int) : Prop := ∀ i (h : i < s.rules.length) (h2 : i < cs.length), 0 < cs[i] → App s t s.rules[i]
open Classical in
noncomputable def restI (s : System) (t : State) (cs : List Int) : A := if AllApp s t cs then .sl ((restK s t cs s.rules.length).map (encS encI)) else .os none 0 0
end Go.Proofs.Ytgjlemedckhlfaa

/-
  Copies of lists in memory of the call's own, their marks, and what is held. No condition but that the sizes are bounded.
-/
namespace Go.Proofs.Ytgjlemedckhlfaa
open Go.AI
set_option maxRecDepth 8000
set_option maxHeartbeats 1600000
def EI (x : Int) (cs : List A) (h : Heap) : Prop := cs = encI x ∧ h = []
def EII (x : List Int) (cs : List A) (h : Heap) : Prop := ∃ a, cs = [a] ∧ OwnSl EI 2 1 x a h
theorem EI_frz (x : Int) (cs : List A) (h : Heap) (q : EI x cs h) : FrzL h cs (encI x) := by obtain ⟨rfl, rfl⟩ := q; exact FrzL.cons (Frz.same _ _) (FrzL.nil _)
theorem EII_frz (x : List Int) (cs : List A) (h : Heap) (q : EII x cs h) : FrzL h cs (encS encI x) := by obtain ⟨a, rfl, q⟩ := q; exact FrzL.cons (q.frz (fun _ => rfl) EI_frz) (FrzL.nil _)
theorem n_toInt64S (l : List Int) (hl : l.length ≤ 1048576) : Does Try.prog 30 [.sl (l.map encI)] [] (fun v h' => OwnSl EI 2 1 l v h') := by
  refine fn_of_runD tyOk ztOk mix Try.func30 rfl (by decide) Try.ntmps30 (fun w0 F => ?_)
  change Run _ _ _ _ _ F
  repeat' (first
      | (refine j_go ?_; first
        | refine j_op0 rfl rfl rfl rfl ?_ | (refine j_kLen rfl ?_; first | refine j_len rfl rfl rfl rfl rfl rfl ?_))
      | refine j_nil ?_
      | (refine r_go ?_; first | refine run_seq ?_ | refine run_region ?_)
      | refine seqQ_normal ?_)
  refine j_makeI (g := encI) 0 rfl rfl rfl rfl rfl rfl rfl rfl rfl (by omega) rfl rfl (fun b => ?_)
  repeat' (first
      | (refine j_go ?_; first
        | refine j_op0 rfl rfl rfl rfl ?_)
      | refine j_nil ?_
      | (refine r_go ?_; first | refine run_seq ?_ | refine run_region ?_ | refine run_block ?_)
      | refine seqQ_normal ?_)
  refine run_loop (fun k : Nat => [(0, .sl (l.map encI)), (3, .os (some b) l.length l.length), (4, .int (k : Int))]) (fun k => ⟨some b, 2, l.length * 1, ((l.take k ++ List.replicate (l.length - k) 0).map encI).flatten⟩ :: F)
      (fun k => k ≤ l.length) (fun k => l.length - k) 0 ⟨rfl, rfl, rfl, trivial⟩ (by simp) (by omega) ?_
  intro k g1
  repeat' (first
      | (refine j_go ?_; first
        | refine j_op0 rfl rfl rfl rfl ?_ | (refine j_kIdx rfl ?_; first | refine j_idx rfl rfl rfl rfl rfl (by omega) rfl rfl rfl ?_ | refine j_midx rfl rfl rfl rfl rfl (by first | omega | (simp only [List.length_append, List.length_cons, List.length_nil]; omega)) rfl rfl ?_) | (refine j_kLen rfl ?_; first | refine j_len rfl rfl rfl rfl rfl rfl ?_))
      | refine j_nil ?_
      | (refine r_go ?_; first | refine run_seq ?_ | refine run_region ?_ | (refine (run_if rfl (fun hb => ?_) (fun hb => ?_)) <;> first | (exfalso; omega) | skip) | refine run_block ?_ | refine run_ret ?_ | refine run_exit ?_ | refine run_skip ?_)
      | refine seqQ_normal ?_ | refine seqQ_exit ?_ | refine blockQ_eq ?_ | refine loopQ_exit ?_)
  · have hk : k < l.length := by omega
    refine j_storeE 0 k (g := encI) l[k] rfl rfl rfl rfl rfl rfl rfl rfl rfl (fun _ => rfl : ∀ y, (encI y).length = 1) rfl (by simp; omega) ?_
    repeat' (first
      | (refine j_go ?_; first
        | refine j_op0 rfl rfl rfl rfl ?_ | (refine j_kBin rfl ?_; first | refine j_in rfl rfl ⟨by omega, by omega⟩ rfl rfl ?_))
      | refine j_nil ?_
      | (refine r_go ?_; first | refine run_region ?_)
      | refine seqQ_normal ?_ | refine blockQ_normal ?_)
    exact loopQ_next (k + 1) (by omega) (by omega) (by rw [← take_rep_set hk]; rfl) ⟨rfl, rfl, nx _, trivial⟩
  · have : k = l.length := by omega
    subst this
    refine endD_ret (h1 := [⟨some b, 2, l.length * 1, (l.map encI).flatten⟩]) (by simp) (.cons (.tmp rfl) .nil) (Le.refl _) (own_flat fun _ => rfl) (.inl rfl)
/-- .. whatever stood there. -/
theorem x_markInt64S (b : Option Nat) (cap room k0 : Nat) (cs : List A) (hk : k0 + cs.length ≤ 4611686018427387904) :
    Does Try.prog 37 [.os b cs.length cap, .int (k0 : Int)] [⟨b, 2, room, (cs.map fun a => [a]).flatten⟩] (fun v h' => v = .int ((k0 + cs.length : Nat) : Int) ∧ h' = [⟨b, 2, room, (((List.range cs.length).map fun i => A.int ((k0 + i : Nat) : Int)).map fun a => [a]).flatten⟩]) := by
  refine fn_of_runD tyOk ztOk mix Try.func37 rfl (by decide) Try.ntmps37 (fun w0 F => ?_)
  repeat' (first
      | (refine j_go ?_; first
        | refine j_op0 rfl rfl rfl rfl ?_)
      | refine j_nil ?_
      | (refine r_go ?_; first | refine run_seq ?_ | refine run_region ?_ | refine run_block ?_)
      | refine seqQ_normal ?_)
  refine run_loop (fun i : Nat => [(0, .os b cs.length cap), (1, .int ((k0 + i : Nat) : Int)), (5, .int (i : Int))]) (fun i => ⟨b, 2, room, ((((List.range i).map fun q => A.int ((k0 + q : Nat) : Int)) ++ cs.drop i).map fun a => [a]).flatten⟩ :: F)
      (fun i => i ≤ cs.length) (fun i => cs.length - i) 0 ⟨rfl, rfl, rfl, trivial⟩ (by simp) (by omega) ?_
  intro i g1
  by_cases hi : i < cs.length
  · refine run_some 0 rfl (by rw [sing_flat]; intro q; have := congrArg List.length q; simp at this; omega) (fun b' hb' => ?_)
    subst hb'
    repeat' (first
      | (refine j_go ?_; first
        | refine j_op0 rfl rfl rfl rfl ?_ | (refine j_kIdx rfl ?_; first | refine j_midx rfl rfl rfl rfl rfl (by first | omega | (simp only [List.length_append, List.length_cons, List.length_nil]; omega)) rfl rfl ?_) | (refine j_kLen rfl ?_; first | refine j_op rfl rfl rfl rfl ?_))
      | refine j_nil ?_
      | (refine r_go ?_; first | refine run_seq ?_ | refine run_region ?_ | (refine (run_if rfl (fun hb => ?_) (fun hb => ?_)) <;> first | (exfalso; omega) | skip) | refine run_block ?_ | refine run_skip ?_)
      | refine seqQ_normal ?_)
    refine j_storeE 0 i (g := fun a => [a]) (A.int ((k0 + i : Nat) : Int)) rfl rfl rfl rfl rfl rfl rfl rfl rfl (fun _ => rfl : ∀ y, ([y] : List A).length = 1) rfl (by simp; omega) ?_
    repeat' (first
      | (refine j_go ?_; first
        | refine j_op0 rfl rfl rfl rfl ?_ | (refine j_kBin rfl ?_; first | refine j_in rfl rfl ⟨by omega, by omega⟩ rfl rfl ?_))
      | refine j_nil ?_
      | (refine r_go ?_; first | refine run_region ?_)
      | refine seqQ_normal ?_ | refine blockQ_normal ?_)
    exact loopQ_next (i + 1) (by omega) (by omega) (by rw [← range_set (f := fun q => A.int ((k0 + q : Nat) : Int)) _ rfl hi]; rfl) ⟨rfl, nx (k0 + i), nx _, trivial⟩
  · repeat' (first
      | (refine j_go ?_; first
        | refine j_op0 rfl rfl rfl rfl ?_ | (refine j_kLen rfl ?_; first | refine j_op rfl rfl rfl rfl ?_))
      | refine j_nil ?_
      | (refine r_go ?_; first | refine run_seq ?_ | refine run_region ?_ | (refine (run_if rfl (fun hb => ?_) (fun hb => ?_)) <;> first | (exfalso; omega) | skip) | refine run_ret ?_ | refine run_exit ?_)
      | refine seqQ_normal ?_ | refine seqQ_exit ?_ | refine blockQ_eq ?_ | refine loopQ_exit ?_)
    have : i = cs.length := by omega
    subst this
    exact endD_ret (h1 := [_]) rfl (.cons (.tmp rfl) .nil) (Le.refl _) ⟨rfl, by rw [List.drop_length, List.append_nil]⟩ (.inl rfl)
theorem m_markInt64S (l : List Int) (a : A) (h : Heap) (k0 : Nat) (ho : OwnSl EI 2 1 l a h) (hk : k0 + l.length ≤ 4611686018427387904) : Does Try.prog 37 [a, .int (k0 : Int)] h (fun v h' => v = .int ((k0 + l.length : Nat) : Int) ∧ h' = []) := by
  obtain ⟨b, cs, rfl, hc, rfl⟩ := own_unflat (fun x => ⟨_, rfl⟩) ho
  have := x_markInt64S (some b) l.length (l.length * 1) k0 cs (by omega)
  rw [hc] at this
  exact this.drop fun v h' ⟨q1, q2⟩ => ⟨h', [], .refl _, List.nil_sublist _, q1, rfl⟩
theorem c_heldInt64S (L : List Int) (k0 : Nat) (hL : ∀ i (h : i < L.length), L[i] = ((k0 + i : Nat) : Int)) (hk : k0 + L.length ≤ 4611686018427387904) : Gives Try.prog 52 [.sl (L.map encI), .int (k0 : Int)] (.int ((k0 + L.length : Nat) : Int)) := by
  refine fn_of_run tyOk ztOk mix Try.func52 rfl (by decide) Try.ntmps52 (fun w0 h => ?_)
  repeat' (first
      | (refine j_go ?_; first
        | refine j_op0 rfl rfl rfl rfl ?_)
      | refine j_nil ?_
      | (refine r_go ?_; first | refine run_seq ?_ | refine run_region ?_ | refine run_block ?_)
      | refine seqQ_normal ?_)
  refine run_loop (fun i : Nat => [(0, .sl (L.map encI)), (1, .int ((k0 + i : Nat) : Int)), (5, .int (i : Int))]) (fun _ => h) (fun i => i ≤ L.length) (fun i => L.length - i) 0 ⟨rfl, rfl, rfl, trivial⟩ rfl (by omega) ?_
  intro i g1
  by_cases hi : i < L.length
  · have hLi := hL i hi
    repeat' (first
      | (refine j_go ?_; first
        | refine j_op0 rfl rfl rfl rfl ?_ | (refine j_kIdx rfl ?_; first | refine j_idx rfl rfl rfl rfl rfl (by omega) rfl rfl rfl ?_) | (refine j_kBin rfl ?_; first | refine j_in rfl rfl ⟨by omega, by omega⟩ rfl rfl ?_) | (refine j_kLen rfl ?_; first | refine j_len rfl rfl rfl rfl rfl rfl ?_))
      | refine j_nil ?_
      | (refine r_go ?_; first | refine run_seq ?_ | refine run_region ?_ | (refine (run_if rfl (fun hb => ?_) (fun hb => ?_)) <;> first | (exfalso; omega) | skip) | (refine (run_ifn rfl (fun hb => ?_) (fun hb => ?_)) <;> first | (exfalso; omega) | skip) | refine run_block ?_ | refine run_skip ?_)
      | refine seqQ_normal ?_ | refine blockQ_normal ?_)
    all_goals first | exact loopQ_next (i + 1) (by omega) (by omega) rfl ⟨rfl, nx (k0 + i), nx _, trivial⟩ | exact absurd hLi hb
  · repeat' (first
      | (refine j_go ?_; first
        | refine j_op0 rfl rfl rfl rfl ?_ | (refine j_kLen rfl ?_; first | refine j_len rfl rfl rfl rfl rfl rfl ?_))
      | refine j_nil ?_
      | (refine r_go ?_; first | refine run_seq ?_ | refine run_region ?_ | (refine (run_if rfl (fun hb => ?_) (fun hb => ?_)) <;> first | (exfalso; omega) | skip) | refine run_ret ?_ | refine run_exit ?_)
      | refine seqQ_normal ?_ | refine seqQ_exit ?_ | refine blockQ_eq ?_ | refine loopQ_exit ?_)
    have : i = L.length := by omega
    subst this
    exact end1 rfl (List.Sublist.refl _) rfl (.inl rfl)
def marked (k0 n : Nat) : List Int := (List.range n).map fun i => ((k0 + i : Nat) : Int)
theorem x_markI (b : Option Nat) (cap k0 : Nat) (r : List Int) (hk : k0 + r.length ≤ 4611686018427387904) :
    Does Try.prog 37 [.os b r.length cap, .int (k0 : Int)] [⟨b, 2, cap * 1, (r.map encI).flatten⟩] (fun v h' => v = .int ((k0 + r.length : Nat) : Int) ∧ h' = [⟨b, 2, cap * 1, ((marked k0 r.length).map encI).flatten⟩]) := by
  have := x_markInt64S b cap (cap * 1) k0 (r.map A.int) (by simpa using hk)
  have e1 : ((r.map A.int).map fun a => [a]) = r.map encI := by simp [encI]
  have e2 : (((List.range r.length).map fun i => A.int ((k0 + i : Nat) : Int)).map fun a => [a]) = (marked k0 r.length).map encI := by simp [encI, marked]
  rw [e1, List.length_map, e2] at this
  exact this
theorem n_toInt64SS (l : List (List Int)) (hl : l.length ≤ 1048576) (hl2 : ∀ x ∈ l, (fun r : List Int => r.length ≤ 1048576) x) : Does Try.prog 82 [.sl (l.map (encS encI))] [] (fun v h' => OwnSl EII 22 1 l v h') := by
  refine fn_of_runD tyOk ztOk mix Try.func82 rfl (by decide) Try.ntmps82 (fun w0 F => ?_)
  change Run _ _ _ _ _ F
  repeat' (first
      | (refine j_go ?_; first
        | refine j_op0 rfl rfl rfl rfl ?_ | (refine j_kLen rfl ?_; first | refine j_len rfl rfl rfl rfl rfl rfl ?_))
      | refine j_nil ?_
      | (refine r_go ?_; first | refine run_seq ?_ | refine run_region ?_)
      | refine seqQ_normal ?_)
  refine j_makeI (g := Subtype.val) (⟨[.sl []], rfl⟩ : Cells 1) rfl rfl rfl rfl rfl rfl rfl rfl rfl (by omega) rfl rfl (fun b => ?_)
  repeat' (first
      | (refine j_go ?_; first
        | refine j_op0 rfl rfl rfl rfl ?_)
      | refine j_nil ?_
      | (refine r_go ?_; first | refine run_seq ?_ | refine run_region ?_ | refine run_block ?_)
      | refine seqQ_normal ?_)
  refine run_loop (fun s : Nat × List (Cells 1) × List Heap => [(0, .sl (l.map (encS encI))), (3, .os (some b) l.length l.length), (4, .int (s.1 : Int))])
      (fun s => ⟨some b, 22, l.length * 1, ((s.2.1 ++ List.replicate (l.length - s.1) (⟨[.sl []], rfl⟩ : Cells 1)).map Subtype.val).flatten⟩ :: (s.2.2.flatten ++ F))
      (fun s => s.1 ≤ l.length ∧ s.2.1.length = s.1 ∧ s.2.2.length = s.1 ∧ ∀ i (hi : i < l.length) (h1 : i < s.2.1.length) (h2 : i < s.2.2.length), EII l[i] s.2.1[i].1 s.2.2[i]) (fun s => l.length - s.1) (0, [], []) ⟨rfl, rfl, rfl, trivial⟩ (by simp) ⟨by simp, rfl, rfl, fun i _ h1 => absurd h1 (Nat.not_lt_zero _)⟩ ?_
  intro ⟨k, css, hs⟩ ⟨g1, g2, g3, g4⟩
  dsimp only at g1 g2 g3 g4 ⊢
  repeat' (first
      | (refine j_go ?_; first
        | refine j_op0 rfl rfl rfl rfl ?_ | (refine j_kIdx rfl ?_; first | refine j_idx rfl rfl rfl rfl rfl (by omega) rfl rfl rfl ?_) | (refine j_kLen rfl ?_; first | refine j_len rfl rfl rfl rfl rfl rfl ?_))
      | refine j_nil ?_
      | (refine r_go ?_; first | refine run_seq ?_ | refine run_region ?_ | (refine (run_if rfl (fun hb => ?_) (fun hb => ?_)) <;> first | (exfalso; omega) | skip) | refine run_block ?_ | refine run_ret ?_ | refine run_exit ?_ | refine run_skip ?_)
      | refine seqQ_normal ?_ | refine seqQ_exit ?_ | refine blockQ_eq ?_ | refine loopQ_exit ?_)
  · have hk : k < l.length := by omega
    refine j_kCall rfl rfl rfl rfl ?_
    refine jcp _ (n_toInt64S l[k] (hl2 _ (List.getElem_mem _))) (List.Perm.refl _) (LeL.refl _) rfl rfl (fun v h1 hR => ?_)
    have hE : EII l[k] [v] h1 := ⟨v, rfl, hR⟩
    obtain ⟨b1, rfl⟩ := hR.isos
    have hok : ([A.os (some b1) l[k].length l[k].length]).all okCell = true := rfl
    repeat' (first
      | (refine j_go ?_; first
        | (refine j_kIdx rfl ?_; first | refine j_midx rfl rfl rfl rfl rfl (by first | omega | (simp only [List.length_append, List.length_cons, List.length_nil]; omega)) rfl rfl ?_)))
    refine j_view (view_perm List.perm_middle) ?_
    refine j_storeE 0 k (g := Subtype.val) (⟨[A.os (some b1) l[k].length l[k].length], rfl⟩ : Cells 1) rfl rfl rfl rfl rfl rfl rfl rfl hok (fun y => y.2 : ∀ y : Cells 1, y.1.length = 1) rfl (by simp; omega) ?_
    repeat' (first
      | (refine j_go ?_; first
        | refine j_op0 rfl rfl rfl rfl ?_ | (refine j_kBin rfl ?_; first | refine j_in rfl rfl ⟨by omega, by omega⟩ rfl rfl ?_))
      | refine j_nil ?_
      | (refine r_go ?_; first | refine run_region ?_)
      | refine seqQ_normal ?_ | refine blockQ_normal ?_)
    refine loopQ_view (view_perm (h' := ⟨some b, 22, l.length * 1, (((css ++ [(⟨[A.os (some b1) l[k].length l[k].length], rfl⟩ : Cells 1)]) ++ List.replicate (l.length - (k + 1)) (⟨[.sl []], rfl⟩ : Cells 1)).map Subtype.val).flatten⟩ :: ((hs ++ [h1]).flatten ++ F)) (by rw [app_rep_set g2 hk]; exact .cons _ (by simp only [List.flatten_append, List.flatten_cons, List.flatten_nil, List.append_nil]; exact (by classical exact List.perm_iff_count.2 fun _ => by simp only [List.count_append, List.count_cons, List.count_nil, Nat.add_zero, Nat.zero_add]; first | done | ac_rfl | omega)))) ?_
    exact loopQ_next (k + 1, css ++ [(⟨[A.os (some b1) l[k].length l[k].length], rfl⟩ : Cells 1)], hs ++ [h1]) ⟨by dsimp only; omega, by simp [g2], by simp [g3], fun i hi h1' h2' => own_snoc g2 g3 (hl := hk) g4 hE i hi h1' h2'⟩ (by dsimp only; omega) rfl ⟨rfl, rfl, nx _, trivial⟩
  · have : k = l.length := by omega
    subst this
    exact endD_ret (h1 := ⟨some b, 22, l.length * 1, (css.map Subtype.val).flatten⟩ :: hs.flatten) (by simp) (.cons (.tmp rfl) .nil) (Le.refl _) ⟨b, css, hs, g2, g3, g4, rfl, rfl⟩ (.inl rfl)
theorem m_markInt64SS (l : List (List Int)) (a : A) (h : Heap) (k0 : Nat) (ho : OwnSl EII 22 1 l a h) (hk : k0 + mcnt List.length l ≤ 4611686018427387904) : Does Try.prog 23 [a, .int (k0 : Int)] h (fun v h' => v = .int ((k0 + mcnt List.length l : Nat) : Int) ∧ h' = []) := by
  obtain ⟨b, css, hs, l1, l2, hall, rfl, rfl⟩ := ho
  refine fn_of_runD tyOk ztOk mix Try.func23 rfl (by decide) Try.ntmps23 (fun w0 F => ?_)
  change Run _ _ _ _ _ (⟨some b, 22, l.length * 1, (css.map Subtype.val).flatten⟩ :: (hs.flatten ++ F))
  refine run_olen (t := 0) rfl (fun hol => ?_)
  repeat' (first
      | (refine j_go ?_; first
        | refine j_op0 rfl rfl rfl rfl ?_)
      | refine j_nil ?_
      | (refine r_go ?_; first | refine run_seq ?_ | refine run_region ?_ | refine run_block ?_)
      | refine seqQ_normal ?_)
  refine run_loop (fun s : Nat × Nat × List (Cells 1) => [(0, .os (some b) l.length l.length), (1, .int (s.2.1 : Int)), (5, .int (s.1 : Int))])
    (fun s => ⟨some b, 22, l.length * 1, (s.2.2.map Subtype.val).flatten⟩ :: ((hs.drop s.1).flatten ++ F))
    (fun s => s.1 ≤ l.length ∧ s.2.1 = k0 + mcnt List.length (l.take s.1) ∧ s.2.2.length = l.length ∧ ∀ i, s.1 ≤ i → s.2.2[i]? = css[i]?) (fun s => l.length - s.1) (0, k0, css) ⟨rfl, rfl, rfl, trivial⟩ (by simp) ⟨by simp, by simp [mcnt], l1, fun _ _ => rfl⟩ ?_
  intro ⟨k, kv, cc⟩ ⟨g1, g2, g3, g4⟩
  dsimp only at g1 g2 g3 g4 ⊢
  by_cases hkl : k < l.length
  · have hc1 : k < css.length := by omega
    have hc2 : k < hs.length := by omega
    have hc3 : k < cc.length := by omega
    have e1 : cc[k] = css[k] := by have := g4 k (Nat.le_refl _); simpa [hc1, hc3] using this
    have hsn := mcnt_take (f := List.length) hkl
    have hlt := mcnt_take_le (f := List.length) (k + 1) l
    have hd : (hs.drop k).flatten = hs[k] ++ (hs.drop (k + 1)).flatten := by rw [List.drop_eq_getElem_cons hc2]; rfl
    obtain ⟨a0, ea, o0⟩ := hall k hkl hc1 hc2
    have hcn : List.length l[k] = l[k].length := rfl
    have e0 : cc = cc.set k (⟨[a0], rfl⟩ : Cells 1) := set_own hc3 (by rw [e1, ea])
    obtain ⟨b0, eb0⟩ := o0.isos
    refine run_heq (h' := ⟨some b, 22, l.length * 1, ((cc.set k (⟨[a0], rfl⟩ : Cells 1)).map Subtype.val).flatten⟩ :: (hs[k] ++ ((hs.drop (k + 1)).flatten ++ F))) (by rw [← e0, hd]; simp only [List.append_assoc]) ?_
    subst eb0
    repeat' (first
      | (refine j_go ?_; first
        | refine j_op0 rfl rfl rfl rfl ?_ | (refine j_kIdx rfl ?_; first | refine j_midx rfl rfl rfl rfl rfl (by first | omega | (simp only [List.length_append, List.length_cons, List.length_nil]; omega)) rfl rfl ?_) | (refine j_kLen rfl ?_; first | refine j_op rfl rfl rfl rfl ?_))
      | refine j_nil ?_
      | (refine r_go ?_; first | refine run_seq ?_ | refine run_region ?_ | (refine (run_if rfl (fun hb => ?_) (fun hb => ?_)) <;> first | (exfalso; omega) | skip) | refine run_block ?_ | refine run_skip ?_)
      | refine seqQ_normal ?_)
    refine j_loadS 0 k 0 rfl rfl rfl rfl rfl hc3 rfl (fun rest => rfl) rfl rfl ?_
    repeat' (first
      | (refine j_go ?_; first
        | refine j_op0 rfl rfl rfl rfl ?_))
    refine j_kCall rfl rfl rfl rfl ?_
    refine jcp _ (m_markInt64S _ _ _ (kv) o0 (by first | omega | (simp only [List.length] at *; omega))) List.perm_middle.symm (LeL.refl _) rfl rfl (fun v h1 hR => ?_)
    obtain ⟨rfl, rfl⟩ := hR
    repeat' (first
      | (refine j_go ?_; first
        | refine j_op0 rfl rfl rfl rfl ?_ | (refine j_kBin rfl ?_; first | refine j_in rfl rfl ⟨by omega, by omega⟩ rfl rfl ?_))
      | refine j_nil ?_
      | (refine r_go ?_; first | refine run_region ?_)
      | refine seqQ_normal ?_ | refine blockQ_normal ?_)
    refine loopQ_nextS (c := ?c) (k + 1) (kv + l[k].length) cc k ?g1 ?g2 ?g3 ?g4
    case g3 => rfl
    case g4 => exact ⟨rfl, rfl, nx _, trivial⟩
    case g2 => dsimp only; omega
    case g1 => exact ⟨by dsimp only; omega, by dsimp only; rw [hsn, hcn]; omega, by dsimp only; rw [List.length_set]; omega, fun i hi => by dsimp only at hi ⊢; rw [List.getElem?_set_ne (by omega)]; exact g4 i (by omega)⟩
  · repeat' (first
      | (refine j_go ?_; first
        | refine j_op0 rfl rfl rfl rfl ?_ | (refine j_kLen rfl ?_; first | refine j_op rfl rfl rfl rfl ?_))
      | refine j_nil ?_
      | (refine r_go ?_; first | refine run_seq ?_ | refine run_region ?_ | (refine (run_if rfl (fun hb => ?_) (fun hb => ?_)) <;> first | (exfalso; omega) | skip) | refine run_ret ?_ | refine run_exit ?_)
      | refine seqQ_normal ?_ | refine seqQ_exit ?_ | refine blockQ_eq ?_ | refine loopQ_exit ?_)
    have : k = l.length := by omega
    subst this
    rw [List.take_length] at g2
    subst g2
    exact endD_view (view_sub (h0 := [] ++ F) (by simp)) (endD_ret (h1 := []) rfl (.cons (.tmp rfl) .nil) (Le.refl _) ⟨rfl, rfl⟩ (.inl rfl))
end Go.Proofs.Ytgjlemedckhlfaa

/-
  Lists of numbers that hold what a condition picks, and answers in memory of the call's own. No condition.
-/
namespace Go.Proofs.Ytgjlemedckhlfaa
open Go.AI

open Classical in
/-- A list where a condition holds, else the empty one. -/
noncomputable def lsP (p : Prop) (l : List Int) : List Int := if p then l else []
/-- The numbers below k of which p holds. -/
noncomputable def selL (p : Nat → Prop) (k : Nat) : List Int := ((List.range k).filter (fun i => dec (p i))).map (fun i : Nat => (i : Int))
theorem selL_yes {p : Nat → Prop} {k : Nat} (h : p k) : selL p k ++ [(k : Int)] = selL p (k + 1) := by
  unfold selL
  rw [List.range_succ, List.filter_append, List.map_append, List.filter_cons_of_pos (by exact dec_t h)]
  rfl
theorem selL_no {p : Nat → Prop} {k : Nat} (h : ¬ p k) : selL p k = selL p (k + 1) := by
  unfold selL
  rw [List.range_succ, List.filter_append, List.map_append, List.filter_cons_of_neg (by rw [dec_f h]; simp)]
  simp
theorem selL_len (p : Nat → Prop) (k : Nat) : (selL p k).length ≤ k := by
  unfold selL
  rw [List.length_map]
  exact Nat.le_trans (List.length_filter_le _ _) (by simp)

end Go.Proofs.Ytgjlemedckhlfaa

/-
  The bag of all objects, on both sides: TotalBag. No condition.
-/
namespace Go.Proofs.Ytgjlemedckhlfaa
open Go.AI
set_option maxRecDepth 8000
set_option maxHeartbeats 1600000

/-- A list in memory of the call's own. -/
def OwnL (l : List Int) : A → Heap → Prop := fun v h' => ∃ b cap, v = .os b l.length cap ∧ h' = [⟨b, 2, cap * 1, (l.map encI).flatten⟩]
theorem OwnL.clo {l : List Int} {v : A} {h1 : Heap} (q : OwnL l v h1) : Clo v ∧ CloH h1 := by
  obtain ⟨b, cap, rfl, rfl⟩ := q
  exact ⟨Clo.os _ _ _, CloH.cons (CloL.mapInt _ _) CloH.nil⟩
open Classical in
noncomputable def cdL (p : Prop) : Int := if p then 0 else 3
/-- All objects of what is around and of the first k cells. -/
def totK (t : State) : Nat → List Int
  | 0 => t.around
  | k + 1 => plusL (totK t k) (t.bags.getD k []) 1
open Classical in
noncomputable def codeTotalBag (s : System) (t : State) : Int := if s.Ok ∧ s.StateOk t then cdL (Bag (totK t t.bags.length)) else 1
end Go.Proofs.Ytgjlemedckhlfaa

/-
  Copies of the data of theme 7 in memory of the call's own, and their marks. No condition but that the sizes are bounded.
-/
namespace Go.Proofs.Ytgjlemedckhlfaa
open Go.AI
set_option maxRecDepth 8000
set_option maxHeartbeats 1600000

def cntCnf (x : Cnf) : Nat := 1 + mcnt List.length x.clauses
def ECnf (x : Cnf) (cs : List A) (h : Heap) : Prop := ∃ (a0 : A) (h0 : Heap), OwnSl EII 22 1 x.clauses a0 h0 ∧ cs = [.int x.vars, a0] ∧ h = h0
theorem cntCnf_le {x : Cnf} (hx : OkCnf x) : cntCnf x ≤ 1099511627777 := by
  obtain ⟨⟨k0, m0⟩⟩ := hx
  have e0 := mcnt_le2 (f := List.length) k0 (fun y hy => m0 y hy)
  unfold cntCnf
  omega
theorem ECnf_frz (x : Cnf) (cs : List A) (h : Heap) (q : ECnf x cs h) : FrzL h cs (encCnf x) := by
  obtain ⟨a0, h0, o0, rfl, rfl⟩ := q
  exact (FrzL.cons (Frz.same _ _) (FrzL.cons (Frz.mono (fun _ hk => by simp [hk]) (o0.frz (fun _ => rfl) EII_frz)) (FrzL.nil _)))
theorem n_toCnf (x : Cnf) (hx : OkCnf x) : Does Try.prog 59 [.agg (encCnf x)] [] (fun v h' => ∃ cs, v = .agg cs ∧ ECnf x cs h') := by
  obtain ⟨⟨k0, m0⟩⟩ := hx
  refine Does.drop (R := fun v h' => ∃ cs k hh, v = .agg cs ∧ ECnf x cs hh ∧ h'.Perm (k :: hh)) ?_ (fun v h' ⟨cs, k, hh, q1, q2, q3⟩ => ⟨_, hh, q3, List.sublist_cons_self _ _, cs, q1, q2⟩)
  refine fn_of_runD tyOk ztOk mix Try.func59 rfl (by decide) Try.ntmps59 (fun w0 F => ?_)
  change Run _ _ _ _ _ F
  repeat' (first
      | (refine j_go ?_; first
        | refine j_op0 rfl rfl rfl rfl ?_ | (refine j_kStore rfl ?_; first | refine j_store 0 rfl rfl rfl rfl rfl rfl rfl rfl rfl rfl rfl ?_) | refine j_box rfl rfl rfl rfl rfl rfl ?_ | refine j_alloc rfl rfl rfl rfl rfl (fun _ => ?_))
      | refine j_nil ?_
      | (refine r_go ?_; first | refine run_seq ?_ | refine run_region ?_)
      | refine seqQ_normal ?_)
  refine j_kCall rfl rfl rfl rfl ?_
  refine jcp _ (n_toInt64SS _ k0 m0) (List.Perm.refl _) (LeL.refl _) rfl rfl (fun v0 h0 o0 => ?_)
  refine j_view (view_perm perm2) ?_
  obtain ⟨b0, rfl⟩ := o0.isos
  repeat' (first
      | (refine j_go ?_; first
        | refine j_op0 rfl rfl rfl rfl ?_ | (refine j_kLoad rfl ?_; first | refine j_mload 0 rfl rfl rfl rfl rfl rfl rfl ?_) | (refine j_kStore rfl ?_; first | refine j_store 0 rfl rfl rfl rfl rfl rfl rfl rfl rfl rfl rfl ?_ | refine j_storeN 1 rfl rfl rfl rfl rfl rfl rfl rfl rfl rfl rfl ?_))
      | refine j_nil ?_
      | (refine r_go ?_; first | refine run_seq ?_ | refine run_region ?_ | refine run_ret ?_)
      | refine seqQ_normal ?_)
  refine endD_view (view_erase 0) ?_
  exact endD_ret (h1 := _ :: (h0)) (congrArg (List.cons _) (show h0 ++ F = (h0) ++ F by simp only [List.append_assoc])) (.cons (.cellM rfl (List.mem_cons_self ..) rfl) .nil) (Le.refl _) ⟨_, _, h0, rfl, ⟨_, h0, o0, rfl, rfl⟩, .cons _ (List.Perm.refl _)⟩ (.inl rfl)
theorem m_markCnf (x : Cnf) (cs : List A) (h : Heap) (k0 : Nat) (q : ECnf x cs h) (hk : k0 + cntCnf x ≤ 4611686018427387904) : Does Try.prog 62 [.agg cs, .int (k0 : Int)] h (fun v h' => v = .int ((k0 + (mcnt List.length x.clauses) : Nat) : Int) ∧ h' = []) := by
  obtain ⟨a0, h0, o0, rfl, rfl⟩ := q
  have hcn : cntCnf x = 1 + mcnt List.length x.clauses := rfl
  obtain ⟨b0, eb0⟩ := o0.isos
  subst eb0
  refine fn_of_runD tyOk ztOk mix Try.func62 rfl (by decide) Try.ntmps62 (fun w0 F => ?_)
  repeat' (first
      | (refine j_go ?_; first
        | refine j_op0 rfl rfl rfl rfl ?_ | refine j_box rfl rfl rfl rfl rfl rfl ?_)
      | refine j_nil ?_
      | (refine r_go ?_; first | refine run_seq ?_ | refine run_region ?_)
      | refine seqQ_normal ?_)
  refine j_kCall rfl rfl rfl rfl ?_
  refine jcp _ (m_markInt64SS _ _ _ (k0) o0 (by omega)) (List.Perm.refl _) (LeL.refl _) rfl rfl (fun v h1 hR => ?_)
  obtain ⟨rfl, rfl⟩ := hR
  repeat' (first
      | (refine j_go ?_; first
        | refine j_op0 rfl rfl rfl rfl ?_)
      | refine j_nil ?_
      | (refine r_go ?_; first | refine run_seq ?_ | refine run_region ?_ | refine run_ret ?_)
      | refine seqQ_normal ?_)
  exact endD_ret (h1 := []) rfl (.cons (.tmp rfl) .nil) (Le.refl _) ⟨ani (by omega), rfl⟩ (.inl rfl)

end Go.Proofs.Ytgjlemedckhlfaa

/-
  Results in memory of the call's own: their marks, and what is held of them. No condition but that the sizes are bounded.
-/
namespace Go.Proofs.Ytgjlemedckhlfaa
open Go.AI
set_option maxRecDepth 8000
set_option maxHeartbeats 1600000
def ROI (l : List Int) (a : A) (h : Heap) : Prop := OwnF encI 2 1 l a h
def ROB (l : List Bool) (a : A) (h : Heap) : Prop := OwnF encB 4 1 l a h
def ROII (L : List (List Int)) (a : A) (h : Heap) : Prop := OwnLL ROI 22 L a h
theorem ROI.frz {l : List Int} {a : A} {h : Heap} (o : ROI l a h) : Frz h a (.sl (l.map encI)) := OwnF.frz (fun _ => rfl) rfl o
theorem ROB.frz {l : List Bool} {a : A} {h : Heap} (o : ROB l a h) : Frz h a (.sl (l.map encB)) := OwnF.frz (fun _ => rfl) rfl o
theorem ROII.frz {l : List (List Int)} {a : A} {h : Heap} (o : ROII l a h) : Frz h a (.sl (l.map (encS encI))) := OwnLL.frz (enc := fun x => (x.map encI)) (fun _ _ _ q => q.frz) o (fun _ => rfl)
theorem ROI.clo {l : List Int} {a : A} {h : Heap} (o : ROI l a h) : Clo a ∧ CloH h := OwnF.clo (fun _ => CloL.cons (Clo.int _) CloL.nil) o
theorem ROB.clo {l : List Bool} {a : A} {h : Heap} (o : ROB l a h) : Clo a ∧ CloH h := OwnF.clo (fun _ => CloL.cons (Clo.raw _) CloL.nil) o
theorem ROII.clo {l : List (List Int)} {a : A} {h : Heap} (o : ROII l a h) : Clo a ∧ CloH h := OwnLL.clo (fun _ _ _ q => q.clo) o
theorem r_markI (r : List Int) (a : A) (h : Heap) (k0 : Nat) (o : ROI r a h) (hk : k0 + r.length ≤ 4611686018427387904) :
    Does Try.prog 37 [a, .int (k0 : Int)] h (fun v h' => v = .int ((k0 + r.length : Nat) : Int) ∧ ROI (markedI k0 r.length) a h') := by
  rcases o with ⟨b, cap, rfl, rfl⟩ | ⟨rfl, rfl, rfl⟩
  case inr =>
    refine fn_of_runD tyOk ztOk mix Try.func37 rfl (by decide) Try.ntmps37 (fun w0 F => ?_)
    change Run _ _ _ _ _ F
    repeat' (first
      | (refine j_go ?_; first
        | refine j_op0 rfl rfl rfl rfl ?_)
      | refine j_nil ?_
      | (refine r_go ?_; first | refine run_seq ?_ | refine run_region ?_ | refine run_block ?_)
      | refine seqQ_normal ?_)
    refine run_loop (fun _ : Unit => [(0, .sl []), (1, .int (k0 : Int)), (5, .int 0)]) (fun _ => F) (fun _ => True) (fun _ => 0) () ⟨rfl, rfl, rfl, trivial⟩ rfl trivial (fun _ _ => ?_)
    repeat' (first
      | (refine j_go ?_; first
        | refine j_op0 rfl rfl rfl rfl ?_ | (refine j_kLen rfl ?_; first | refine j_op rfl rfl rfl rfl ?_))
      | refine j_nil ?_
      | (refine r_go ?_; first | refine run_seq ?_ | refine run_region ?_ | (refine (run_if rfl (fun hb => ?_) (fun hb => ?_)) <;> first | (exfalso; omega) | skip) | refine run_block ?_ | refine run_ret ?_ | refine run_exit ?_ | refine run_skip ?_)
      | refine seqQ_normal ?_ | refine seqQ_exit ?_ | refine blockQ_eq ?_ | refine loopQ_exit ?_)
    · exact absurd hb (by simp)
    exact endD_ret (h1 := []) rfl (vs := [_]) (.cons (.tmp rfl) .nil) (Le.refl _) ⟨rfl, .inr ⟨rfl, rfl, rfl⟩⟩ (.inl rfl)
  have := x_markI b cap k0 r hk
  exact this.drop fun v h' ⟨q1, q2⟩ => ⟨h', h', .refl _, List.Sublist.refl _, q1, .inl ⟨b, cap, by rw [markedI_len], q2⟩⟩
theorem OwnF.okc {α : Type} {g : α → List A} {T z : Nat} {l : List α} {a : A} {h : Heap} (o : OwnF g T z l a h) : okCell a = true := by
  rcases o with ⟨b, cap, rfl, rfl⟩ | ⟨rfl, rfl, rfl⟩ <;> rfl
theorem OwnLL.okc {β : Type} {O : β → A → Heap → Prop} {T : Nat} {L : List β} {a : A} {h : Heap} (o : OwnLL O T L a h) : okCell a = true := by
  rcases o with ⟨b, cap, vs, hs, _, _, _, rfl, rfl⟩ | ⟨rfl, rfl, rfl⟩ <;> rfl

theorem ROI.frzF {l : List Int} {a : A} {h : Heap} (o : ROI l a h) : FrzF h a (.sl (l.map encI)) := OwnF.frzF (fun _ => rfl) rfl o
theorem ROB.frzF {l : List Bool} {a : A} {h : Heap} (o : ROB l a h) : FrzF h a (.sl (l.map encB)) := OwnF.frzF (fun _ => rfl) rfl o
theorem ROII.frzF {l : List (List Int)} {a : A} {h : Heap} (o : ROII l a h) : FrzF h a (.sl (l.map (encS encI))) := OwnLL.frzF (enc := fun x => (x.map encI)) (fun _ _ _ q => q.frzF) o (fun _ => rfl)
end Go.Proofs.Ytgjlemedckhlfaa
