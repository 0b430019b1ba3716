/-
  Copies of lists in memory of the call's own, their marks, and what is held. No condition but that the sizes are bounded.
-/
import Derived.Test.YtlllmhjpcdcoiaaZG0
import Derived.Test.YtlllmhjpcdcoiaaZOP
namespace Go.Proofs.Ytlllmhjpcdcoiaa
open Go.AI
set_option maxRecDepth 8000
set_option maxHeartbeats 1600000
def EI (x : Int) (cs : List A) (h : Heap) : Prop := cs = Go.AI.encI x ∧ h = []
def EB (x : Bool) (cs : List A) (h : Heap) : Prop := cs = encB x ∧ h = []
def EII (x : List Int) (cs : List A) (h : Heap) : Prop := ∃ a, cs = [a] ∧ OwnSl EI 2 1 x a h
theorem EI_frz (x : Int) (cs : List A) (h : Heap) (q : EI x cs h) : FrzL h cs (Go.AI.encI x) := by obtain ⟨rfl, rfl⟩ := q; exact FrzL.cons (Frz.same _ _) (FrzL.nil _)
theorem EB_frz (x : Bool) (cs : List A) (h : Heap) (q : EB x cs h) : FrzL h cs (encB x) := by obtain ⟨rfl, rfl⟩ := q; exact FrzL.cons (Frz.same _ _) (FrzL.nil _)
theorem EII_frz (x : List Int) (cs : List A) (h : Heap) (q : EII x cs h) : FrzL h cs (encS Go.AI.encI x) := by obtain ⟨a, rfl, q⟩ := q; exact FrzL.cons (q.frz (fun _ => rfl) EI_frz) (FrzL.nil _)
theorem n_toInt64S (l : List Int) (hl : l.length ≤ 1048576) : Does Try.prog 23 [.sl (l.map Go.AI.encI)] [] (fun v h' => OwnSl EI 2 1 l v h') := by
  refine fn_of_runD tyOk ztOk mix Try.func23 rfl (by decide) Try.ntmps23 (fun w0 F => ?_)
  change Run _ _ _ _ _ F
  repeat' (first
      | (refine j_go ?_; first
        | refine j_op0 rfl rfl rfl rfl ?_ | (refine j_kLen rfl ?_; first | refine j_len rfl rfl rfl rfl rfl rfl ?_))
      | refine j_nil ?_
      | (refine r_go ?_; first | refine run_seq ?_ | refine run_region ?_)
      | refine seqQ_normal ?_)
  refine j_makeI (g := Go.AI.encI) 0 rfl rfl rfl rfl rfl rfl rfl rfl rfl (by omega) rfl rfl (fun b => ?_)
  repeat' (first
      | (refine j_go ?_; first
        | refine j_op0 rfl rfl rfl rfl ?_)
      | refine j_nil ?_
      | (refine r_go ?_; first | refine run_seq ?_ | refine run_region ?_ | refine run_block ?_)
      | refine seqQ_normal ?_)
  refine run_loop (fun k : Nat => [(0, .sl (l.map Go.AI.encI)), (3, .os (some b) l.length l.length), (4, .int (k : Int))]) (fun k => ⟨some b, 2, l.length * 1, ((l.take k ++ List.replicate (l.length - k) 0).map Go.AI.encI).flatten⟩ :: F)
      (fun k => k ≤ l.length) (fun k => l.length - k) 0 ⟨rfl, rfl, rfl, trivial⟩ (by simp) (by omega) ?_
  intro k g1
  repeat' (first
      | (refine j_go ?_; first
        | refine j_op0 rfl rfl rfl rfl ?_ | (refine j_kIdx rfl ?_; first | refine j_idx rfl rfl rfl rfl rfl (by omega) rfl rfl rfl ?_ | refine j_midx rfl rfl rfl rfl rfl (by first | omega | (simp only [List.length_append, List.length_cons, List.length_nil]; omega)) rfl rfl ?_) | (refine j_kLen rfl ?_; first | refine j_len rfl rfl rfl rfl rfl rfl ?_))
      | refine j_nil ?_
      | (refine r_go ?_; first | refine run_seq ?_ | refine run_region ?_ | (refine (run_if rfl (fun hb => ?_) (fun hb => ?_)) <;> first | (exfalso; omega) | skip) | refine run_block ?_ | refine run_ret ?_ | refine run_exit ?_ | refine run_skip ?_)
      | refine seqQ_normal ?_ | refine seqQ_exit ?_ | refine blockQ_eq ?_ | refine loopQ_exit ?_)
  · have hk : k < l.length := by omega
    refine j_storeE 0 k (g := Go.AI.encI) l[k] rfl rfl rfl rfl rfl rfl rfl rfl rfl (fun _ => rfl : ∀ y, (Go.AI.encI y).length = 1) rfl (by simp; omega) ?_
    repeat' (first
      | (refine j_go ?_; first
        | refine j_op0 rfl rfl rfl rfl ?_ | (refine j_kBin rfl ?_; first | refine j_in rfl rfl ⟨by omega, by omega⟩ rfl rfl ?_))
      | refine j_nil ?_
      | (refine r_go ?_; first | refine run_region ?_)
      | refine seqQ_normal ?_ | refine blockQ_normal ?_)
    exact loopQ_next (k + 1) (by omega) (by omega) (by rw [← take_rep_set hk]; rfl) ⟨rfl, rfl, nx _, trivial⟩
  · have : k = l.length := by omega
    subst this
    refine endD_ret (h1 := [⟨some b, 2, l.length * 1, (l.map Go.AI.encI).flatten⟩]) (by simp) (.cons (.tmp rfl) .nil) (Le.refl _) (own_flat fun _ => rfl) (.inl rfl)
/-- .. whatever stood there. -/
theorem x_markInt64S (b : Option Nat) (cap room k0 : Nat) (cs : List A) (hk : k0 + cs.length ≤ 4611686018427387904) :
    Does Try.prog 15 [.os b cs.length cap, .int (k0 : Int)] [⟨b, 2, room, (cs.map fun a => [a]).flatten⟩] (fun v h' => v = .int ((k0 + cs.length : Nat) : Int) ∧ h' = [⟨b, 2, room, (((List.range cs.length).map fun i => A.int ((k0 + i : Nat) : Int)).map fun a => [a]).flatten⟩]) := by
  refine fn_of_runD tyOk ztOk mix Try.func15 rfl (by decide) Try.ntmps15 (fun w0 F => ?_)
  repeat' (first
      | (refine j_go ?_; first
        | refine j_op0 rfl rfl rfl rfl ?_)
      | refine j_nil ?_
      | (refine r_go ?_; first | refine run_seq ?_ | refine run_region ?_ | refine run_block ?_)
      | refine seqQ_normal ?_)
  refine run_loop (fun i : Nat => [(0, .os b cs.length cap), (1, .int ((k0 + i : Nat) : Int)), (5, .int (i : Int))]) (fun i => ⟨b, 2, room, ((((List.range i).map fun q => A.int ((k0 + q : Nat) : Int)) ++ cs.drop i).map fun a => [a]).flatten⟩ :: F)
      (fun i => i ≤ cs.length) (fun i => cs.length - i) 0 ⟨rfl, rfl, rfl, trivial⟩ (by simp) (by omega) ?_
  intro i g1
  by_cases hi : i < cs.length
  · refine run_some 0 rfl (by rw [sing_flat]; intro q; have := congrArg List.length q; simp at this; omega) (fun b' hb' => ?_)
    subst hb'
    repeat' (first
      | (refine j_go ?_; first
        | refine j_op0 rfl rfl rfl rfl ?_ | (refine j_kIdx rfl ?_; first | refine j_midx rfl rfl rfl rfl rfl (by first | omega | (simp only [List.length_append, List.length_cons, List.length_nil]; omega)) rfl rfl ?_) | (refine j_kLen rfl ?_; first | refine j_op rfl rfl rfl rfl ?_))
      | refine j_nil ?_
      | (refine r_go ?_; first | refine run_seq ?_ | refine run_region ?_ | (refine (run_if rfl (fun hb => ?_) (fun hb => ?_)) <;> first | (exfalso; omega) | skip) | refine run_block ?_ | refine run_skip ?_)
      | refine seqQ_normal ?_)
    refine j_storeE 0 i (g := fun a => [a]) (A.int ((k0 + i : Nat) : Int)) rfl rfl rfl rfl rfl rfl rfl rfl rfl (fun _ => rfl : ∀ y, ([y] : List A).length = 1) rfl (by simp; omega) ?_
    repeat' (first
      | (refine j_go ?_; first
        | refine j_op0 rfl rfl rfl rfl ?_ | (refine j_kBin rfl ?_; first | refine j_in rfl rfl ⟨by omega, by omega⟩ rfl rfl ?_))
      | refine j_nil ?_
      | (refine r_go ?_; first | refine run_region ?_)
      | refine seqQ_normal ?_ | refine blockQ_normal ?_)
    exact loopQ_next (i + 1) (by omega) (by omega) (by rw [← range_set (f := fun q => A.int ((k0 + q : Nat) : Int)) _ rfl hi]; rfl) ⟨rfl, nx (k0 + i), nx _, trivial⟩
  · repeat' (first
      | (refine j_go ?_; first
        | refine j_op0 rfl rfl rfl rfl ?_ | (refine j_kLen rfl ?_; first | refine j_op rfl rfl rfl rfl ?_))
      | refine j_nil ?_
      | (refine r_go ?_; first | refine run_seq ?_ | refine run_region ?_ | (refine (run_if rfl (fun hb => ?_) (fun hb => ?_)) <;> first | (exfalso; omega) | skip) | refine run_ret ?_ | refine run_exit ?_)
      | refine seqQ_normal ?_ | refine seqQ_exit ?_ | refine blockQ_eq ?_ | refine loopQ_exit ?_)
    have : i = cs.length := by omega
    subst this
    exact endD_ret (h1 := [_]) rfl (.cons (.tmp rfl) .nil) (Le.refl _) ⟨rfl, by rw [List.drop_length, List.append_nil]⟩ (.inl rfl)
theorem m_markInt64S (l : List Int) (a : A) (h : Heap) (k0 : Nat) (ho : OwnSl EI 2 1 l a h) (hk : k0 + l.length ≤ 4611686018427387904) : Does Try.prog 15 [a, .int (k0 : Int)] h (fun v h' => v = .int ((k0 + l.length : Nat) : Int) ∧ h' = []) := by
  obtain ⟨b, cs, rfl, hc, rfl⟩ := own_unflat (fun x => ⟨_, rfl⟩) ho
  have := x_markInt64S (some b) l.length (l.length * 1) k0 cs (by omega)
  rw [hc] at this
  exact this.drop fun v h' ⟨q1, q2⟩ => ⟨h', [], .refl _, List.nil_sublist _, q1, rfl⟩
theorem c_heldInt64S (L : List Int) (k0 : Nat) (hL : ∀ i (h : i < L.length), L[i] = ((k0 + i : Nat) : Int)) (hk : k0 + L.length ≤ 4611686018427387904) : Gives Try.prog 16 [.sl (L.map Go.AI.encI), .int (k0 : Int)] (.int ((k0 + L.length : Nat) : Int)) := by
  refine fn_of_run tyOk ztOk mix Try.func16 rfl (by decide) Try.ntmps16 (fun w0 h => ?_)
  repeat' (first
      | (refine j_go ?_; first
        | refine j_op0 rfl rfl rfl rfl ?_)
      | refine j_nil ?_
      | (refine r_go ?_; first | refine run_seq ?_ | refine run_region ?_ | refine run_block ?_)
      | refine seqQ_normal ?_)
  refine run_loop (fun i : Nat => [(0, .sl (L.map Go.AI.encI)), (1, .int ((k0 + i : Nat) : Int)), (5, .int (i : Int))]) (fun _ => h) (fun i => i ≤ L.length) (fun i => L.length - i) 0 ⟨rfl, rfl, rfl, trivial⟩ rfl (by omega) ?_
  intro i g1
  by_cases hi : i < L.length
  · have hLi := hL i hi
    repeat' (first
      | (refine j_go ?_; first
        | refine j_op0 rfl rfl rfl rfl ?_ | (refine j_kIdx rfl ?_; first | refine j_idx rfl rfl rfl rfl rfl (by omega) rfl rfl rfl ?_) | (refine j_kBin rfl ?_; first | refine j_in rfl rfl ⟨by omega, by omega⟩ rfl rfl ?_) | (refine j_kLen rfl ?_; first | refine j_len rfl rfl rfl rfl rfl rfl ?_))
      | refine j_nil ?_
      | (refine r_go ?_; first | refine run_seq ?_ | refine run_region ?_ | (refine (run_if rfl (fun hb => ?_) (fun hb => ?_)) <;> first | (exfalso; omega) | skip) | (refine (run_ifn rfl (fun hb => ?_) (fun hb => ?_)) <;> first | (exfalso; omega) | skip) | refine run_block ?_ | refine run_skip ?_)
      | refine seqQ_normal ?_ | refine blockQ_normal ?_)
    all_goals first | exact loopQ_next (i + 1) (by omega) (by omega) rfl ⟨rfl, nx (k0 + i), nx _, trivial⟩ | exact absurd hLi hb
  · repeat' (first
      | (refine j_go ?_; first
        | refine j_op0 rfl rfl rfl rfl ?_ | (refine j_kLen rfl ?_; first | refine j_len rfl rfl rfl rfl rfl rfl ?_))
      | refine j_nil ?_
      | (refine r_go ?_; first | refine run_seq ?_ | refine run_region ?_ | (refine (run_if rfl (fun hb => ?_) (fun hb => ?_)) <;> first | (exfalso; omega) | skip) | refine run_ret ?_ | refine run_exit ?_)
      | refine seqQ_normal ?_ | refine seqQ_exit ?_ | refine blockQ_eq ?_ | refine loopQ_exit ?_)
    have : i = L.length := by omega
    subst this
    exact end1 rfl (List.Sublist.refl _) rfl (.inl rfl)
def marked (k0 n : Nat) : List Int := (List.range n).map fun i => ((k0 + i : Nat) : Int)
theorem marked_len {k0 n : Nat} : (marked k0 n).length = n := by simp [marked]
theorem marked_get {k0 n : Nat} (i : Nat) (h : i < (marked k0 n).length) : (marked k0 n)[i] = ((k0 + i : Nat) : Int) := by simp [marked]
theorem c_heldM (k0 n : Nat) (hk : k0 + n ≤ 4611686018427387904) : Gives Try.prog 16 [.sl ((marked k0 n).map Go.AI.encI), .int (k0 : Int)] (.int ((k0 + n : Nat) : Int)) := by
  have := c_heldInt64S (marked k0 n) k0 marked_get (by rw [marked_len]; exact hk)
  rw [marked_len] at this
  exact this
theorem x_markI (b : Option Nat) (cap k0 : Nat) (r : List Int) (hk : k0 + r.length ≤ 4611686018427387904) :
    Does Try.prog 15 [.os b r.length cap, .int (k0 : Int)] [⟨b, 2, cap * 1, (r.map Go.AI.encI).flatten⟩] (fun v h' => v = .int ((k0 + r.length : Nat) : Int) ∧ h' = [⟨b, 2, cap * 1, ((marked k0 r.length).map Go.AI.encI).flatten⟩]) := by
  have := x_markInt64S b cap (cap * 1) k0 (r.map A.int) (by simpa using hk)
  have e1 : ((r.map A.int).map fun a => [a]) = r.map Go.AI.encI := by simp [Go.AI.encI]
  have e2 : (((List.range r.length).map fun i => A.int ((k0 + i : Nat) : Int)).map fun a => [a]) = (marked k0 r.length).map Go.AI.encI := by simp [Go.AI.encI, marked]
  rw [e1, List.length_map, e2] at this
  exact this
theorem Frz.markI {b : Option Nat} {T cap k0 n : Nat} : Frz [⟨b, T, cap * 1, ((marked k0 n).map Go.AI.encI).flatten⟩] (.os b n cap) (.sl ((marked k0 n).map Go.AI.encI)) := Frz.flat marked_len.symm rfl (fun _ => rfl) rfl rfl
theorem n_toBoolS (l : List Bool) (hl : l.length ≤ 1048576) : Does Try.prog 25 [.sl (l.map encB)] [] (fun v h' => OwnSl EB 4 1 l v h') := by
  refine fn_of_runD tyOk ztOk mix Try.func25 rfl (by decide) Try.ntmps25 (fun w0 F => ?_)
  change Run _ _ _ _ _ F
  repeat' (first
      | (refine j_go ?_; first
        | refine j_op0 rfl rfl rfl rfl ?_ | (refine j_kLen rfl ?_; first | refine j_len rfl rfl rfl rfl rfl rfl ?_))
      | refine j_nil ?_
      | (refine r_go ?_; first | refine run_seq ?_ | refine run_region ?_)
      | refine seqQ_normal ?_)
  refine j_makeI (g := encB) false rfl rfl rfl rfl rfl rfl rfl rfl rfl (by omega) rfl rfl (fun b => ?_)
  repeat' (first
      | (refine j_go ?_; first
        | refine j_op0 rfl rfl rfl rfl ?_)
      | refine j_nil ?_
      | (refine r_go ?_; first | refine run_seq ?_ | refine run_region ?_ | refine run_block ?_)
      | refine seqQ_normal ?_)
  refine run_loop (fun k : Nat => [(0, .sl (l.map encB)), (3, .os (some b) l.length l.length), (4, .int (k : Int))]) (fun k => ⟨some b, 4, l.length * 1, ((l.take k ++ List.replicate (l.length - k) false).map encB).flatten⟩ :: F)
      (fun k => k ≤ l.length) (fun k => l.length - k) 0 ⟨rfl, rfl, rfl, trivial⟩ (by simp) (by omega) ?_
  intro k g1
  repeat' (first
      | (refine j_go ?_; first
        | refine j_op0 rfl rfl rfl rfl ?_ | (refine j_kIdx rfl ?_; first | refine j_idx rfl rfl rfl rfl rfl (by omega) rfl rfl rfl ?_ | refine j_midx rfl rfl rfl rfl rfl (by first | omega | (simp only [List.length_append, List.length_cons, List.length_nil]; omega)) rfl rfl ?_) | (refine j_kLen rfl ?_; first | refine j_len rfl rfl rfl rfl rfl rfl ?_))
      | refine j_nil ?_
      | (refine r_go ?_; first | refine run_seq ?_ | refine run_region ?_ | (refine (run_if rfl (fun hb => ?_) (fun hb => ?_)) <;> first | (exfalso; omega) | skip) | refine run_block ?_ | refine run_ret ?_ | refine run_exit ?_ | refine run_skip ?_)
      | refine seqQ_normal ?_ | refine seqQ_exit ?_ | refine blockQ_eq ?_ | refine loopQ_exit ?_)
  · have hk : k < l.length := by omega
    refine j_storeE 0 k (g := encB) l[k] rfl rfl rfl rfl rfl rfl rfl rfl rfl (fun _ => rfl : ∀ y, (encB y).length = 1) rfl (by simp; omega) ?_
    repeat' (first
      | (refine j_go ?_; first
        | refine j_op0 rfl rfl rfl rfl ?_ | (refine j_kBin rfl ?_; first | refine j_in rfl rfl ⟨by omega, by omega⟩ rfl rfl ?_))
      | refine j_nil ?_
      | (refine r_go ?_; first | refine run_region ?_)
      | refine seqQ_normal ?_ | refine blockQ_normal ?_)
    exact loopQ_next (k + 1) (by omega) (by omega) (by rw [← take_rep_set hk]; rfl) ⟨rfl, rfl, nx _, trivial⟩
  · have : k = l.length := by omega
    subst this
    refine endD_ret (h1 := [⟨some b, 4, l.length * 1, (l.map encB).flatten⟩]) (by simp) (.cons (.tmp rfl) .nil) (Le.refl _) (own_flat fun _ => rfl) (.inl rfl)
/-- .. whatever stood there. -/
theorem x_markBoolS (b : Option Nat) (cap room k0 : Nat) (cs : List A) (hk : k0 + cs.length ≤ 4611686018427387904) :
    Does Try.prog 33 [.os b cs.length cap, .int (k0 : Int)] [⟨b, 4, room, (cs.map fun a => [a]).flatten⟩] (fun v h' => v = .int ((k0 + cs.length : Nat) : Int) ∧ h' = [⟨b, 4, room, (((List.range cs.length).map fun i => A.raw (.bool (dec (((k0 + i : Nat) : Int) % 3 = 0)))).map fun a => [a]).flatten⟩]) := by
  refine fn_of_runD tyOk ztOk mix Try.func33 rfl (by decide) Try.ntmps33 (fun w0 F => ?_)
  repeat' (first
      | (refine j_go ?_; first
        | refine j_op0 rfl rfl rfl rfl ?_)
      | refine j_nil ?_
      | (refine r_go ?_; first | refine run_seq ?_ | refine run_region ?_ | refine run_block ?_)
      | refine seqQ_normal ?_)
  refine run_loop (fun i : Nat => [(0, .os b cs.length cap), (1, .int ((k0 + i : Nat) : Int)), (5, .int (i : Int))]) (fun i => ⟨b, 4, room, ((((List.range i).map fun q => A.raw (.bool (dec (((k0 + q : Nat) : Int) % 3 = 0)))) ++ cs.drop i).map fun a => [a]).flatten⟩ :: F)
      (fun i => i ≤ cs.length) (fun i => cs.length - i) 0 ⟨rfl, rfl, rfl, trivial⟩ (by simp) (by omega) ?_
  intro i g1
  by_cases hi : i < cs.length
  · refine run_some 0 rfl (by rw [sing_flat]; intro q; have := congrArg List.length q; simp at this; omega) (fun b' hb' => ?_)
    subst hb'
    repeat' (first
      | (refine j_go ?_; first
        | refine j_op0 rfl rfl rfl rfl ?_ | (refine j_kIdx rfl ?_; first | refine j_midx rfl rfl rfl rfl rfl (by first | omega | (simp only [List.length_append, List.length_cons, List.length_nil]; omega)) rfl rfl ?_) | (refine j_kBin rfl ?_; first | refine j_rem rfl rfl rfl rfl (by omega) rfl rfl ?_) | (refine j_kLen rfl ?_; first | refine j_op rfl rfl rfl rfl ?_))
      | refine j_nil ?_
      | (refine r_go ?_; first | refine run_seq ?_ | refine run_region ?_ | (refine (run_if rfl (fun hb => ?_) (fun hb => ?_)) <;> first | (exfalso; omega) | skip) | refine run_block ?_ | refine run_skip ?_)
      | refine seqQ_normal ?_)
    refine j_storeE 0 i (g := fun a => [a]) (A.raw (.bool (dec (((k0 + i : Nat) : Int) % 3 = 0)))) rfl rfl rfl rfl rfl rfl rfl rfl rfl (fun _ => rfl : ∀ y, ([y] : List A).length = 1) rfl (by simp; omega) ?_
    repeat' (first
      | (refine j_go ?_; first
        | refine j_op0 rfl rfl rfl rfl ?_ | (refine j_kBin rfl ?_; first | refine j_in rfl rfl ⟨by omega, by omega⟩ rfl rfl ?_))
      | refine j_nil ?_
      | (refine r_go ?_; first | refine run_region ?_)
      | refine seqQ_normal ?_ | refine blockQ_normal ?_)
    exact loopQ_next (i + 1) (by omega) (by omega) (by rw [← range_set (f := fun q => A.raw (.bool (dec (((k0 + q : Nat) : Int) % 3 = 0)))) _ rfl hi]; rfl) ⟨rfl, nx (k0 + i), nx _, trivial⟩
  · repeat' (first
      | (refine j_go ?_; first
        | refine j_op0 rfl rfl rfl rfl ?_ | (refine j_kLen rfl ?_; first | refine j_op rfl rfl rfl rfl ?_))
      | refine j_nil ?_
      | (refine r_go ?_; first | refine run_seq ?_ | refine run_region ?_ | (refine (run_if rfl (fun hb => ?_) (fun hb => ?_)) <;> first | (exfalso; omega) | skip) | refine run_ret ?_ | refine run_exit ?_)
      | refine seqQ_normal ?_ | refine seqQ_exit ?_ | refine blockQ_eq ?_ | refine loopQ_exit ?_)
    have : i = cs.length := by omega
    subst this
    exact endD_ret (h1 := [_]) rfl (.cons (.tmp rfl) .nil) (Le.refl _) ⟨rfl, by rw [List.drop_length, List.append_nil]⟩ (.inl rfl)
theorem m_markBoolS (l : List Bool) (a : A) (h : Heap) (k0 : Nat) (ho : OwnSl EB 4 1 l a h) (hk : k0 + l.length ≤ 4611686018427387904) : Does Try.prog 33 [a, .int (k0 : Int)] h (fun v h' => v = .int ((k0 + l.length : Nat) : Int) ∧ h' = []) := by
  obtain ⟨b, cs, rfl, hc, rfl⟩ := own_unflat (fun x => ⟨_, rfl⟩) ho
  have := x_markBoolS (some b) l.length (l.length * 1) k0 cs (by omega)
  rw [hc] at this
  exact this.drop fun v h' ⟨q1, q2⟩ => ⟨h', [], .refl _, List.nil_sublist _, q1, rfl⟩
theorem n_toInt64SS (l : List (List Int)) (hl : l.length ≤ 1048576) (hl2 : ∀ x ∈ l, (fun r : List Int => r.length ≤ 1048576) x) : Does Try.prog 26 [.sl (l.map (encS Go.AI.encI))] [] (fun v h' => OwnSl EII 22 1 l v h') := by
  refine fn_of_runD tyOk ztOk mix Try.func26 rfl (by decide) Try.ntmps26 (fun w0 F => ?_)
  change Run _ _ _ _ _ F
  repeat' (first
      | (refine j_go ?_; first
        | refine j_op0 rfl rfl rfl rfl ?_ | (refine j_kLen rfl ?_; first | refine j_len rfl rfl rfl rfl rfl rfl ?_))
      | refine j_nil ?_
      | (refine r_go ?_; first | refine run_seq ?_ | refine run_region ?_)
      | refine seqQ_normal ?_)
  refine j_makeI (g := Subtype.val) (⟨[.sl []], rfl⟩ : Cells 1) rfl rfl rfl rfl rfl rfl rfl rfl rfl (by omega) rfl rfl (fun b => ?_)
  repeat' (first
      | (refine j_go ?_; first
        | refine j_op0 rfl rfl rfl rfl ?_)
      | refine j_nil ?_
      | (refine r_go ?_; first | refine run_seq ?_ | refine run_region ?_ | refine run_block ?_)
      | refine seqQ_normal ?_)
  refine run_loop (fun s : Nat × List (Cells 1) × List Heap => [(0, .sl (l.map (encS Go.AI.encI))), (3, .os (some b) l.length l.length), (4, .int (s.1 : Int))])
      (fun s => ⟨some b, 22, l.length * 1, ((s.2.1 ++ List.replicate (l.length - s.1) (⟨[.sl []], rfl⟩ : Cells 1)).map Subtype.val).flatten⟩ :: (s.2.2.flatten ++ F))
      (fun s => s.1 ≤ l.length ∧ s.2.1.length = s.1 ∧ s.2.2.length = s.1 ∧ ∀ i (hi : i < l.length) (h1 : i < s.2.1.length) (h2 : i < s.2.2.length), EII l[i] s.2.1[i].1 s.2.2[i]) (fun s => l.length - s.1) (0, [], []) ⟨rfl, rfl, rfl, trivial⟩ (by simp) ⟨by simp, rfl, rfl, fun i _ h1 => absurd h1 (Nat.not_lt_zero _)⟩ ?_
  intro ⟨k, css, hs⟩ ⟨g1, g2, g3, g4⟩
  dsimp only at g1 g2 g3 g4 ⊢
  repeat' (first
      | (refine j_go ?_; first
        | refine j_op0 rfl rfl rfl rfl ?_ | (refine j_kIdx rfl ?_; first | refine j_idx rfl rfl rfl rfl rfl (by omega) rfl rfl rfl ?_) | (refine j_kLen rfl ?_; first | refine j_len rfl rfl rfl rfl rfl rfl ?_))
      | refine j_nil ?_
      | (refine r_go ?_; first | refine run_seq ?_ | refine run_region ?_ | (refine (run_if rfl (fun hb => ?_) (fun hb => ?_)) <;> first | (exfalso; omega) | skip) | refine run_block ?_ | refine run_ret ?_ | refine run_exit ?_ | refine run_skip ?_)
      | refine seqQ_normal ?_ | refine seqQ_exit ?_ | refine blockQ_eq ?_ | refine loopQ_exit ?_)
  · have hk : k < l.length := by omega
    refine j_kCall rfl rfl rfl rfl ?_
    refine jcp _ (n_toInt64S l[k] (hl2 _ (List.getElem_mem _))) (List.Perm.refl _) (LeL.refl _) rfl rfl (fun v h1 hR => ?_)
    have hE : EII l[k] [v] h1 := ⟨v, rfl, hR⟩
    obtain ⟨b1, rfl⟩ := hR.isos
    have hok : ([A.os (some b1) l[k].length l[k].length]).all okCell = true := rfl
    repeat' (first
      | (refine j_go ?_; first
        | (refine j_kIdx rfl ?_; first | refine j_midx rfl rfl rfl rfl rfl (by first | omega | (simp only [List.length_append, List.length_cons, List.length_nil]; omega)) rfl rfl ?_)))
    refine j_view (view_perm List.perm_middle) ?_
    refine j_storeE 0 k (g := Subtype.val) (⟨[A.os (some b1) l[k].length l[k].length], rfl⟩ : Cells 1) rfl rfl rfl rfl rfl rfl rfl rfl hok (fun y => y.2 : ∀ y : Cells 1, y.1.length = 1) rfl (by simp; omega) ?_
    repeat' (first
      | (refine j_go ?_; first
        | refine j_op0 rfl rfl rfl rfl ?_ | (refine j_kBin rfl ?_; first | refine j_in rfl rfl ⟨by omega, by omega⟩ rfl rfl ?_))
      | refine j_nil ?_
      | (refine r_go ?_; first | refine run_region ?_)
      | refine seqQ_normal ?_ | refine blockQ_normal ?_)
    refine loopQ_view (view_perm (h' := ⟨some b, 22, l.length * 1, (((css ++ [(⟨[A.os (some b1) l[k].length l[k].length], rfl⟩ : Cells 1)]) ++ List.replicate (l.length - (k + 1)) (⟨[.sl []], rfl⟩ : Cells 1)).map Subtype.val).flatten⟩ :: ((hs ++ [h1]).flatten ++ F)) (by rw [app_rep_set g2 hk]; exact .cons _ (by simp only [List.flatten_append, List.flatten_cons, List.flatten_nil, List.append_nil]; exact (by classical exact List.perm_iff_count.2 fun _ => by simp only [List.count_append, List.count_cons, List.count_nil, Nat.add_zero, Nat.zero_add]; first | done | ac_rfl | omega)))) ?_
    exact loopQ_next (k + 1, css ++ [(⟨[A.os (some b1) l[k].length l[k].length], rfl⟩ : Cells 1)], hs ++ [h1]) ⟨by dsimp only; omega, by simp [g2], by simp [g3], fun i hi h1' h2' => own_snoc g2 g3 (hl := hk) g4 hE i hi h1' h2'⟩ (by dsimp only; omega) rfl ⟨rfl, rfl, nx _, trivial⟩
  · have : k = l.length := by omega
    subst this
    exact endD_ret (h1 := ⟨some b, 22, l.length * 1, (css.map Subtype.val).flatten⟩ :: hs.flatten) (by simp) (.cons (.tmp rfl) .nil) (Le.refl _) ⟨b, css, hs, g2, g3, g4, rfl, rfl⟩ (.inl rfl)
theorem m_markInt64SS (l : List (List Int)) (a : A) (h : Heap) (k0 : Nat) (ho : OwnSl EII 22 1 l a h) (hk : k0 + mcnt List.length l ≤ 4611686018427387904) : Does Try.prog 34 [a, .int (k0 : Int)] h (fun v h' => v = .int ((k0 + mcnt List.length l : Nat) : Int) ∧ h' = []) := by
  obtain ⟨b, css, hs, l1, l2, hall, rfl, rfl⟩ := ho
  refine fn_of_runD tyOk ztOk mix Try.func34 rfl (by decide) Try.ntmps34 (fun w0 F => ?_)
  change Run _ _ _ _ _ (⟨some b, 22, l.length * 1, (css.map Subtype.val).flatten⟩ :: (hs.flatten ++ F))
  refine run_olen (t := 0) rfl (fun hol => ?_)
  repeat' (first
      | (refine j_go ?_; first
        | refine j_op0 rfl rfl rfl rfl ?_)
      | refine j_nil ?_
      | (refine r_go ?_; first | refine run_seq ?_ | refine run_region ?_ | refine run_block ?_)
      | refine seqQ_normal ?_)
  refine run_loop (fun s : Nat × Nat × List (Cells 1) => [(0, .os (some b) l.length l.length), (1, .int (s.2.1 : Int)), (5, .int (s.1 : Int))])
    (fun s => ⟨some b, 22, l.length * 1, (s.2.2.map Subtype.val).flatten⟩ :: ((hs.drop s.1).flatten ++ F))
    (fun s => s.1 ≤ l.length ∧ s.2.1 = k0 + mcnt List.length (l.take s.1) ∧ s.2.2.length = l.length ∧ ∀ i, s.1 ≤ i → s.2.2[i]? = css[i]?) (fun s => l.length - s.1) (0, k0, css) ⟨rfl, rfl, rfl, trivial⟩ (by simp) ⟨by simp, by simp [mcnt], l1, fun _ _ => rfl⟩ ?_
  intro ⟨k, kv, cc⟩ ⟨g1, g2, g3, g4⟩
  dsimp only at g1 g2 g3 g4 ⊢
  by_cases hkl : k < l.length
  · have hc1 : k < css.length := by omega
    have hc2 : k < hs.length := by omega
    have hc3 : k < cc.length := by omega
    have e1 : cc[k] = css[k] := by have := g4 k (Nat.le_refl _); simpa [hc1, hc3] using this
    have hsn := mcnt_take (f := List.length) hkl
    have hlt := mcnt_take_le (f := List.length) (k + 1) l
    have hd : (hs.drop k).flatten = hs[k] ++ (hs.drop (k + 1)).flatten := by rw [List.drop_eq_getElem_cons hc2]; rfl
    obtain ⟨a0, ea, o0⟩ := hall k hkl hc1 hc2
    have hcn : List.length l[k] = l[k].length := rfl
    have e0 : cc = cc.set k (⟨[a0], rfl⟩ : Cells 1) := set_own hc3 (by rw [e1, ea])
    obtain ⟨b0, eb0⟩ := o0.isos
    refine run_heq (h' := ⟨some b, 22, l.length * 1, ((cc.set k (⟨[a0], rfl⟩ : Cells 1)).map Subtype.val).flatten⟩ :: (hs[k] ++ ((hs.drop (k + 1)).flatten ++ F))) (by rw [← e0, hd]; simp only [List.append_assoc]) ?_
    subst eb0
    repeat' (first
      | (refine j_go ?_; first
        | refine j_op0 rfl rfl rfl rfl ?_ | (refine j_kIdx rfl ?_; first | refine j_midx rfl rfl rfl rfl rfl (by first | omega | (simp only [List.length_append, List.length_cons, List.length_nil]; omega)) rfl rfl ?_) | (refine j_kLen rfl ?_; first | refine j_op rfl rfl rfl rfl ?_))
      | refine j_nil ?_
      | (refine r_go ?_; first | refine run_seq ?_ | refine run_region ?_ | (refine (run_if rfl (fun hb => ?_) (fun hb => ?_)) <;> first | (exfalso; omega) | skip) | refine run_block ?_ | refine run_skip ?_)
      | refine seqQ_normal ?_)
    refine j_loadS 0 k 0 rfl rfl rfl rfl rfl hc3 rfl (fun rest => rfl) rfl rfl ?_
    repeat' (first
      | (refine j_go ?_; first
        | refine j_op0 rfl rfl rfl rfl ?_))
    refine j_kCall rfl rfl rfl rfl ?_
    refine jcp _ (m_markInt64S _ _ _ (kv) o0 (by first | omega | (simp only [List.length] at *; omega))) List.perm_middle.symm (LeL.refl _) rfl rfl (fun v h1 hR => ?_)
    obtain ⟨rfl, rfl⟩ := hR
    repeat' (first
      | (refine j_go ?_; first
        | refine j_op0 rfl rfl rfl rfl ?_ | (refine j_kBin rfl ?_; first | refine j_in rfl rfl ⟨by omega, by omega⟩ rfl rfl ?_))
      | refine j_nil ?_
      | (refine r_go ?_; first | refine run_region ?_)
      | refine seqQ_normal ?_ | refine blockQ_normal ?_)
    refine loopQ_nextS (c := ?c) (k + 1) (kv + l[k].length) cc k ?g1 ?g2 ?g3 ?g4
    case g3 => rfl
    case g4 => exact ⟨rfl, rfl, nx _, trivial⟩
    case g2 => dsimp only; omega
    case g1 => exact ⟨by dsimp only; omega, by dsimp only; rw [hsn, hcn]; omega, by dsimp only; rw [List.length_set]; omega, fun i hi => by dsimp only at hi ⊢; rw [List.getElem?_set_ne (by omega)]; exact g4 i (by omega)⟩
  · repeat' (first
      | (refine j_go ?_; first
        | refine j_op0 rfl rfl rfl rfl ?_ | (refine j_kLen rfl ?_; first | refine j_op rfl rfl rfl rfl ?_))
      | refine j_nil ?_
      | (refine r_go ?_; first | refine run_seq ?_ | refine run_region ?_ | (refine (run_if rfl (fun hb => ?_) (fun hb => ?_)) <;> first | (exfalso; omega) | skip) | refine run_ret ?_ | refine run_exit ?_)
      | refine seqQ_normal ?_ | refine seqQ_exit ?_ | refine blockQ_eq ?_ | refine loopQ_exit ?_)
    have : k = l.length := by omega
    subst this
    rw [List.take_length] at g2
    subst g2
    exact endD_view (view_sub (h0 := [] ++ F) (by simp)) (endD_ret (h1 := []) rfl (.cons (.tmp rfl) .nil) (Le.refl _) ⟨rfl, rfl⟩ (.inl rfl))
end Go.Proofs.Ytlllmhjpcdcoiaa

/-
  Lists of numbers that hold what a condition picks, and answers in memory of the call's own. No condition.
-/
namespace Go.Proofs.Ytlllmhjpcdcoiaa
open Go.AI

open Classical in
/-- A list where a condition holds, else the empty one. -/
noncomputable def lsP (p : Prop) (l : List Int) : List Int := if p then l else []
theorem ls_t {p : Prop} (h : p) (l : List Int) : lsP p l = l := by unfold lsP; rw [if_pos h]
theorem ls_f {p : Prop} (h : ¬p) (l : List Int) : lsP p l = [] := by unfold lsP; rw [if_neg h]
theorem ls_len {p : Prop} {l : List Int} {n : Nat} (h : p → l.length ≤ n) : (lsP p l).length ≤ n := by
  by_cases q : p
  · rw [ls_t q]; exact h q
  · rw [ls_f q]; exact Nat.zero_le _
/-- What a call hands back that answers with a list of numbers in memory of its own, and a code. -/
def OwnI (l : List Int) (c : Int) : A → Heap → Prop := fun v h' => ∃ b cap, v = .tup [.os b l.length cap, .int c] ∧ h' = [⟨b, 2, cap * 1, (l.map Go.AI.encI).flatten⟩]
end Go.Proofs.Ytlllmhjpcdcoiaa
