/-
  Copies of lists in memory of the call's own, their marks, and what is held. No condition but that the sizes are bounded.
-/
import Derived.Test.YtandldhceabdiaaZG0
import Derived.Test.YtandldhceabdiaaZGr
import Derived.Test.YtandldhceabdiaaZE2
import Derived.Test.YtandldhceabdiaaZS3e
namespace Go.Proofs.Ytandldhceabdiaa
open Go.AI
set_option maxRecDepth 8000
set_option maxHeartbeats 1600000
def EI (x : Int) (cs : List A) (h : Heap) : Prop := cs = Go.AI.encI x ∧ h = []
theorem EI_frz (x : Int) (cs : List A) (h : Heap) (q : EI x cs h) : FrzL h cs (Go.AI.encI x) := by obtain ⟨rfl, rfl⟩ := q; exact FrzL.cons (Frz.same _ _) (FrzL.nil _)
theorem n_toInt64S (l : List Int) (hl : l.length ≤ 1048576) : Does Try.prog 37 [.sl (l.map Go.AI.encI)] [] (fun v h' => OwnSl EI 2 1 l v h') := by
  refine fn_of_runD tyOk ztOk mix Try.func37 rfl (by decide) Try.ntmps37 (fun w0 F => ?_)
  change Run _ _ _ _ _ F
  repeat' (first
      | (refine j_go ?_; first
        | refine j_op0 rfl rfl rfl rfl ?_ | (refine j_kLen rfl ?_; first | refine j_len rfl rfl rfl rfl rfl rfl ?_))
      | refine j_nil ?_
      | (refine r_go ?_; first | refine run_seq ?_ | refine run_region ?_)
      | refine seqQ_normal ?_)
  refine j_makeI (g := Go.AI.encI) 0 rfl rfl rfl rfl rfl rfl rfl rfl rfl (by omega) rfl rfl (fun b => ?_)
  repeat' (first
      | (refine j_go ?_; first
        | refine j_op0 rfl rfl rfl rfl ?_)
      | refine j_nil ?_
      | (refine r_go ?_; first | refine run_seq ?_ | refine run_region ?_ | refine run_block ?_)
      | refine seqQ_normal ?_)
  refine run_loop (fun k : Nat => [(0, .sl (l.map Go.AI.encI)), (3, .os (some b) l.length l.length), (4, .int (k : Int))]) (fun k => ⟨some b, 2, l.length * 1, ((l.take k ++ List.replicate (l.length - k) 0).map Go.AI.encI).flatten⟩ :: F)
      (fun k => k ≤ l.length) (fun k => l.length - k) 0 ⟨rfl, rfl, rfl, trivial⟩ (by simp) (by omega) ?_
  intro k g1
  repeat' (first
      | (refine j_go ?_; first
        | refine j_op0 rfl rfl rfl rfl ?_ | (refine j_kIdx rfl ?_; first | refine j_idx rfl rfl rfl rfl rfl (by omega) rfl rfl rfl ?_ | refine j_midx rfl rfl rfl rfl rfl (by first | omega | (simp only [List.length_append, List.length_cons, List.length_nil]; omega)) rfl rfl ?_) | (refine j_kLen rfl ?_; first | refine j_len rfl rfl rfl rfl rfl rfl ?_))
      | refine j_nil ?_
      | (refine r_go ?_; first | refine run_seq ?_ | refine run_region ?_ | (refine (run_if rfl (fun hb => ?_) (fun hb => ?_)) <;> first | (exfalso; omega) | skip) | refine run_block ?_ | refine run_ret ?_ | refine run_exit ?_ | refine run_skip ?_)
      | refine seqQ_normal ?_ | refine seqQ_exit ?_ | refine blockQ_eq ?_ | refine loopQ_exit ?_)
  · have hk : k < l.length := by omega
    refine j_storeE 0 k (g := Go.AI.encI) l[k] rfl rfl rfl rfl rfl rfl rfl rfl rfl (fun _ => rfl : ∀ y, (Go.AI.encI y).length = 1) rfl (by simp; omega) ?_
    repeat' (first
      | (refine j_go ?_; first
        | refine j_op0 rfl rfl rfl rfl ?_ | (refine j_kBin rfl ?_; first | refine j_in rfl rfl ⟨by omega, by omega⟩ rfl rfl ?_))
      | refine j_nil ?_
      | (refine r_go ?_; first | refine run_region ?_)
      | refine seqQ_normal ?_ | refine blockQ_normal ?_)
    exact loopQ_next (k + 1) (by omega) (by omega) (by rw [← take_rep_set hk]; rfl) ⟨rfl, rfl, nx _, trivial⟩
  · have : k = l.length := by omega
    subst this
    refine endD_ret (h1 := [⟨some b, 2, l.length * 1, (l.map Go.AI.encI).flatten⟩]) (by simp) (.cons (.tmp rfl) .nil) (Le.refl _) (own_flat fun _ => rfl) (.inl rfl)
/-- .. whatever stood there. -/
theorem x_markInt64S (b : Option Nat) (cap room k0 : Nat) (cs : List A) (hk : k0 + cs.length ≤ 4611686018427387904) :
    Does Try.prog 44 [.os b cs.length cap, .int (k0 : Int)] [⟨b, 2, room, (cs.map fun a => [a]).flatten⟩] (fun v h' => v = .int ((k0 + cs.length : Nat) : Int) ∧ h' = [⟨b, 2, room, (((List.range cs.length).map fun i => A.int ((k0 + i : Nat) : Int)).map fun a => [a]).flatten⟩]) := by
  refine fn_of_runD tyOk ztOk mix Try.func44 rfl (by decide) Try.ntmps44 (fun w0 F => ?_)
  repeat' (first
      | (refine j_go ?_; first
        | refine j_op0 rfl rfl rfl rfl ?_)
      | refine j_nil ?_
      | (refine r_go ?_; first | refine run_seq ?_ | refine run_region ?_ | refine run_block ?_)
      | refine seqQ_normal ?_)
  refine run_loop (fun i : Nat => [(0, .os b cs.length cap), (1, .int ((k0 + i : Nat) : Int)), (5, .int (i : Int))]) (fun i => ⟨b, 2, room, ((((List.range i).map fun q => A.int ((k0 + q : Nat) : Int)) ++ cs.drop i).map fun a => [a]).flatten⟩ :: F)
      (fun i => i ≤ cs.length) (fun i => cs.length - i) 0 ⟨rfl, rfl, rfl, trivial⟩ (by simp) (by omega) ?_
  intro i g1
  by_cases hi : i < cs.length
  · refine run_some 0 rfl (by rw [sing_flat]; intro q; have := congrArg List.length q; simp at this; omega) (fun b' hb' => ?_)
    subst hb'
    repeat' (first
      | (refine j_go ?_; first
        | refine j_op0 rfl rfl rfl rfl ?_ | (refine j_kIdx rfl ?_; first | refine j_midx rfl rfl rfl rfl rfl (by first | omega | (simp only [List.length_append, List.length_cons, List.length_nil]; omega)) rfl rfl ?_) | (refine j_kLen rfl ?_; first | refine j_op rfl rfl rfl rfl ?_))
      | refine j_nil ?_
      | (refine r_go ?_; first | refine run_seq ?_ | refine run_region ?_ | (refine (run_if rfl (fun hb => ?_) (fun hb => ?_)) <;> first | (exfalso; omega) | skip) | refine run_block ?_ | refine run_skip ?_)
      | refine seqQ_normal ?_)
    refine j_storeE 0 i (g := fun a => [a]) (A.int ((k0 + i : Nat) : Int)) rfl rfl rfl rfl rfl rfl rfl rfl rfl (fun _ => rfl : ∀ y, ([y] : List A).length = 1) rfl (by simp; omega) ?_
    repeat' (first
      | (refine j_go ?_; first
        | refine j_op0 rfl rfl rfl rfl ?_ | (refine j_kBin rfl ?_; first | refine j_in rfl rfl ⟨by omega, by omega⟩ rfl rfl ?_))
      | refine j_nil ?_
      | (refine r_go ?_; first | refine run_region ?_)
      | refine seqQ_normal ?_ | refine blockQ_normal ?_)
    exact loopQ_next (i + 1) (by omega) (by omega) (by rw [← range_set (f := fun q => A.int ((k0 + q : Nat) : Int)) _ rfl hi]; rfl) ⟨rfl, nx (k0 + i), nx _, trivial⟩
  · repeat' (first
      | (refine j_go ?_; first
        | refine j_op0 rfl rfl rfl rfl ?_ | (refine j_kLen rfl ?_; first | refine j_op rfl rfl rfl rfl ?_))
      | refine j_nil ?_
      | (refine r_go ?_; first | refine run_seq ?_ | refine run_region ?_ | (refine (run_if rfl (fun hb => ?_) (fun hb => ?_)) <;> first | (exfalso; omega) | skip) | refine run_ret ?_ | refine run_exit ?_)
      | refine seqQ_normal ?_ | refine seqQ_exit ?_ | refine blockQ_eq ?_ | refine loopQ_exit ?_)
    have : i = cs.length := by omega
    subst this
    exact endD_ret (h1 := [_]) rfl (.cons (.tmp rfl) .nil) (Le.refl _) ⟨rfl, by rw [List.drop_length, List.append_nil]⟩ (.inl rfl)
theorem m_markInt64S (l : List Int) (a : A) (h : Heap) (k0 : Nat) (ho : OwnSl EI 2 1 l a h) (hk : k0 + l.length ≤ 4611686018427387904) : Does Try.prog 44 [a, .int (k0 : Int)] h (fun v h' => v = .int ((k0 + l.length : Nat) : Int) ∧ h' = []) := by
  obtain ⟨b, cs, rfl, hc, rfl⟩ := own_unflat (fun x => ⟨_, rfl⟩) ho
  have := x_markInt64S (some b) l.length (l.length * 1) k0 cs (by omega)
  rw [hc] at this
  exact this.drop fun v h' ⟨q1, q2⟩ => ⟨h', [], .refl _, List.nil_sublist _, q1, rfl⟩
theorem c_heldInt64S (L : List Int) (k0 : Nat) (hL : ∀ i (h : i < L.length), L[i] = ((k0 + i : Nat) : Int)) (hk : k0 + L.length ≤ 4611686018427387904) : Gives Try.prog 64 [.sl (L.map Go.AI.encI), .int (k0 : Int)] (.int ((k0 + L.length : Nat) : Int)) := by
  refine fn_of_run tyOk ztOk mix Try.func64 rfl (by decide) Try.ntmps64 (fun w0 h => ?_)
  repeat' (first
      | (refine j_go ?_; first
        | refine j_op0 rfl rfl rfl rfl ?_)
      | refine j_nil ?_
      | (refine r_go ?_; first | refine run_seq ?_ | refine run_region ?_ | refine run_block ?_)
      | refine seqQ_normal ?_)
  refine run_loop (fun i : Nat => [(0, .sl (L.map Go.AI.encI)), (1, .int ((k0 + i : Nat) : Int)), (5, .int (i : Int))]) (fun _ => h) (fun i => i ≤ L.length) (fun i => L.length - i) 0 ⟨rfl, rfl, rfl, trivial⟩ rfl (by omega) ?_
  intro i g1
  by_cases hi : i < L.length
  · have hLi := hL i hi
    repeat' (first
      | (refine j_go ?_; first
        | refine j_op0 rfl rfl rfl rfl ?_ | (refine j_kIdx rfl ?_; first | refine j_idx rfl rfl rfl rfl rfl (by omega) rfl rfl rfl ?_) | (refine j_kBin rfl ?_; first | refine j_in rfl rfl ⟨by omega, by omega⟩ rfl rfl ?_) | (refine j_kLen rfl ?_; first | refine j_len rfl rfl rfl rfl rfl rfl ?_))
      | refine j_nil ?_
      | (refine r_go ?_; first | refine run_seq ?_ | refine run_region ?_ | (refine (run_if rfl (fun hb => ?_) (fun hb => ?_)) <;> first | (exfalso; omega) | skip) | (refine (run_ifn rfl (fun hb => ?_) (fun hb => ?_)) <;> first | (exfalso; omega) | skip) | refine run_block ?_ | refine run_skip ?_)
      | refine seqQ_normal ?_ | refine blockQ_normal ?_)
    all_goals first | exact loopQ_next (i + 1) (by omega) (by omega) rfl ⟨rfl, nx (k0 + i), nx _, trivial⟩ | exact absurd hLi hb
  · repeat' (first
      | (refine j_go ?_; first
        | refine j_op0 rfl rfl rfl rfl ?_ | (refine j_kLen rfl ?_; first | refine j_len rfl rfl rfl rfl rfl rfl ?_))
      | refine j_nil ?_
      | (refine r_go ?_; first | refine run_seq ?_ | refine run_region ?_ | (refine (run_if rfl (fun hb => ?_) (fun hb => ?_)) <;> first | (exfalso; omega) | skip) | refine run_ret ?_ | refine run_exit ?_)
      | refine seqQ_normal ?_ | refine seqQ_exit ?_ | refine blockQ_eq ?_ | refine loopQ_exit ?_)
    have : i = L.length := by omega
    subst this
    exact end1 rfl (List.Sublist.refl _) rfl (.inl rfl)
def marked (k0 n : Nat) : List Int := (List.range n).map fun i => ((k0 + i : Nat) : Int)
theorem x_markI (b : Option Nat) (cap k0 : Nat) (r : List Int) (hk : k0 + r.length ≤ 4611686018427387904) :
    Does Try.prog 44 [.os b r.length cap, .int (k0 : Int)] [⟨b, 2, cap * 1, (r.map Go.AI.encI).flatten⟩] (fun v h' => v = .int ((k0 + r.length : Nat) : Int) ∧ h' = [⟨b, 2, cap * 1, ((marked k0 r.length).map Go.AI.encI).flatten⟩]) := by
  have := x_markInt64S b cap (cap * 1) k0 (r.map A.int) (by simpa using hk)
  have e1 : ((r.map A.int).map fun a => [a]) = r.map Go.AI.encI := by simp [Go.AI.encI]
  have e2 : (((List.range r.length).map fun i => A.int ((k0 + i : Nat) : Int)).map fun a => [a]) = (marked k0 r.length).map Go.AI.encI := by simp [Go.AI.encI, marked]
  rw [e1, List.length_map, e2] at this
  exact this
end Go.Proofs.Ytandldhceabdiaa

/-
  Lists of numbers that hold what a condition picks, and answers in memory of the call's own. No condition.
-/
namespace Go.Proofs.Ytandldhceabdiaa
open Go.AI

open Classical in
/-- A list where a condition holds, else the empty one. -/
noncomputable def lsP (p : Prop) (l : List Int) : List Int := if p then l else []
end Go.Proofs.Ytandldhceabdiaa

/-
  The bag of all objects, on both sides: TotalBag. No condition.
-/
namespace Go.Proofs.Ytandldhceabdiaa
open Go.AI
set_option maxRecDepth 8000
set_option maxHeartbeats 1600000

/-- A list in memory of the call's own. -/
def OwnL (l : List Int) : A → Heap → Prop := fun v h' => ∃ b cap, v = .os b l.length cap ∧ h' = [⟨b, 2, cap * 1, (l.map Go.AI.encI).flatten⟩]
theorem OwnL.clo {l : List Int} {v : A} {h1 : Heap} (q : OwnL l v h1) : Clo v ∧ CloH h1 := by
  obtain ⟨b, cap, rfl, rfl⟩ := q
  exact ⟨Clo.os _ _ _, CloH.cons (CloL.mapInt _ _) CloH.nil⟩
open Classical in
noncomputable def cdL (p : Prop) : Int := if p then 0 else 3
/-- All objects of what is around and of the first k cells. -/
def totK (t : State) : Nat → List Int
  | 0 => t.around
  | k + 1 => plusL (totK t k) (t.bags.getD k []) 1
open Classical in
noncomputable def codeTotalBag (s : System) (t : State) : Int := if s.Ok ∧ s.StateOk t then cdL (Bag (totK t t.bags.length)) else 1
end Go.Proofs.Ytandldhceabdiaa

/-
  Lists of objects: without one, grown by rules; on both sides. No condition.
-/
namespace Go.Proofs.Ytandldhceabdiaa
open Go.AI
set_option maxRecDepth 8000
set_option maxHeartbeats 1600000


def FitR (kind charge x : Int) (r : DivRule) : Prop := r.kind = kind ∧ r.charge = charge ∧ r.object = x
end Go.Proofs.Ytandldhceabdiaa

/-
  What objects become: grown lists, sorted lists; on both sides. No condition.
-/
namespace Go.Proofs.Ytandldhceabdiaa
open Go.AI
set_option maxRecDepth 8000
set_option maxHeartbeats 1600000

/-- There is a rule of a kind for a charge and an object. -/
def Division.hasR (d : Division) (kind charge x : Int) : Prop := ∃ r ∈ d.rules, FitR kind charge x r
open Classical in
noncomputable def Division.grw (d : Division) (kind charge x : Int) : List Int := if d.hasR kind charge x then (d.rules.getD (fIdx (FitR kind charge x) d.rules).toNat default).first else [x]
noncomputable def Division.grown (d : Division) (kind charge : Int) (l : List Int) : List Int := (l.map (d.grw kind charge)).flatten
end Go.Proofs.Ytandldhceabdiaa

/-
  Lists of objects in order, by counting: the reference's l07Sorted. No condition.
-/
namespace Go.Proofs.Ytandldhceabdiaa
open Go.AI
set_option maxRecDepth 8000
set_option maxHeartbeats 1600000

theorem occ_cons7 (x y : Int) (l : List Int) : occ x (y :: l) = (if y = x then 1 else 0) + occ x l := rfl
/-- How often each object is in a list. -/
def cntsL (o : Nat) (l : List Int) : List Int := (List.range o).map fun j : Nat => occ (j : Int) l
theorem cntsL_len {o : Nat} {l : List Int} : (cntsL o l).length = o := by simp [cntsL]
theorem cntsL_get {o : Nat} {l : List Int} {j : Nat} (h : j < (cntsL o l).length) : (cntsL o l)[j] = occ (j : Int) l := by simp [cntsL]
theorem cntsL_nil {o : Nat} : cntsL o [] = List.replicate o 0 := by
  refine List.ext_getElem (by simp [cntsL_len]) fun i h1 h2 => ?_
  rw [cntsL_get]; simp [occ, sumF]
theorem occ_snoc (x : Int) (l : List Int) {k : Nat} (hk : k < l.length) : occ x (l.take (k + 1)) = occ x (l.take k) + one x l[k] := by
  unfold occ
  have := sumF_split (one x) (l.take (k + 1)) k
  rw [this, List.take_take, Nat.min_eq_left (by omega)]
  congr 1
  rw [List.take_succ_eq_append_getElem hk, List.drop_append, List.drop_of_length_le (by rw [List.length_take]; omega)]
  have : k - (l.take k).length = 0 := by rw [List.length_take]; omega
  rw [this]; simp [sumF]
theorem cntsL_set {o : Nat} {l : List Int} {k : Nat} (hk : k < l.length) {j : Nat} (hj : l[k] = (j : Int)) (ho : j < o) : (cntsL o (l.take k)).set j (occ (j : Int) (l.take k) + 1) = cntsL o (l.take (k + 1)) := by
  refine List.ext_getElem (by simp [cntsL_len]) fun i h1 h2 => ?_
  rw [cntsL_get, occ_snoc _ l hk, List.getElem_set, hj]
  by_cases e : j = i
  · subst e; rw [if_pos rfl]; simp [one]
  · rw [if_neg e, cntsL_get]
    have : one (i : Int) (j : Int) = 0 := by unfold one; rw [if_neg (by omega)]
    rw [this]; omega
/-- .. in order. -/
def srtTo (l : List Int) (k : Nat) : List Int := ((List.range k).map fun j : Nat => List.replicate (occ (j : Int) l).toNat (j : Int)).flatten
theorem srtTo_succ (l : List Int) (k : Nat) : srtTo l (k + 1) = srtTo l k ++ List.replicate (occ (k : Int) l).toNat (k : Int) := by
  unfold srtTo; rw [List.range_succ, List.map_append, List.flatten_append]; simp
theorem srtTo_le (l : List Int) : ∀ k, (srtTo l k).length ≤ k * l.length
  | 0 => by simp [srtTo]
  | k + 1 => by
    have := srtTo_le l k
    have := occ_bnd (k : Int) l
    rw [srtTo_succ, List.length_append, List.length_replicate, Nat.add_mul]; omega
def srtL (o : Int) (l : List Int) : List Int := srtTo l o.toNat
theorem o_l07Sorted (o : Int) (l : List Int) (ho : 1 ≤ o ∧ o ≤ 64) (hl : l.length ≤ 20000000) (hr : ∀ x ∈ l, 0 ≤ x ∧ x ≤ o - 1) : Does Try.prog 90 [.int o, .sl (l.map Go.AI.encI)] [] (OwnL (srtL o l)) := by
  refine fn_of_runD tyOk ztOk mix Try.func90 rfl (by decide) Try.ntmps90 (fun w0 F => ?_)
  change Run _ _ _ _ _ F
  have hkA : some (A.int o) = some (A.int ((o.toNat : Nat) : Int)) := by rw [Int.toNat_of_nonneg (by omega)]
  repeat' (first
      | (refine j_go ?_; first
        | refine j_op0 rfl rfl rfl rfl ?_)
      | refine j_nil ?_
      | (refine r_go ?_; first | refine run_seq ?_ | refine run_region ?_)
      | refine seqQ_normal ?_)
  refine j_makeI (g := Go.AI.encI) (m := o.toNat) 0 rfl rfl rfl hkA hkA rfl rfl rfl rfl (by omega) rfl rfl (fun bz => ?_)
  repeat' (first
      | (refine j_go ?_; first
        | refine j_op0 rfl rfl rfl rfl ?_)
      | refine j_nil ?_
      | (refine r_go ?_; first | refine run_seq ?_ | refine run_region ?_ | refine run_block ?_)
      | refine seqQ_normal ?_)
  refine run_loop (fun k : Nat => [(0, .int o), (1, .sl (l.map Go.AI.encI)), (5, .os (some bz) o.toNat o.toNat), (6, .int (k : Int))]) (fun k => ⟨some bz, 2, o.toNat * 1, ((cntsL o.toNat (l.take k)).map Go.AI.encI).flatten⟩ :: F) (fun k => k ≤ l.length) (fun k => l.length - k) 0 ⟨rfl, rfl, rfl, rfl, trivial⟩ (by rw [List.take_zero, cntsL_nil]) (Nat.zero_le _) (fun k kl => ?_)
  by_cases hk : k < l.length
  case pos =>
    have hx := hr _ (List.getElem_mem hk)
    have hj : l[k] = ((l[k].toNat : Nat) : Int) := by rw [Int.toNat_of_nonneg (by omega)]
    have cl := cntsL_len (o := o.toNat) (l := l.take k)
    have ob := occ_bnd ((l[k].toNat : Nat) : Int) (l.take k)
    have tl : (l.take k).length ≤ k := List.length_take_le _ _
    have cg := cntsL_get (o := o.toNat) (l := l.take k) (j := l[k].toNat) (by omega)
    repeat' (first
      | (refine j_go ?_; first
        | refine j_op0 rfl rfl rfl rfl ?_ | (refine j_kIdx rfl ?_; first | refine j_idx rfl rfl rfl rfl rfl (by omega) rfl rfl rfl ?_ | refine j_midxz rfl rfl rfl rfl rfl (by first | omega | (simp only [List.length_append, List.length_cons, List.length_nil]; omega)) rfl rfl ?_) | (refine j_kLen rfl ?_; first | refine j_len rfl rfl rfl rfl rfl rfl ?_))
      | refine j_nil ?_
      | (refine r_go ?_; first | refine run_seq ?_ | refine run_region ?_ | (refine (run_if rfl (fun hb => ?_) (fun hb => ?_)) <;> first | (exfalso; omega) | skip) | refine run_block ?_ | refine run_skip ?_)
      | refine seqQ_normal ?_)
    refine j_mloadE 0 l[k].toNat (g := Go.AI.encI) (L := cntsL o.toNat (l.take k)) (z := 1) rfl rfl rfl rfl (fun _ => rfl) (by omega) (by omega) (fun _ => rfl) rfl rfl ?_
    repeat' (first
      | (refine j_go ?_; first
        | (refine j_kIdx rfl ?_; first | refine j_midxz rfl rfl rfl rfl rfl (by first | omega | (simp only [List.length_append, List.length_cons, List.length_nil]; omega)) rfl rfl ?_) | (refine j_kBin rfl ?_; first | refine j_in rfl rfl ⟨by omega, by omega⟩ rfl rfl ?_)))
    refine j_storeE 0 l[k].toNat (g := Go.AI.encI) ((cntsL o.toNat (l.take k))[l[k].toNat]'(by omega) + 1) rfl rfl rfl rfl rfl rfl rfl rfl rfl (fun _ => rfl) (by omega) (by omega) ?_
    rw [cg, cntsL_set hk hj (by omega)]
    repeat' (first
      | (refine j_go ?_; first
        | refine j_op0 rfl rfl rfl rfl ?_ | (refine j_kBin rfl ?_; first | refine j_in rfl rfl ⟨by omega, by omega⟩ rfl rfl ?_))
      | refine j_nil ?_
      | (refine r_go ?_; first | refine run_region ?_)
      | refine seqQ_normal ?_ | refine blockQ_normal ?_)
    exact loopQ_next (k + 1) (by omega) (by omega) rfl ⟨rfl, rfl, rfl, nx _, trivial⟩
  have hke : k = l.length := by omega
  subst hke
  rw [List.take_length]
  have cl := cntsL_len (o := o.toNat) (l := l)
  refine run_view (view_freeze (g := Go.AI.encI) (z := 1) (ys := cntsL o.toNat l) 0 5 (by rw [cl]; rfl) rfl rfl (fun _ => rfl) rfl rfl) ?_
  repeat' (first
      | (refine j_go ?_; first
        | refine j_op0 rfl rfl rfl rfl ?_ | (refine j_kLen rfl ?_; first | refine j_len rfl rfl rfl rfl rfl rfl ?_) | (refine j_kBsl rfl ?_; first | refine j_bs0 rfl rfl rfl rfl rfl rfl ?_))
      | refine j_nil ?_
      | (refine r_go ?_; first | refine run_seq ?_ | refine run_region ?_ | (refine (run_if rfl (fun hb => ?_) (fun hb => ?_)) <;> first | (exfalso; omega) | skip) | refine run_block ?_ | refine run_exit ?_)
      | refine seqQ_normal ?_ | refine seqQ_exit ?_ | refine blockQ_eq ?_ | refine loopQ_exit ?_)
  refine run_view (view_none 2 0 rfl) ?_
  refine run_loop (fun x : Nat × Option Nat × Nat => [(0, .int o), (5, .sl ((cntsL o.toNat l).map Go.AI.encI)), (7, .os x.2.1 (srtTo l x.1).length x.2.2), (8, .int (x.1 : Int))]) (fun x => ⟨x.2.1, 2, x.2.2 * 1, ((srtTo l x.1).map Go.AI.encI).flatten⟩ :: F) (fun x => x.1 ≤ o.toNat) (fun x => o.toNat - x.1) (0, none, 0) ⟨rfl, rfl, rfl, rfl, trivial⟩ rfl (Nat.zero_le _) (fun ⟨k, ob, cp⟩ kl => ?_)
  dsimp only at kl ⊢
  have sl := srtTo_le l k
  have sl2 : k * l.length ≤ 64 * l.length := Nat.mul_le_mul_right _ (by omega)
  by_cases hk : k < o.toNat
  case pos =>
    have ck := cntsL_get (o := o.toNat) (l := l) (j := k) (by omega)
    have ob' := occ_bnd (k : Int) l
    repeat' (first
      | (refine j_go ?_; first
        | refine j_op0 rfl rfl rfl rfl ?_)
      | refine j_nil ?_
      | (refine r_go ?_; first | refine run_seq ?_ | refine run_region ?_ | (refine (run_if rfl (fun hb => ?_) (fun hb => ?_)) <;> first | (exfalso; omega) | skip) | refine run_block ?_ | refine run_skip ?_)
      | refine seqQ_normal ?_)
    refine run_loop (fun x : Nat × Option Nat × Nat => [(0, .int o), (5, .sl ((cntsL o.toNat l).map Go.AI.encI)), (8, .int (k : Int)), (7, .os x.2.1 (srtTo l k ++ List.replicate x.1 (k : Int)).length x.2.2), (9, .int (x.1 : Int))]) (fun x => ⟨x.2.1, 2, x.2.2 * 1, ((srtTo l k ++ List.replicate x.1 (k : Int)).map Go.AI.encI).flatten⟩ :: F) (fun x => x.1 ≤ (occ (k : Int) l).toNat) (fun x => (occ (k : Int) l).toNat - x.1) (0, ob, cp) ⟨rfl, rfl, rfl, (by simp; rfl), rfl, trivial⟩ (by simp) (Nat.zero_le _) (fun ⟨i, oc, cc⟩ il => ?_)
    dsimp only at il ⊢
    have ll : (srtTo l k ++ List.replicate i (k : Int)).length = (srtTo l k).length + i := by rw [List.length_append, List.length_replicate]
    by_cases hi : i < (occ (k : Int) l).toNat
    case pos =>
      repeat' (first
      | (refine j_go ?_; first
        | refine j_op0 rfl rfl rfl rfl ?_ | (refine j_kIdx rfl ?_; first | refine j_idx rfl rfl rfl rfl rfl (by omega) rfl rfl rfl ?_) | (refine j_kBsl rfl ?_; first | refine j_bsl rfl rfl rfl rfl rfl rfl rfl rfl rfl rfl rfl ?_))
      | refine j_nil ?_
      | (refine r_go ?_; first | refine run_seq ?_ | refine run_region ?_ | (refine (run_if rfl (fun hb => ?_) (fun hb => ?_)) <;> first | (exfalso; omega) | skip) | refine run_block ?_ | refine run_skip ?_)
      | refine seqQ_normal ?_)
      refine j_append 0 (g := Go.AI.encI) (ys := srtTo l k ++ List.replicate i (k : Int)) [(k : Int)] rfl rfl rfl rfl rfl rfl rfl rfl rfl rfl rfl rfl (fun _ => rfl) (fun _ _ => rfl) ⟨by rw [ll]; simp only [List.length_cons, List.length_nil]; omega, by rw [ll]; simp only [List.length_cons, List.length_nil]; omega⟩ rfl rfl (fun b' cap' => ?_)
      rw [List.append_assoc, ← List.replicate_succ']
      repeat' (first
      | (refine j_go ?_; first
        | refine j_op0 rfl rfl rfl rfl ?_ | (refine j_kBin rfl ?_; first | refine j_in rfl rfl ⟨by omega, by omega⟩ rfl rfl ?_))
      | refine j_nil ?_
      | (refine r_go ?_; first | refine run_region ?_)
      | refine seqQ_normal ?_ | refine blockQ_normal ?_)
      exact loopQ_next (i + 1, b', cap') (by dsimp only; omega) (by dsimp only; omega) rfl ⟨rfl, rfl, rfl, rfl, nx _, trivial⟩
    have hie : i = (occ (k : Int) l).toNat := by omega
    subst hie
    repeat' (first
      | (refine j_go ?_; first
        | refine j_op0 rfl rfl rfl rfl ?_ | (refine j_kIdx rfl ?_; first | refine j_idx rfl rfl rfl rfl rfl (by omega) rfl rfl rfl ?_) | (refine j_kBin rfl ?_; first | refine j_in rfl rfl ⟨by omega, by omega⟩ rfl rfl ?_))
      | refine j_nil ?_
      | (refine r_go ?_; first | refine run_seq ?_ | refine run_region ?_ | (refine (run_if rfl (fun hb => ?_) (fun hb => ?_)) <;> first | (exfalso; omega) | skip) | refine run_exit ?_)
      | refine seqQ_normal ?_ | refine seqQ_exit ?_ | refine blockQ_normal ?_ | refine blockQ_eq ?_ | refine loopQ_exit ?_)
    rw [← srtTo_succ]
    exact loopQ_next (k + 1, oc, cc) (by dsimp only; omega) (by dsimp only; omega) rfl ⟨rfl, rfl, rfl, nx _, trivial⟩
  have hke : k = o.toNat := by omega
  subst hke
  repeat' (first
      | (refine j_go ?_; first
        | refine j_op0 rfl rfl rfl rfl ?_)
      | refine j_nil ?_
      | (refine r_go ?_; first | refine run_seq ?_ | refine run_region ?_ | (refine (run_if rfl (fun hb => ?_) (fun hb => ?_)) <;> first | (exfalso; omega) | skip) | refine run_ret ?_ | refine run_exit ?_)
      | refine seqQ_normal ?_ | refine seqQ_exit ?_ | refine blockQ_eq ?_ | refine loopQ_exit ?_)
  exact endD_ret (h1 := [_]) rfl (.cons (.tmp rfl) .nil) (Le.refl _) ⟨ob, cp, rfl, rfl⟩ (.inl rfl)
theorem c_l07Sorted (o : Int) (l : List Int) (ho : 1 ≤ o ∧ o ≤ 64) (hl : l.length ≤ 20000000) (hr : ∀ x ∈ l, 0 ≤ x ∧ x ≤ o - 1) : Gives Try.prog 90 [.int o, .sl (l.map Go.AI.encI)] (.sl ((srtL o l).map Go.AI.encI)) := (o_l07Sorted o l ho hl hr).frozen fun _ _ ⟨b, cap, q1, q2⟩ => by rw [q1, q2]; exact FrzF.flat rfl rfl (fun _ => rfl) rfl rfl
end Go.Proofs.Ytandldhceabdiaa
