/-
  Lists of objects in order, by counting: the reference's l07Sorted. No condition.
-/
import Derived.Test.YtbhiaccbpbnbmaaGreatZS7m
import Derived.Test.YtbhiaccbpbnbmaaGreatZS0
import Derived.Test.YtbhiaccbpbnbmaaGreatZP
import Derived.Test.YtbhiaccbpbnbmaaGreatZE5
namespace Go.Proofs.YtbhiaccbpbnbmaaGreat
open Go.AI
set_option maxRecDepth 8000
set_option maxHeartbeats 1600000

theorem occ_cons7 (x y : Int) (l : List Int) : occ x (y :: l) = (if y = x then 1 else 0) + occ x l := rfl
/-- How often each object is in a list. -/
def cntsL (o : Nat) (l : List Int) : List Int := (List.range o).map fun j : Nat => occ (j : Int) l
theorem cntsL_len {o : Nat} {l : List Int} : (cntsL o l).length = o := by simp [cntsL]
theorem cntsL_get {o : Nat} {l : List Int} {j : Nat} (h : j < (cntsL o l).length) : (cntsL o l)[j] = occ (j : Int) l := by simp [cntsL]
theorem cntsL_nil {o : Nat} : cntsL o [] = List.replicate o 0 := by
  refine List.ext_getElem (by simp [cntsL_len]) fun i h1 h2 => ?_
  rw [cntsL_get]; simp [occ, sumF]
theorem occ_snoc (x : Int) (l : List Int) {k : Nat} (hk : k < l.length) : occ x (l.take (k + 1)) = occ x (l.take k) + one x l[k] := by
  unfold occ
  have := sumF_split (one x) (l.take (k + 1)) k
  rw [this, List.take_take, Nat.min_eq_left (by omega)]
  congr 1
  rw [List.take_succ_eq_append_getElem hk, List.drop_append, List.drop_of_length_le (by rw [List.length_take]; omega)]
  have : k - (l.take k).length = 0 := by rw [List.length_take]; omega
  rw [this]; simp [sumF]
theorem cntsL_set {o : Nat} {l : List Int} {k : Nat} (hk : k < l.length) {j : Nat} (hj : l[k] = (j : Int)) (ho : j < o) : (cntsL o (l.take k)).set j (occ (j : Int) (l.take k) + 1) = cntsL o (l.take (k + 1)) := by
  refine List.ext_getElem (by simp [cntsL_len]) fun i h1 h2 => ?_
  rw [cntsL_get, occ_snoc _ l hk, List.getElem_set, hj]
  by_cases e : j = i
  · subst e; rw [if_pos rfl]; simp [one]
  · rw [if_neg e, cntsL_get]
    have : one (i : Int) (j : Int) = 0 := by unfold one; rw [if_neg (by omega)]
    rw [this]; omega
/-- .. in order. -/
def srtTo (l : List Int) (k : Nat) : List Int := ((List.range k).map fun j : Nat => List.replicate (occ (j : Int) l).toNat (j : Int)).flatten
theorem srtTo_succ (l : List Int) (k : Nat) : srtTo l (k + 1) = srtTo l k ++ List.replicate (occ (k : Int) l).toNat (k : Int) := by
  unfold srtTo; rw [List.range_succ, List.map_append, List.flatten_append]; simp
theorem srtTo_le (l : List Int) : ∀ k, (srtTo l k).length ≤ k * l.length
  | 0 => by simp [srtTo]
  | k + 1 => by
    have := srtTo_le l k
    have := occ_bnd (k : Int) l
    rw [srtTo_succ, List.length_append, List.length_replicate, Nat.add_mul]; omega
def srtL (o : Int) (l : List Int) : List Int := srtTo l o.toNat
theorem o_l07Sorted (o : Int) (l : List Int) (ho : 1 ≤ o ∧ o ≤ 64) (hl : l.length ≤ 20000000) (hr : ∀ x ∈ l, 0 ≤ x ∧ x ≤ o - 1) : Does Tryz.prog 42 [.int o, .sl (l.map Go.AI.encI)] [] (OwnL (srtL o l)) := by
  refine fn_of_runD tyOk ztOk mix Tryz.func42 rfl (by decide) Tryz.ntmps42 (fun w0 F => ?_)
  change Run _ _ _ _ _ F
  have hkA : some (A.int o) = some (A.int ((o.toNat : Nat) : Int)) := by rw [Int.toNat_of_nonneg (by omega)]
  repeat' (first
      | (refine j_go ?_; first
        | refine j_op0 rfl rfl rfl rfl ?_)
      | refine j_nil ?_
      | (refine r_go ?_; first | refine run_seq ?_ | refine run_region ?_)
      | refine seqQ_normal ?_)
  refine j_makeI (g := Go.AI.encI) (m := o.toNat) 0 rfl rfl rfl hkA hkA rfl rfl rfl rfl (by omega) rfl rfl (fun bz => ?_)
  repeat' (first
      | (refine j_go ?_; first
        | refine j_op0 rfl rfl rfl rfl ?_)
      | refine j_nil ?_
      | (refine r_go ?_; first | refine run_seq ?_ | refine run_region ?_ | refine run_block ?_)
      | refine seqQ_normal ?_)
  refine run_loop (fun k : Nat => [(0, .int o), (1, .sl (l.map Go.AI.encI)), (5, .os (some bz) o.toNat o.toNat), (6, .int (k : Int))]) (fun k => ⟨some bz, 2, o.toNat * 1, ((cntsL o.toNat (l.take k)).map Go.AI.encI).flatten⟩ :: F) (fun k => k ≤ l.length) (fun k => l.length - k) 0 ⟨rfl, rfl, rfl, rfl, trivial⟩ (by rw [List.take_zero, cntsL_nil]) (Nat.zero_le _) (fun k kl => ?_)
  by_cases hk : k < l.length
  case pos =>
    have hx := hr _ (List.getElem_mem hk)
    have hj : l[k] = ((l[k].toNat : Nat) : Int) := by rw [Int.toNat_of_nonneg (by omega)]
    have cl := cntsL_len (o := o.toNat) (l := l.take k)
    have ob := occ_bnd ((l[k].toNat : Nat) : Int) (l.take k)
    have tl : (l.take k).length ≤ k := List.length_take_le _ _
    have cg := cntsL_get (o := o.toNat) (l := l.take k) (j := l[k].toNat) (by omega)
    repeat' (first
      | (refine j_go ?_; first
        | refine j_op0 rfl rfl rfl rfl ?_ | (refine j_kIdx rfl ?_; first | refine j_idx rfl rfl rfl rfl rfl (by omega) rfl rfl rfl ?_ | refine j_midxz rfl rfl rfl rfl rfl (by first | omega | (simp only [List.length_append, List.length_cons, List.length_nil]; omega)) rfl rfl ?_) | (refine j_kLen rfl ?_; first | refine j_len rfl rfl rfl rfl rfl rfl ?_))
      | refine j_nil ?_
      | (refine r_go ?_; first | refine run_seq ?_ | refine run_region ?_ | (refine (run_if rfl (fun hb => ?_) (fun hb => ?_)) <;> first | (exfalso; omega) | skip) | refine run_block ?_ | refine run_skip ?_)
      | refine seqQ_normal ?_)
    refine j_mloadE 0 l[k].toNat (g := Go.AI.encI) (L := cntsL o.toNat (l.take k)) (z := 1) rfl rfl rfl rfl (fun _ => rfl) (by omega) (by omega) (fun _ => rfl) rfl rfl ?_
    repeat' (first
      | (refine j_go ?_; first
        | (refine j_kIdx rfl ?_; first | refine j_midxz rfl rfl rfl rfl rfl (by first | omega | (simp only [List.length_append, List.length_cons, List.length_nil]; omega)) rfl rfl ?_) | (refine j_kBin rfl ?_; first | refine j_in rfl rfl ⟨by omega, by omega⟩ rfl rfl ?_)))
    refine j_storeE 0 l[k].toNat (g := Go.AI.encI) ((cntsL o.toNat (l.take k))[l[k].toNat]'(by omega) + 1) rfl rfl rfl rfl rfl rfl rfl rfl rfl (fun _ => rfl) (by omega) (by omega) ?_
    rw [cg, cntsL_set hk hj (by omega)]
    repeat' (first
      | (refine j_go ?_; first
        | refine j_op0 rfl rfl rfl rfl ?_ | (refine j_kBin rfl ?_; first | refine j_in rfl rfl ⟨by omega, by omega⟩ rfl rfl ?_))
      | refine j_nil ?_
      | (refine r_go ?_; first | refine run_region ?_)
      | refine seqQ_normal ?_ | refine blockQ_normal ?_)
    exact loopQ_next (k + 1) (by omega) (by omega) rfl ⟨rfl, rfl, rfl, nx _, trivial⟩
  have hke : k = l.length := by omega
  subst hke
  rw [List.take_length]
  have cl := cntsL_len (o := o.toNat) (l := l)
  refine run_view (view_freeze (g := Go.AI.encI) (z := 1) (ys := cntsL o.toNat l) 0 5 (by rw [cl]; rfl) rfl rfl (fun _ => rfl) rfl rfl) ?_
  repeat' (first
      | (refine j_go ?_; first
        | refine j_op0 rfl rfl rfl rfl ?_ | (refine j_kLen rfl ?_; first | refine j_len rfl rfl rfl rfl rfl rfl ?_) | (refine j_kBsl rfl ?_; first | refine j_bs0 rfl rfl rfl rfl rfl rfl ?_))
      | refine j_nil ?_
      | (refine r_go ?_; first | refine run_seq ?_ | refine run_region ?_ | (refine (run_if rfl (fun hb => ?_) (fun hb => ?_)) <;> first | (exfalso; omega) | skip) | refine run_block ?_ | refine run_exit ?_)
      | refine seqQ_normal ?_ | refine seqQ_exit ?_ | refine blockQ_eq ?_ | refine loopQ_exit ?_)
  refine run_view (view_none 2 0 rfl) ?_
  refine run_loop (fun x : Nat × Option Nat × Nat => [(0, .int o), (5, .sl ((cntsL o.toNat l).map Go.AI.encI)), (7, .os x.2.1 (srtTo l x.1).length x.2.2), (8, .int (x.1 : Int))]) (fun x => ⟨x.2.1, 2, x.2.2 * 1, ((srtTo l x.1).map Go.AI.encI).flatten⟩ :: F) (fun x => x.1 ≤ o.toNat) (fun x => o.toNat - x.1) (0, none, 0) ⟨rfl, rfl, rfl, rfl, trivial⟩ rfl (Nat.zero_le _) (fun ⟨k, ob, cp⟩ kl => ?_)
  dsimp only at kl ⊢
  have sl := srtTo_le l k
  have sl2 : k * l.length ≤ 64 * l.length := Nat.mul_le_mul_right _ (by omega)
  by_cases hk : k < o.toNat
  case pos =>
    have ck := cntsL_get (o := o.toNat) (l := l) (j := k) (by omega)
    have ob' := occ_bnd (k : Int) l
    repeat' (first
      | (refine j_go ?_; first
        | refine j_op0 rfl rfl rfl rfl ?_)
      | refine j_nil ?_
      | (refine r_go ?_; first | refine run_seq ?_ | refine run_region ?_ | (refine (run_if rfl (fun hb => ?_) (fun hb => ?_)) <;> first | (exfalso; omega) | skip) | refine run_block ?_ | refine run_skip ?_)
      | refine seqQ_normal ?_)
    refine run_loop (fun x : Nat × Option Nat × Nat => [(0, .int o), (5, .sl ((cntsL o.toNat l).map Go.AI.encI)), (8, .int (k : Int)), (7, .os x.2.1 (srtTo l k ++ List.replicate x.1 (k : Int)).length x.2.2), (9, .int (x.1 : Int))]) (fun x => ⟨x.2.1, 2, x.2.2 * 1, ((srtTo l k ++ List.replicate x.1 (k : Int)).map Go.AI.encI).flatten⟩ :: F) (fun x => x.1 ≤ (occ (k : Int) l).toNat) (fun x => (occ (k : Int) l).toNat - x.1) (0, ob, cp) ⟨rfl, rfl, rfl, (by simp; rfl), rfl, trivial⟩ (by simp) (Nat.zero_le _) (fun ⟨i, oc, cc⟩ il => ?_)
    dsimp only at il ⊢
    have ll : (srtTo l k ++ List.replicate i (k : Int)).length = (srtTo l k).length + i := by rw [List.length_append, List.length_replicate]
    by_cases hi : i < (occ (k : Int) l).toNat
    case pos =>
      repeat' (first
      | (refine j_go ?_; first
        | refine j_op0 rfl rfl rfl rfl ?_ | (refine j_kIdx rfl ?_; first | refine j_idx rfl rfl rfl rfl rfl (by omega) rfl rfl rfl ?_) | (refine j_kBsl rfl ?_; first | refine j_bsl rfl rfl rfl rfl rfl rfl rfl rfl rfl rfl rfl ?_))
      | refine j_nil ?_
      | (refine r_go ?_; first | refine run_seq ?_ | refine run_region ?_ | (refine (run_if rfl (fun hb => ?_) (fun hb => ?_)) <;> first | (exfalso; omega) | skip) | refine run_block ?_ | refine run_skip ?_)
      | refine seqQ_normal ?_)
      refine j_append 0 (g := Go.AI.encI) (ys := srtTo l k ++ List.replicate i (k : Int)) [(k : Int)] rfl rfl rfl rfl rfl rfl rfl rfl rfl rfl rfl rfl (fun _ => rfl) (fun _ _ => rfl) ⟨by rw [ll]; simp only [List.length_cons, List.length_nil]; omega, by rw [ll]; simp only [List.length_cons, List.length_nil]; omega⟩ rfl rfl (fun b' cap' => ?_)
      rw [List.append_assoc, ← List.replicate_succ']
      repeat' (first
      | (refine j_go ?_; first
        | refine j_op0 rfl rfl rfl rfl ?_ | (refine j_kBin rfl ?_; first | refine j_in rfl rfl ⟨by omega, by omega⟩ rfl rfl ?_))
      | refine j_nil ?_
      | (refine r_go ?_; first | refine run_region ?_)
      | refine seqQ_normal ?_ | refine blockQ_normal ?_)
      exact loopQ_next (i + 1, b', cap') (by dsimp only; omega) (by dsimp only; omega) rfl ⟨rfl, rfl, rfl, rfl, nx _, trivial⟩
    have hie : i = (occ (k : Int) l).toNat := by omega
    subst hie
    repeat' (first
      | (refine j_go ?_; first
        | refine j_op0 rfl rfl rfl rfl ?_ | (refine j_kIdx rfl ?_; first | refine j_idx rfl rfl rfl rfl rfl (by omega) rfl rfl rfl ?_) | (refine j_kBin rfl ?_; first | refine j_in rfl rfl ⟨by omega, by omega⟩ rfl rfl ?_))
      | refine j_nil ?_
      | (refine r_go ?_; first | refine run_seq ?_ | refine run_region ?_ | (refine (run_if rfl (fun hb => ?_) (fun hb => ?_)) <;> first | (exfalso; omega) | skip) | refine run_exit ?_)
      | refine seqQ_normal ?_ | refine seqQ_exit ?_ | refine blockQ_normal ?_ | refine blockQ_eq ?_ | refine loopQ_exit ?_)
    rw [← srtTo_succ]
    exact loopQ_next (k + 1, oc, cc) (by dsimp only; omega) (by dsimp only; omega) rfl ⟨rfl, rfl, rfl, nx _, trivial⟩
  have hke : k = o.toNat := by omega
  subst hke
  repeat' (first
      | (refine j_go ?_; first
        | refine j_op0 rfl rfl rfl rfl ?_)
      | refine j_nil ?_
      | (refine r_go ?_; first | refine run_seq ?_ | refine run_region ?_ | (refine (run_if rfl (fun hb => ?_) (fun hb => ?_)) <;> first | (exfalso; omega) | skip) | refine run_ret ?_ | refine run_exit ?_)
      | refine seqQ_normal ?_ | refine seqQ_exit ?_ | refine blockQ_eq ?_ | refine loopQ_exit ?_)
  exact endD_ret (h1 := [_]) rfl (.cons (.tmp rfl) .nil) (Le.refl _) ⟨ob, cp, rfl, rfl⟩ (.inl rfl)
theorem c_l07Sorted (o : Int) (l : List Int) (ho : 1 ≤ o ∧ o ≤ 64) (hl : l.length ≤ 20000000) (hr : ∀ x ∈ l, 0 ≤ x ∧ x ≤ o - 1) : Gives Tryz.prog 42 [.int o, .sl (l.map Go.AI.encI)] (.sl ((srtL o l).map Go.AI.encI)) := (o_l07Sorted o l ho hl hr).frozen fun _ _ ⟨b, cap, q1, q2⟩ => by rw [q1, q2]; exact FrzF.flat rfl rfl (fun _ => rfl) rfl rfl
end Go.Proofs.YtbhiaccbpbnbmaaGreat

/-
  Copies of the data of theme 7 in memory of the call's own, and their marks. No condition but that the sizes are bounded.
-/
namespace Go.Proofs.YtbhiaccbpbnbmaaGreat
open Go.AI
set_option maxRecDepth 8000
set_option maxHeartbeats 1600000





end Go.Proofs.YtbhiaccbpbnbmaaGreat

/-
  Results in memory of the call's own: their marks, and what is held of them. No condition but that the sizes are bounded.
-/
namespace Go.Proofs.YtbhiaccbpbnbmaaGreat
open Go.AI
set_option maxRecDepth 8000
set_option maxHeartbeats 1600000
def ROI (l : List Int) (a : A) (h : Heap) : Prop := OwnF Go.AI.encI 2 1 l a h
def ROB (l : List Bool) (a : A) (h : Heap) : Prop := OwnF encB 4 1 l a h
def ROII (L : List (List Int)) (a : A) (h : Heap) : Prop := OwnLL ROI 27 L a h
theorem ROI.frz {l : List Int} {a : A} {h : Heap} (o : ROI l a h) : Frz h a (.sl (l.map Go.AI.encI)) := OwnF.frz (fun _ => rfl) rfl o
theorem ROB.frz {l : List Bool} {a : A} {h : Heap} (o : ROB l a h) : Frz h a (.sl (l.map encB)) := OwnF.frz (fun _ => rfl) rfl o
theorem ROII.frz {l : List (List Int)} {a : A} {h : Heap} (o : ROII l a h) : Frz h a (.sl (l.map (encS Go.AI.encI))) := OwnLL.frz (enc := fun x => (x.map Go.AI.encI)) (fun _ _ _ q => q.frz) o (fun _ => rfl)
theorem ROI.clo {l : List Int} {a : A} {h : Heap} (o : ROI l a h) : Clo a ∧ CloH h := OwnF.clo (fun _ => CloL.cons (Clo.int _) CloL.nil) o
theorem ROB.clo {l : List Bool} {a : A} {h : Heap} (o : ROB l a h) : Clo a ∧ CloH h := OwnF.clo (fun _ => CloL.cons (Clo.raw _) CloL.nil) o
theorem ROII.clo {l : List (List Int)} {a : A} {h : Heap} (o : ROII l a h) : Clo a ∧ CloH h := OwnLL.clo (fun _ _ _ q => q.clo) o
theorem OwnF.okc {α : Type} {g : α → List A} {T z : Nat} {l : List α} {a : A} {h : Heap} (o : OwnF g T z l a h) : okCell a = true := by
  rcases o with ⟨b, cap, rfl, rfl⟩ | ⟨rfl, rfl, rfl⟩ <;> rfl
theorem OwnLL.okc {β : Type} {O : β → A → Heap → Prop} {T : Nat} {L : List β} {a : A} {h : Heap} (o : OwnLL O T L a h) : okCell a = true := by
  rcases o with ⟨b, cap, vs, hs, _, _, _, rfl, rfl⟩ | ⟨rfl, rfl, rfl⟩ <;> rfl

theorem ROI.frzF {l : List Int} {a : A} {h : Heap} (o : ROI l a h) : FrzF h a (.sl (l.map Go.AI.encI)) := OwnF.frzF (fun _ => rfl) rfl o
theorem ROB.frzF {l : List Bool} {a : A} {h : Heap} (o : ROB l a h) : FrzF h a (.sl (l.map encB)) := OwnF.frzF (fun _ => rfl) rfl o
theorem ROII.frzF {l : List (List Int)} {a : A} {h : Heap} (o : ROII l a h) : FrzF h a (.sl (l.map (encS Go.AI.encI))) := OwnLL.frzF (enc := fun x => (x.map Go.AI.encI)) (fun _ _ _ q => q.frzF) o (fun _ => rfl)
end Go.Proofs.YtbhiaccbpbnbmaaGreat

/-
  Lists of structs with memory of their own. No condition.
-/
namespace Go.Proofs.YtbhiaccbpbnbmaaGreat
open Go.AI
set_option maxRecDepth 8000
set_option maxHeartbeats 1600000
/-- A list of elements with memory of their own: a block, or none at all. -/
def OwnS {α : Type} (E : α → List A → Heap → Prop) (T z : Nat) (L : List α) (a : A) (h : Heap) : Prop := OwnC E T z L a h ∨ (L = [] ∧ a = .sl [] ∧ h = [])
theorem OwnS.frz {α : Type} {E : α → List A → Heap → Prop} {enc : α → List A} {T z : Nat} {L : List α} {a : A} {h : Heap} (hz : ∀ x, (enc x).length = z) (hz0 : Nat.blt 0 z = true) (hE : ∀ x cs h, E x cs h → FrzL h cs (enc x)) (o : OwnS E T z L a h) : Frz h a (.sl (L.map enc)) := by
  rcases o with o | ⟨rfl, rfl, rfl⟩
  · exact o.frz hz hz0 hE
  · exact Frz.same _ _
theorem OwnS.frzF {α : Type} {E : α → List A → Heap → Prop} {enc : α → List A} {T z : Nat} {L : List α} {a : A} {h : Heap} (hz : ∀ x, (enc x).length = z) (hz0 : Nat.blt 0 z = true) (hE : ∀ x cs h, E x cs h → FrzLF h cs (enc x)) (o : OwnS E T z L a h) : FrzF h a (.sl (L.map enc)) := by
  rcases o with o | ⟨rfl, rfl, rfl⟩
  · exact o.frzF hz hz0 hE
  · exact FrzF.same _ _
theorem OwnS.clo {α : Type} {E : α → List A → Heap → Prop} {T z : Nat} {L : List α} {a : A} {h : Heap} (hE : ∀ x cs h, E x cs h → CloL cs ∧ CloH h) (o : OwnS E T z L a h) : Clo a ∧ CloH h := by
  rcases o with o | ⟨rfl, rfl, rfl⟩
  · exact o.clo hE
  · exact ⟨Clo.nil, CloH.nil⟩
theorem OwnS.okc {α : Type} {E : α → List A → Heap → Prop} {T z : Nat} {L : List α} {a : A} {h : Heap} (o : OwnS E T z L a h) : okCell a = true := by
  rcases o with ⟨b, cap, css, hs, _, _, _, rfl, rfl⟩ | ⟨rfl, rfl, rfl⟩ <;> rfl
end Go.Proofs.YtbhiaccbpbnbmaaGreat

/-
  Divisions and colonies in memory of the call's own: their marks, and what is held of them. No condition but that the sizes are bounded.
-/
namespace Go.Proofs.YtbhiaccbpbnbmaaGreat
open Go.AI
set_option maxRecDepth 8000
set_option maxHeartbeats 1600000
def ERGroup (x : Group) (cs : List A) (h : Heap) : Prop := ∃ (a0 : A), ROI x.contents a0 h ∧ cs = [.int x.charge, a0, .int x.count]
theorem ERGroup.frz {x : Group} {cs : List A} {h : Heap} (q : ERGroup x cs h) : FrzL h cs (encGroup x) := by
  obtain ⟨a0, o0, rfl⟩ := q
  exact FrzL.cons (Frz.same _ _) (FrzL.cons o0.frz (FrzL.cons (Frz.same _ _) (FrzL.nil _)))
theorem ERGroup.frzF {x : Group} {cs : List A} {h : Heap} (q : ERGroup x cs h) : FrzLF h cs (encGroup x) := by
  obtain ⟨a0, o0, rfl⟩ := q
  have := FrzLF.cons (FrzF.same [] (.int x.charge)) (FrzLF.cons o0.frzF (FrzLF.cons (FrzF.same [] (.int x.count)) (FrzLF.nil (h := []))))
  simp only [List.append_nil, List.nil_append] at this
  exact this
theorem ERGroup.clo {x : Group} {cs : List A} {h : Heap} (q : ERGroup x cs h) : CloL cs ∧ CloH h := by
  obtain ⟨a0, o0, rfl⟩ := q
  exact ⟨CloL.cons (Clo.int _) (CloL.cons o0.clo.1 (CloL.cons (Clo.int _) CloL.nil)), o0.clo.2⟩
def ROGroups (L : List Group) (a : A) (h : Heap) : Prop := OwnS ERGroup 54 3 L a h

def ERRule (x : DivRule) (cs : List A) (h : Heap) : Prop := ∃ (a0 : A) (h0 : Heap), ROI x.first a0 h0 ∧ ∃ (a1 : A) (h1 : Heap), ROI x.second a1 h1 ∧ cs = [.int x.kind, .int x.charge, .int x.object, .int x.to, a0, .int x.toB, a1] ∧ h = h0 ++ h1
theorem ERRule.frz {x : DivRule} {cs : List A} {h : Heap} (q : ERRule x cs h) : FrzL h cs (encDivRule x) := by
  obtain ⟨a0, h0, o0, a1, h1, o1, rfl, rfl⟩ := q
  exact FrzL.cons (Frz.same _ _) (FrzL.cons (Frz.same _ _) (FrzL.cons (Frz.same _ _) (FrzL.cons (Frz.same _ _) (FrzL.cons (Frz.mono (fun _ hk => by simp [hk]) o0.frz) (FrzL.cons (Frz.same _ _) (FrzL.cons (Frz.mono (fun _ hk => by simp [hk]) o1.frz) (FrzL.nil _)))))))
theorem ERRule.frzF {x : DivRule} {cs : List A} {h : Heap} (q : ERRule x cs h) : FrzLF h cs (encDivRule x) := by
  obtain ⟨a0, h0, o0, a1, h1, o1, rfl, rfl⟩ := q
  have := FrzLF.cons (FrzF.same [] (.int x.kind)) (FrzLF.cons (FrzF.same [] (.int x.charge)) (FrzLF.cons (FrzF.same [] (.int x.object)) (FrzLF.cons (FrzF.same [] (.int x.to)) (FrzLF.cons o0.frzF (FrzLF.cons (FrzF.same [] (.int x.toB)) (FrzLF.cons o1.frzF (FrzLF.nil (h := []))))))))
  simp only [List.append_nil, List.nil_append] at this
  exact this
theorem ERRule.clo {x : DivRule} {cs : List A} {h : Heap} (q : ERRule x cs h) : CloL cs ∧ CloH h := by
  obtain ⟨a0, h0, o0, a1, h1, o1, rfl, rfl⟩ := q
  exact ⟨CloL.cons (Clo.int _) (CloL.cons (Clo.int _) (CloL.cons (Clo.int _) (CloL.cons (Clo.int _) (CloL.cons o0.clo.1 (CloL.cons (Clo.int _) (CloL.cons o1.clo.1 CloL.nil)))))), o0.clo.2.append o1.clo.2⟩
def RORules (L : List DivRule) (a : A) (h : Heap) : Prop := OwnS ERRule 39 7 L a h
-- generated below
def RODivision (x : Division) (a : A) (h : Heap) : Prop := ∃ (a1 : A), RORules x.rules a1 h ∧ a = .agg [.int x.objects, a1]
theorem RODivision.frz {x : Division} {a : A} {h : Heap} (o : RODivision x a h) : Frz h a (.agg (encDivision x)) := by
  obtain ⟨a1, o1, rfl⟩ := o
  exact Frz.agg (FrzL.cons (Frz.same _ _) (FrzL.cons (OwnS.frz (fun _ => rfl) rfl (fun _ _ _ q => q.frz) o1) (FrzL.nil _)))
theorem RODivision.frzF {x : Division} {a : A} {h : Heap} (o : RODivision x a h) : FrzF h a (.agg (encDivision x)) := by
  obtain ⟨a1, o1, rfl⟩ := o
  have q := FrzLF.cons (FrzF.same [] (.int x.objects)) (FrzLF.cons (OwnS.frzF (enc := encDivRule) (fun _ => rfl) rfl (fun _ _ _ q => q.frzF) o1) (FrzLF.nil (h := [])))
  simp only [List.append_nil, List.nil_append] at q
  exact FrzF.agg q
theorem RODivision.clo {x : Division} {a : A} {h : Heap} (o : RODivision x a h) : Clo a ∧ CloH h := by
  obtain ⟨a1, o1, rfl⟩ := o
  have q := OwnS.clo (fun _ _ _ q => ERRule.clo q) o1
  exact ⟨Clo.agg (CloL.cons (Clo.int _) (CloL.cons q.1 CloL.nil)), q.2⟩
theorem RODivision.cells {x : Division} {a : A} {h : Heap} (o : RODivision x a h) : ∃ a0 a1, a = .agg [a0, a1] ∧ [a0, a1].all okCell = true := by
  obtain ⟨a1, o1, rfl⟩ := o
  exact ⟨_, a1, rfl, by simp only [List.all_cons, List.all_nil, OwnS.okc o1]; rfl⟩
def ROColony (x : Colony) (a : A) (h : Heap) : Prop := ∃ (a0 : A) (h0 : Heap), ROI x.skin a0 h0 ∧ ∃ (a1 : A) (h1 : Heap), ROGroups x.groups a1 h1 ∧ a = .agg [a0, a1] ∧ h = h0 ++ h1
theorem ROColony.frz {x : Colony} {a : A} {h : Heap} (o : ROColony x a h) : Frz h a (.agg (encColony x)) := by
  obtain ⟨a0, h0, o0, a1, h1, o1, rfl, rfl⟩ := o
  exact Frz.agg (FrzL.cons (Frz.mono (fun _ hk => by simp [hk]) o0.frz) (FrzL.cons (Frz.mono (fun _ hk => by simp [hk]) (OwnS.frz (enc := encGroup) (fun _ => rfl) rfl (fun _ _ _ q => q.frz) o1)) (FrzL.nil _)))
theorem ROColony.frzF {x : Colony} {a : A} {h : Heap} (o : ROColony x a h) : FrzF h a (.agg (encColony x)) := by
  obtain ⟨a0, h0, o0, a1, h1, o1, rfl, rfl⟩ := o
  have q := FrzLF.cons o0.frzF (FrzLF.cons (OwnS.frzF (enc := encGroup) (fun _ => rfl) rfl (fun _ _ _ q => q.frzF) o1) (FrzLF.nil (h := [])))
  simp only [List.append_nil] at q
  exact FrzF.agg q
theorem ROColony.clo {x : Colony} {a : A} {h : Heap} (o : ROColony x a h) : Clo a ∧ CloH h := by
  obtain ⟨a0, h0, o0, a1, h1, o1, rfl, rfl⟩ := o
  have q := OwnS.clo (fun _ _ _ q => ERGroup.clo q) o1
  exact ⟨Clo.agg (CloL.cons o0.clo.1 (CloL.cons q.1 CloL.nil)), o0.clo.2.append q.2⟩
theorem ROColony.cells {x : Colony} {a : A} {h : Heap} (o : ROColony x a h) : ∃ a0 a1, a = .agg [a0, a1] ∧ [a0, a1].all okCell = true := by
  obtain ⟨a0, h0, o0, a1, h1, o1, rfl, rfl⟩ := o
  exact ⟨a0, a1, rfl, by simp only [List.all_cons, List.all_nil, OwnF.okc o0, OwnS.okc o1]; rfl⟩
end Go.Proofs.YtbhiaccbpbnbmaaGreat

/-
  Groups in order: the reference's l07Insert. No condition.
-/
namespace Go.Proofs.YtbhiaccbpbnbmaaGreat
open Go.AI
set_option maxRecDepth 8000
set_option maxHeartbeats 1600000

/-- The place of a group among groups. -/
noncomputable def insP (gs : List Group) (g : Group) : Nat := gs.findIdx fun x => dec (¬ Before x g)
theorem insP_at {gs : List Group} {g : Group} {k : Nat} (hk : k < gs.length) (h : ¬ Before gs[k] g) (hn : ∀ i (h : i < gs.length), i < k → Before gs[i] g) : insP gs g = k := by
  unfold insP
  refine (List.findIdx_eq hk).2 ⟨dec_t h, fun j hj => ?_⟩
  exact dec_f (fun q => q (hn j (by omega) hj))
theorem insP_end {gs : List Group} {g : Group} (hn : ∀ i (h : i < gs.length), Before gs[i] g) : insP gs g = gs.length := by
  unfold insP
  refine List.findIdx_eq_length.2 fun x hx => ?_
  obtain ⟨i, hi, rfl⟩ := List.getElem_of_mem hx
  exact dec_f (fun q => q (hn i hi))
/-- What a cell that is added makes of groups. -/
noncomputable def insM (gs : List Group) (g : Group) : List Group :=
  if (gs.getD (insP gs g) ⟨5, [], 0⟩).charge = g.charge ∧ (gs.getD (insP gs g) ⟨5, [], 0⟩).contents = g.contents then gs.set (insP gs g) { gs.getD (insP gs g) ⟨5, [], 0⟩ with count := (gs.getD (insP gs g) ⟨5, [], 0⟩).count + g.count }
  else gs.take (insP gs g) ++ g :: gs.drop (insP gs g)
theorem set_cnt : ∀ (gs : List Group) (k : Nat) (hk : k < gs.length) (s : Int), ((gs.map encGroup).flatten).set (k * 3 + 2) (.int s) = ((gs.set k { gs[k] with count := s }).map encGroup).flatten
  | x :: gs, 0, _, s => rfl
  | x :: gs, k + 1, hk, s => by
    have e : (k + 1) * 3 + 2 = (k * 3 + 2) + 1 + 1 + 1 := by omega
    rw [e]
    have ih := set_cnt gs k (by simpa using hk) s
    simp only [List.map_cons, List.flatten_cons, List.getElem_cons_succ, List.set_cons_succ]
    rw [← ih]; rfl
def toC3 (g : Group) : Cells 3 := ⟨encGroup g, rfl⟩
theorem o_l07Insert (gs : List Group) (g : Group) (b : Option Nat) (cap : Nat) (hl : gs.length ≤ 1000000) (hc : ∀ x ∈ gs, 0 ≤ x.count ∧ x.count ≤ 1000000000000) (hg : 0 ≤ g.count ∧ g.count ≤ 1000000) (hgc : g.charge ≤ 1) : Does Tryz.prog 21 [.os b gs.length cap, .agg (encGroup g)] [⟨b, 54, cap * 3, (gs.map encGroup).flatten⟩]
    (fun v h' => ∃ b' cap', v = .os b' (insM gs g).length cap' ∧ h' = [⟨b', 54, cap' * 3, ((insM gs g).map encGroup).flatten⟩]) := by
  refine fn_of_runD tyOk ztOk mix Tryz.func21 rfl (by decide) Tryz.ntmps21 (fun w0 F => ?_)
  change Run _ _ _ _ _ (_ :: F)
  repeat' (first
      | (refine j_go ?_; first
        | refine j_op0 rfl rfl rfl rfl ?_ | refine j_box rfl rfl rfl rfl rfl rfl ?_)
      | refine j_nil ?_
      | (refine r_go ?_; first | refine run_seq ?_ | refine run_region ?_ | refine run_block ?_)
      | refine seqQ_normal ?_)
  refine run_loop (fun k : Nat => [(0, .os b gs.length cap), (3, .ip (encGroup g)), (5, .int (k : Int))]) (fun _ => ⟨b, 54, cap * 3, (gs.map encGroup).flatten⟩ :: F) (fun k => k ≤ gs.length ∧ ∀ i (h : i < gs.length), i < k → Before gs[i] g) (fun k => gs.length - k) 0 ⟨rfl, rfl, rfl, trivial⟩ rfl ⟨Nat.zero_le _, fun _ _ q => absurd q (Nat.not_lt_zero _)⟩ (fun k ⟨kl, kp⟩ => ?_)
  by_cases hk : k < gs.length
  case pos =>
    refine run_some 0 rfl (fun q => by have := flat_len (f := encGroup) (z := 3) (fun _ => rfl) gs; rw [q] at this; simp at this; omega) (fun b2 hb2 => ?_)
    subst hb2
    repeat' (first
      | (refine j_go ?_; first
        | refine j_op0 rfl rfl rfl rfl ?_ | (refine j_kIdx rfl ?_; first | refine j_midx rfl rfl rfl rfl rfl (by first | omega | (simp only [List.length_append, List.length_cons, List.length_nil]; omega)) rfl rfl ?_) | (refine j_kLen rfl ?_; first | refine j_op rfl rfl rfl rfl ?_) | (refine j_kGuard rfl ?_; first | (refine (j_if rfl rfl rfl (fun hb => ?_) (fun hb => ?_)) <;> first | (exfalso; omega) | skip)))
      | (refine r_go ?_; first | refine run_seq ?_ | refine run_region ?_))
    refine j_kCall rfl rfl rfl rfl ?_
    refine jctq [⟨some b2, 54, cap * 3, (gs.map encGroup).flatten⟩] (c_l07Before gs[k] g) (Clo.raw _) (fun k hk => by simp only [List.mem_singleton] at hk; subst hk; simp) (FrzL.cons (Frz.ptrE (g := encGroup) (z := 3) (L := gs) (fun _ => rfl) hk (List.mem_singleton.2 rfl)) (FrzL.cons (Frz.same _ _) (FrzL.nil _))) rfl rfl ?_
    repeat' (first
      | (refine j_go ?_; first
        | refine j_op0 rfl rfl rfl rfl ?_ | (refine j_kIdx rfl ?_; first | refine j_midx rfl rfl rfl rfl rfl (by first | omega | (simp only [List.length_append, List.length_cons, List.length_nil]; omega)) rfl rfl ?_) | (refine j_kBin rfl ?_; first | refine j_in rfl rfl ⟨by omega, by omega⟩ rfl rfl ?_) | (refine j_kLen rfl ?_; first | refine j_op rfl rfl rfl rfl ?_) | (refine j_kGuard rfl ?_; first | (refine (j_if rfl rfl rfl (fun hb => ?_) (fun hb => ?_)) <;> first | (exfalso; omega) | skip)))
      | refine j_nil ?_
      | (refine r_go ?_; first | refine run_seq ?_ | refine run_region ?_ | (refine (run_if rfl (fun hb => ?_) (fun hb => ?_)) <;> first | (exfalso; omega) | skip) | refine run_block ?_ | refine run_exit ?_ | refine run_skip ?_ | refine run_regionD (by kernel_rfl) ?_)
      | refine seqQ_normal ?_ | refine seqQ_exit ?_ | refine blockQ_normal ?_ | refine blockQ_eq ?_ | refine loopQ_exit ?_)
    · exact loopQ_next (k + 1) ⟨by omega, all_step kp (fun _ => hb)⟩ (by omega) rfl ⟨rfl, rfl, nx _, trivial⟩
    have hp := insP_at hk (by assumption) kp
    have eC : (gs.map encGroup).flatten = ((gs.map toC3).map Subtype.val).flatten := by rw [List.map_map]; rfl
    have cl : (gs.map toC3).length = gs.length := List.length_map _
    have cg : (gs.map toC3)[k]'(by omega) = toC3 gs[k] := List.getElem_map _
    refine j_loadF 0 k 0 (L := gs.map toC3) rfl rfl rfl (by rw [eC]; rfl) (by omega) (by omega) (by decide) (fun rest => by rw [cg]; rfl) rfl rfl ?_
    repeat' (first
      | (refine j_go ?_; first
        | refine j_op0 rfl rfl rfl rfl ?_ | refine j_off rfl rfl rfl ?_ | (refine j_kIdx rfl ?_; first | refine j_midx rfl rfl rfl rfl rfl (by first | omega | (simp only [List.length_append, List.length_cons, List.length_nil]; omega)) rfl rfl ?_) | (refine j_kGuard rfl ?_; first | (refine (j_if rfl rfl rfl (fun hb => ?_) (fun hb => ?_)) <;> first | (exfalso; omega) | skip)))
      | refine j_nil ?_
      | (refine r_go ?_; first | refine run_seq ?_ | refine run_cond_f rfl ?_ | refine run_skip ?_)
      | refine seqQ_normal ?_)
    · refine j_loadF 0 k 1 (L := gs.map toC3) rfl rfl rfl (by rw [eC]; rfl) (by omega) (by omega) (by decide) (fun rest => by rw [cg]; rfl) rfl rfl ?_
      repeat' (first
      | (refine j_go ?_; first
        | refine j_op0 rfl rfl rfl rfl ?_ | (refine j_kCall rfl rfl rfl rfl ?_; first | refine jc (c_l00Same _ _) (LeL.refl _) rfl rfl ?_))
      | refine j_nil ?_
      | (refine r_go ?_; first | refine run_seq ?_ | (refine (run_if rfl (fun hb => ?_) (fun hb => ?_)) <;> first | (exfalso; omega) | skip) | refine run_skip ?_)
      | refine seqQ_normal ?_)
      · have bk := hc _ (List.getElem_mem hk)
        have eV : (gs.map encGroup).flatten = ((gs.map encGroup).flatten.map fun a => [a]).flatten := (sing_flat _).symm
        have fl := flat_len (f := encGroup) (z := 3) (fun _ => rfl) gs
        have kb : k * 3 + 2 < gs.length * 3 := by omega
        have gv : (gs.map encGroup).flatten[k * 3 + 2]'(by omega) = .int gs[k].count := by
          have := flat_get (f := encGroup) (z := 3) gs k 2 hk (show 2 < 3 by omega) (fun _ => rfl)
          rw [List.getElem?_eq_getElem (by omega)] at this
          exact Option.some.inj this
        repeat' (first
      | (refine j_goO ?_; first
        | refine j_op0O rfl rfl rfl rfl ?_ | (refine j_kIdxO rfl ?_; first | refine j_midxO rfl rfl rfl rfl rfl (by first | omega | (simp only [List.length_append, List.length_cons, List.length_nil]; omega)) rfl rfl ?_))
      | (refine r_go ?_; first | refine run_opn 5 [⟨0, true, false, 0⟩, ⟨1, true, false, 0⟩, ⟨2, true, false, 0⟩, ⟨3, true, false, 0⟩, ⟨4, true, false, 0⟩, ⟨5, true, false, 0⟩, ⟨6, true, false, 0⟩, ⟨7, true, false, 0⟩, ⟨8, true, false, 0⟩, ⟨9, true, false, 0⟩, ⟨10, false, true, 0⟩] rfl rfl (by kernel_rfl) ?_))
        refine j_mloadEO 0 (k * 3 + 2) (g := fun a => [a]) (L := (gs.map encGroup).flatten) (z := 1) rfl rfl rfl rfl (by rw [← eV]; rfl) (fun _ => rfl) (by omega) (by omega) (fun _ => by rw [gv]; rfl) rfl rfl ?_
        repeat' (first
      | (refine j_goO ?_; first
        | refine j_op0O rfl rfl rfl rfl ?_ | (refine j_kIdxO rfl ?_; first | refine j_midxO rfl rfl rfl rfl rfl (by first | omega | (simp only [List.length_append, List.length_cons, List.length_nil]; omega)) rfl rfl ?_) | (refine j_kBinO rfl ?_; first | refine j_inO rfl rfl ⟨by omega, by omega⟩ rfl rfl ?_)))
        refine j_storeEO 0 (k * 3 + 2) (g := fun a => [a]) (L := (gs.map encGroup).flatten) (A.int (gs[k].count + g.count)) rfl rfl rfl rfl rfl rfl (by rw [← eV]; rfl) rfl rfl rfl (fun _ => rfl) (by omega) (by omega) (fun _ hk => nomatch hk) ?_
        repeat' (first
      | (refine j_go ?_; first
        | refine j_op0 rfl rfl rfl rfl ?_)
      | refine j_nil ?_
      | refine j_nilO ?_
      | (refine r_go ?_; first | refine run_seq ?_ | refine run_region ?_ | refine run_ret ?_)
      | refine seqQ_normal ?_ | refine seqQ_ret ?_)
        have eM : insM gs g = gs.set k { gs[k] with count := gs[k].count + g.count } := by
          unfold insM; rw [hp, getD_get hk, if_pos ⟨by assumption, by assumption⟩]
        exact endD_ret (h1 := [_]) rfl (.cons (.tmp rfl) .nil) (Le.refl _) ⟨some b2, cap, by rw [eM, List.length_set]; rfl, by rw [sing_flat, set_cnt gs k hk, eM]⟩ (.inl rfl)
      · have lm : (gs.map encGroup).length = gs.length := List.length_map _
        have tl : (gs.take k).length = k := by rw [List.length_take]; omega
        have dl : (gs.drop k).length = gs.length - k := List.length_drop
        have eM : insM gs g = (gs.take k ++ [g]) ++ gs.drop k := by unfold insM; rw [hp, getD_get hk, if_neg (fun q => hb q.2)]; simp
        have e2 : gs.drop k = (gs.take (((gs.map encGroup).length : Nat) : Int).toNat).drop ((k : Int)).toNat := by
          simp only [Int.toNat_natCast, List.length_map, List.take_length]
        rw [eM]
        refine run_view (view_freeze (g := encGroup) (z := 3) (ys := gs) 0 0 rfl rfl rfl (fun _ => rfl) rfl rfl) ?_
        repeat' (first
      | (refine j_goO ?_; first
        | refine j_op0O rfl rfl rfl rfl ?_ | (refine j_kBslO rfl ?_; first | refine j_bs0O rfl rfl rfl rfl rfl rfl ?_ | refine j_bslO rfl rfl rfl rfl rfl rfl rfl rfl rfl rfl rfl ?_) | (refine j_kSliceO rfl ?_; first | refine j_sliceO rfl rfl rfl rfl rfl rfl (by omega) (fun _ => rfl) rfl rfl ?_))
      | (refine r_go ?_; first | refine run_opn 7 [⟨0, true, false, 0⟩, ⟨1, true, false, 0⟩, ⟨2, true, false, 0⟩, ⟨3, true, false, 0⟩, ⟨5, false, false, 0⟩, ⟨6, false, false, 0⟩, ⟨4, false, true, 0⟩, ⟨7, false, true, 0⟩, ⟨8, true, false, 0⟩] rfl rfl (by kernel_rfl) ?_))
        refine j_append0O (g := encGroup) (gs.take k) rfl (fun _ hk => nomatch hk) rfl rfl rfl rfl rfl rfl rfl rfl (fun _ => rfl) (fun _ _ => rfl) ⟨by omega, by omega⟩ rfl rfl (fun b3 c3 => ?_)
        skip
        refine j_appendO 0 (g := encGroup) (ys := gs.take k) [g] rfl (fun _ hk => nomatch hk) rfl rfl rfl rfl rfl rfl rfl rfl rfl rfl rfl rfl (fun _ => rfl) (fun _ _ => rfl) ⟨by simp only [List.length_cons, List.length_nil]; omega, by simp only [List.length_cons, List.length_nil]; omega⟩ rfl rfl (fun b4 c4 => ?_)
        repeat' (first
      | (refine j_go ?_; first
        | refine j_op0 rfl rfl rfl rfl ?_ | (refine j_kSlice rfl ?_; first | refine j_slice rfl rfl rfl rfl rfl rfl (by omega) (fun _ => rfl) rfl rfl ?_))
      | (refine j_goO ?_; first
        | refine j_op0O rfl rfl rfl rfl ?_)
      | refine j_nilO ?_
      | (refine r_go ?_; first | refine run_seq ?_ | refine run_region ?_)
      | refine seqQ_normal ?_)
        have l4 : (gs.take k ++ [g]).length = k + 1 := by rw [List.length_append, tl]; rfl
        refine j_append 0 (g := encGroup) (ys := gs.take k ++ [g]) (gs.drop k) rfl rfl rfl rfl rfl rfl rfl rfl rfl rfl rfl (by rw [e2]; rfl) (fun _ => rfl) (fun _ _ => rfl) ⟨by omega, by omega⟩ rfl rfl (fun b5 c5 => ?_)
        repeat' (first
      | (refine j_go ?_; first
        | refine j_op0 rfl rfl rfl rfl ?_)
      | refine j_nil ?_
      | (refine r_go ?_; first | refine run_ret ?_)
      | refine seqQ_normal ?_)
        exact endD_ret (h1 := [_]) rfl (.cons (.tmp rfl) .nil) (Le.refl _) ⟨b5, c5, rfl, rfl⟩ (.inl rfl)
    · have lm : (gs.map encGroup).length = gs.length := List.length_map _
      have tl : (gs.take k).length = k := by rw [List.length_take]; omega
      have dl : (gs.drop k).length = gs.length - k := List.length_drop
      have eM : insM gs g = (gs.take k ++ [g]) ++ gs.drop k := by unfold insM; rw [hp, getD_get hk, if_neg (fun q => hb q.1)]; simp
      have e2 : gs.drop k = (gs.take (((gs.map encGroup).length : Nat) : Int).toNat).drop ((k : Int)).toNat := by
        simp only [Int.toNat_natCast, List.length_map, List.take_length]
      rw [eM]
      refine run_view (view_freeze (g := encGroup) (z := 3) (ys := gs) 0 0 rfl rfl rfl (fun _ => rfl) rfl rfl) ?_
      repeat' (first
      | (refine j_goO ?_; first
        | refine j_op0O rfl rfl rfl rfl ?_ | (refine j_kBslO rfl ?_; first | refine j_bs0O rfl rfl rfl rfl rfl rfl ?_ | refine j_bslO rfl rfl rfl rfl rfl rfl rfl rfl rfl rfl rfl ?_) | (refine j_kSliceO rfl ?_; first | refine j_sliceO rfl rfl rfl rfl rfl rfl (by omega) (fun _ => rfl) rfl rfl ?_))
      | (refine r_go ?_; first | refine run_opn 7 [⟨0, true, false, 0⟩, ⟨1, true, false, 0⟩, ⟨2, true, false, 0⟩, ⟨3, true, false, 0⟩, ⟨5, false, false, 0⟩, ⟨6, false, false, 0⟩, ⟨4, false, true, 0⟩, ⟨7, false, true, 0⟩, ⟨8, true, false, 0⟩] rfl rfl (by kernel_rfl) ?_))
      refine j_append0O (g := encGroup) (gs.take k) rfl (fun _ hk => nomatch hk) rfl rfl rfl rfl rfl rfl rfl rfl (fun _ => rfl) (fun _ _ => rfl) ⟨by omega, by omega⟩ rfl rfl (fun b3 c3 => ?_)
      skip
      refine j_appendO 0 (g := encGroup) (ys := gs.take k) [g] rfl (fun _ hk => nomatch hk) rfl rfl rfl rfl rfl rfl rfl rfl rfl rfl rfl rfl (fun _ => rfl) (fun _ _ => rfl) ⟨by simp only [List.length_cons, List.length_nil]; omega, by simp only [List.length_cons, List.length_nil]; omega⟩ rfl rfl (fun b4 c4 => ?_)
      repeat' (first
      | (refine j_go ?_; first
        | refine j_op0 rfl rfl rfl rfl ?_ | (refine j_kSlice rfl ?_; first | refine j_slice rfl rfl rfl rfl rfl rfl (by omega) (fun _ => rfl) rfl rfl ?_))
      | (refine j_goO ?_; first
        | refine j_op0O rfl rfl rfl rfl ?_)
      | refine j_nilO ?_
      | (refine r_go ?_; first | refine run_seq ?_ | refine run_region ?_)
      | refine seqQ_normal ?_)
      have l4 : (gs.take k ++ [g]).length = k + 1 := by rw [List.length_append, tl]; rfl
      refine j_append 0 (g := encGroup) (ys := gs.take k ++ [g]) (gs.drop k) rfl rfl rfl rfl rfl rfl rfl rfl rfl rfl rfl (by rw [e2]; rfl) (fun _ => rfl) (fun _ _ => rfl) ⟨by omega, by omega⟩ rfl rfl (fun b5 c5 => ?_)
      repeat' (first
      | (refine j_go ?_; first
        | refine j_op0 rfl rfl rfl rfl ?_)
      | refine j_nil ?_
      | (refine r_go ?_; first | refine run_ret ?_)
      | refine seqQ_normal ?_)
      exact endD_ret (h1 := [_]) rfl (.cons (.tmp rfl) .nil) (Le.refl _) ⟨b5, c5, rfl, rfl⟩ (.inl rfl)
  have hke : k = gs.length := by omega
  subst hke
  have hp : insP gs g = gs.length := insP_end fun i hi => kp i hi hi
  have lm : (gs.map encGroup).length = gs.length := List.length_map _
  have tl : (gs.take gs.length).length = gs.length := by rw [List.take_length]
  have dl : (gs.drop gs.length).length = gs.length - gs.length := List.length_drop
  have eM : insM gs g = (gs.take gs.length ++ [g]) ++ gs.drop gs.length := by
    unfold insM; rw [hp, if_neg (fun q => by have := q.1; simp at this; omega)]; simp
  have e2 : gs.drop gs.length = (gs.take (((gs.map encGroup).length : Nat) : Int).toNat).drop ((gs.length : Int)).toNat := by
    simp only [Int.toNat_natCast, List.length_map, List.take_length]
  rw [eM]
  repeat' (first
      | (refine j_go ?_; first
        | refine j_op0 rfl rfl rfl rfl ?_ | refine j_off rfl rfl rfl ?_ | (refine j_kLen rfl ?_; first | refine j_op rfl rfl rfl rfl ?_) | (refine j_kGuard rfl ?_; first | (refine (j_if rfl rfl rfl (fun hb => ?_) (fun hb => ?_)) <;> first | (exfalso; omega) | skip)))
      | refine j_nil ?_
      | (refine r_go ?_; first | refine run_seq ?_ | refine run_region ?_ | refine run_cond_f rfl ?_ | refine run_exit ?_)
      | refine seqQ_normal ?_ | refine seqQ_exit ?_ | refine blockQ_eq ?_ | refine loopQ_exit ?_)
  refine run_view (view_freeze (g := encGroup) (z := 3) (ys := gs) 0 0 rfl rfl rfl (fun _ => rfl) rfl rfl) ?_
  repeat' (first
      | (refine j_go ?_; first
        | refine j_op0 rfl rfl rfl rfl ?_ | refine j_off rfl rfl rfl ?_ | (refine j_kLen rfl ?_; first | refine j_len rfl rfl rfl rfl rfl rfl ?_) | (refine j_kGuard rfl ?_; first | (refine (j_if rfl rfl rfl (fun hb => ?_) (fun hb => ?_)) <;> first | (exfalso; omega) | skip)))
      | refine j_nil ?_
      | (refine j_goO ?_; first
        | refine j_op0O rfl rfl rfl rfl ?_ | (refine j_kBslO rfl ?_; first | refine j_bs0O rfl rfl rfl rfl rfl rfl ?_ | refine j_bslO rfl rfl rfl rfl rfl rfl rfl rfl rfl rfl rfl ?_) | (refine j_kSliceO rfl ?_; first | refine j_sliceO rfl rfl rfl rfl rfl rfl (by omega) (fun _ => rfl) rfl rfl ?_))
      | (refine r_go ?_; first | refine run_seq ?_ | refine run_cond_f rfl ?_ | refine run_skip ?_ | refine run_opn 7 [⟨0, true, false, 0⟩, ⟨1, true, false, 0⟩, ⟨2, true, false, 0⟩, ⟨3, true, false, 0⟩, ⟨5, false, false, 0⟩, ⟨6, false, false, 0⟩, ⟨4, false, true, 0⟩, ⟨7, false, true, 0⟩, ⟨8, true, false, 0⟩] rfl rfl (by kernel_rfl) ?_ | refine run_regionD (by kernel_rfl) ?_)
      | refine seqQ_normal ?_)
  refine j_append0O (g := encGroup) (gs.take gs.length) rfl (fun _ hk => nomatch hk) rfl rfl rfl rfl rfl rfl rfl rfl (fun _ => rfl) (fun _ _ => rfl) ⟨by omega, by omega⟩ rfl rfl (fun b3 c3 => ?_)
  skip
  refine j_appendO 0 (g := encGroup) (ys := gs.take gs.length) [g] rfl (fun _ hk => nomatch hk) rfl rfl rfl rfl rfl rfl rfl rfl rfl rfl rfl rfl (fun _ => rfl) (fun _ _ => rfl) ⟨by simp only [List.length_cons, List.length_nil]; omega, by simp only [List.length_cons, List.length_nil]; omega⟩ rfl rfl (fun b4 c4 => ?_)
  repeat' (first
      | (refine j_go ?_; first
        | refine j_op0 rfl rfl rfl rfl ?_ | (refine j_kSlice rfl ?_; first | refine j_slice rfl rfl rfl rfl rfl rfl (by omega) (fun _ => rfl) rfl rfl ?_))
      | (refine j_goO ?_; first
        | refine j_op0O rfl rfl rfl rfl ?_)
      | refine j_nilO ?_
      | (refine r_go ?_; first | refine run_seq ?_ | refine run_region ?_)
      | refine seqQ_normal ?_)
  have l4 : (gs.take gs.length ++ [g]).length = gs.length + 1 := by rw [List.length_append, tl]; rfl
  refine j_append 0 (g := encGroup) (ys := gs.take gs.length ++ [g]) (gs.drop gs.length) rfl rfl rfl rfl rfl rfl rfl rfl rfl rfl rfl (by rw [e2]; rfl) (fun _ => rfl) (fun _ _ => rfl) ⟨by omega, by omega⟩ rfl rfl (fun b5 c5 => ?_)
  repeat' (first
      | (refine j_go ?_; first
        | refine j_op0 rfl rfl rfl rfl ?_)
      | refine j_nil ?_
      | (refine r_go ?_; first | refine run_ret ?_)
      | refine seqQ_normal ?_)
  exact endD_ret (h1 := [_]) rfl (.cons (.tmp rfl) .nil) (Le.refl _) ⟨b5, c5, rfl, rfl⟩ (.inl rfl)
end Go.Proofs.YtbhiaccbpbnbmaaGreat
