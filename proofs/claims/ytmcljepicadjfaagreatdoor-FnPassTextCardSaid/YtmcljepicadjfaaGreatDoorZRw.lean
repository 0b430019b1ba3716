/-
  Bags read from texts: both sides. No condition but that the text is not longer than a machine holds.
-/
import Derived.Test.YtmcljepicadjfaaGreatDoorZRp
import Derived.Test.YtmcljepicadjfaaGreatDoorZPS9
import Derived.Test.YtmcljepicadjfaaGreatDoorZG6
import Derived.Test.YtmcljepicadjfaaGreatDoorZE4
import Derived.Lib.IndexMore
import Derived.Test.YtmcljepicadjfaaGreatDoorZRf
namespace Go.Proofs.YtmcljepicadjfaaGreatDoor
open Go.AI Go.RowKit
set_option maxRecDepth 8000
set_option maxHeartbeats 1600000
theorem rd_next {n : Nat} {t : List UInt8} (h : IsBagT n t) (hd : ¬ t = [45]) {k m : Nat} (hk : k < (spl 32 t).length) (hm : m ≤ n) (ek : k = (bagWs (rdB n t) m).length) :
    ∃ (j : Nat) (x : Int), m ≤ j ∧ j < n ∧ n ≤ 8 ∧ 0 < x ∧ x ≤ 1000 ∧ (spl 32 t)[k] = kindW j x ∧ k + 1 = (bagWs (rdB n t) (j + 1)).length ∧ (pf (rdB n t) m).set j x = pf (rdB n t) (j + 1) := by
  obtain ⟨c, e, hb, rfl, rfl⟩ := isBagT_of h
  rw [e] at ek ⊢
  have hw := bag_words hb.2.2 hd
  have hk2 : k < (bagWs c c.length).length := by rw [← hw]; exact hk
  obtain ⟨j, h1, h2, h3, h4, ⟨r, h5⟩, h6⟩ := bagWs_next c (fun x hx => (hb.1 x hx).1) (c.length - m) m (by omega) (by omega)
  have hx := hb.1 _ (List.getElem_mem h2)
  refine ⟨j, c.getD j 0, h1, h2, hb.2.2, h3, by rw [getD_at h2]; exact hx.2, ?_, ?_, ?_⟩
  · have e1 : (spl 32 (bagT c))[k]? = some (kindW j (c.getD j 0)) := by
      rw [hw, h5, List.getElem?_append_right (by omega)]
      rw [show k - (bagWs c j).length = 0 by omega]; rfl
    rw [List.getElem?_eq_getElem hk] at e1
    exact Option.some.inj e1
  · rw [bagWs, if_pos h3, List.length_append, List.length_singleton]; omega
  · rw [← h6]; exact pf_set h2
theorem rd_end {n : Nat} {t : List UInt8} (h : IsBagT n t) (hd : ¬ t = [45]) {m : Nat} (hm : m ≤ n) (ek : (spl 32 t).length = (bagWs (rdB n t) m).length) : pf (rdB n t) m = rdB n t := by
  obtain ⟨c, e, hb, rfl, rfl⟩ := isBagT_of h
  rw [e] at ek ⊢
  rw [bag_words hb.2.2 hd] at ek
  exact bagWs_end c (fun x hx => (hb.1 x hx).1) (c.length - m) m (by omega) ek.symm
/-- What the readers know on their way. -/
structure RdAt (n : Nat) (t : List UInt8) (k : Nat) (b : List Int) (last : Int) : Prop where
  bl : b.length = n
  l0 : -1 ≤ last
  l1 : last < n
  rt : IsBagT n t → ∃ m, m ≤ n ∧ k = (bagWs (rdB n t) m).length ∧ b = pf (rdB n t) m ∧ last < m
theorem RdAt.start (n : Nat) (t : List UInt8) : RdAt n t 0 (List.replicate n 0) (-1) := ⟨by simp, by omega, by omega, fun h => ⟨0, Nat.zero_le _, rfl, by rw [pf_zero, rdB_len], by omega⟩⟩
theorem RdAt.key {n : Nat} {t : List UInt8} {k : Nat} {b : List Int} {last : Int} (R : RdAt n t k b last) (hd : ¬ t = [45]) (hk : k < (spl 32 t).length) (h : IsBagT n t) :
    ∃ (j : Nat) (x : Int), last < j ∧ j < n ∧ n ≤ 8 ∧ 0 < x ∧ x ≤ 1000 ∧ 0 < ((spl 32 t)[k]).length ∧ (∀ q : 0 < ((spl 32 t)[k]).length, (((spl 32 t)[k])[0]'q).toNat = 97 + j) ∧ (1 < ((spl 32 t)[k]).length ↔ 1 < x) ∧
      (1 < x → ((spl 32 t)[k]).drop 1 = dcm x) ∧ ∀ l2 : Int, l2 = j → RdAt n t (k + 1) (b.set j x) l2 := by
  obtain ⟨m, h1, h2, h3, h4⟩ := R.rt h
  obtain ⟨j, x, q1, q2, q3, q4, q5, q6, q7, q8⟩ := rd_next h hd hk h1 h2
  refine ⟨j, x, by omega, q2, q3, q4, q5, ?_⟩
  rw [q6]
  refine ⟨by simp [kindW], fun q => ?_, kindW_len1, kindW_drop, fun l2 hl => ⟨by rw [List.length_set]; exact R.bl, by omega, by omega, fun _ => ⟨j + 1, by omega, q7, by rw [h3]; exact q8, by omega⟩⟩⟩
  show (UInt8.ofNat (97 + j)).toNat = 97 + j
  exact kind_nat (by omega)
theorem RdAt.go {n : Nat} {t : List UInt8} {k : Nat} {b : List Int} {last v : Int} {u : Nat} (R : RdAt n t k b last) (hu : u < n) (rt : IsBagT n t → ∃ (j : Nat) (x : Int), u = j ∧ v = x ∧ RdAt n t (k + 1) (b.set j x) j) : RdAt n t (k + 1) (b.set u v) u :=
  ⟨by rw [List.length_set]; exact R.bl, by omega, by omega, fun q => by
    obtain ⟨j, x, rfl, rfl, r⟩ := rt q
    exact r.rt q⟩
theorem sub97 {x : UInt8} {j : Nat} (h : x.toNat = 97 + j) : (x - UInt8.ofNat (Int.toNat 97)).toNat = j := by
  show (x - 97).toNat = j
  have : (97 : UInt8) ≤ x := UInt8.le_iff_toNat_le.2 (by rw [h]; show 97 ≤ 97 + j; omega)
  rw [UInt8.toNat_sub_of_le _ _ this, h]
  show 97 + j - 97 = j
  omega
theorem take_drop1 (w : List UInt8) : (w.take (w.length : Int).toNat).drop (Int.toNat 1) = w.drop 1 := by rw [Int.toNat_natCast, List.take_length]; rfl
theorem o_readBag (n : Nat) (t : List UInt8) (hn : 1 ≤ n ∧ n ≤ 8) (ht : t.length ≤ 1048576) : Does Tryz.prog 40 [.int (n : Int), .str t] []
    (fun v h' => ∃ (ob : Option Nat) (m cp : Nat), v = .tup [.os ob m cp, .raw (.bool (dec (IsBagT n t)))] ∧ (IsBagT n t → ROI (rdB n t) (.os ob m cp) h')) := by
  refine fn_of_runD tyOk ztOk mix Tryz.func40 rfl (by decide) Tryz.ntmps40 (fun w0 F => ?_)
  change Run _ _ _ _ _ F
  repeat' (first
      | (refine j_go ?_; first
        | refine j_op0 rfl rfl rfl rfl ?_)
      | refine j_nil ?_
      | (refine r_go ?_; first | refine run_seq ?_ | refine run_region ?_)
      | refine seqQ_normal ?_)
  refine j_makeI (g := Go.AI.encI) (m := n) 0 rfl rfl rfl rfl rfl rfl rfl rfl rfl (by omega) rfl rfl (fun bz => ?_)
  repeat' (first
      | (refine j_go ?_; first
        | refine j_op0 rfl rfl rfl rfl ?_ | (refine j_kLen rfl ?_; first | refine j_len rfl rfl rfl rfl rfl rfl ?_) | (refine j_kCall rfl rfl rfl rfl ?_; first | refine jc (c_Split t 32 (by omega)) (LeL.refl _) rfl rfl ?_))
      | refine j_nil ?_
      | (refine r_go ?_; first | refine run_seq ?_ | refine run_region ?_ | (refine (run_ifn rfl (fun hb => ?_) (fun hb => ?_)) <;> first | (exfalso; omega) | skip) | refine run_block ?_ | refine run_skip ?_)
      | refine seqQ_normal ?_)
  case' refine_1 =>
    have hd : ¬ t = [45] := by assumption
    have Wl := spl_len 32 t
    refine run_loop (fun x : (Nat × List Int) × Int => [(0, .int (n : Int)), (1, .str t), (6, .os (some bz) n n), (15, .sl ((spl 32 t).map encW)), (16, .int (spl 32 t).length), (17, .int (x.1.1 : Int))]) (fun x => ⟨some bz, 2, n * 1, (x.1.2.map Go.AI.encI).flatten⟩ :: F)
      (fun x => x.1.1 ≤ (spl 32 t).length ∧ RdAt n t x.1.1 x.1.2 x.2) (fun x => (spl 32 t).length - x.1.1) ((0, List.replicate n 0), -1) ⟨rfl, rfl, rfl, rfl, rfl, rfl, trivial⟩ rfl ⟨Nat.zero_le _, RdAt.start n t⟩ (fun ⟨⟨k, b⟩, last⟩ ⟨kl, R⟩ => ?_)
    dsimp only at kl R ⊢
    have bl := R.bl
    by_cases hk : k < (spl 32 t).length
    case' pos =>
      have key := R.key hd hk
      have wl := (spl_mem 32 t _ (List.getElem_mem hk)).1
      have hbad : ¬ IsBagT n t → ∀ e h1, lk e 4 = some (.os none 0 0) → lk e 5 = some (.raw (.bool false)) → F.Sublist h1 → endD ty Tryz.f40.results (fun v h' => ∃ (ob : Option Nat) (m cp : Nat), v = .tup [.os ob m cp, .raw (.bool (dec (IsBagT n t)))] ∧ (IsBagT n t → ROI (rdB n t) (.os ob m cp) h')) F .ret e h1 := fun hn e h1 q1 q2 q3 =>
        endD_view (view_sub q3) (endD_ret (h1 := []) rfl (.cons (.tmp q1) (.cons (.tmp q2) .nil)) (Le.refl _) ⟨none, 0, 0, by rw [dec_f hn]; rfl, fun q => absurd q hn⟩ (.inl rfl))
      by_cases hl : 0 < ((spl 32 t)[k]).length
      case' pos => repeat' (first
      | (refine j_go ?_; first
        | refine j_op0 rfl rfl rfl rfl ?_ | refine j_off rfl rfl rfl ?_ | (refine j_kIdx rfl ?_; first | refine j_idx rfl rfl rfl rfl rfl (by omega) rfl rfl rfl ?_) | (refine j_kBin rfl ?_; first | refine j_in rfl rfl ⟨by omega, by omega⟩ rfl rfl ?_) | (refine j_kLen rfl ?_; first | refine j_op rfl rfl rfl rfl ?_) | (refine j_kCall rfl rfl rfl rfl ?_; first | refine jc (c_inRange _ _ _) (LeL.refl _) rfl rfl ?_ | refine jc (c_PI _ (by first | omega | (simp only [List.length_drop, List.length_take]; omega))) (LeL.refl _) rfl rfl ?_) | (refine j_kSlice rfl ?_; first | refine j_ss rfl rfl rfl rfl rfl rfl (by omega) rfl rfl ?_) | (refine j_kGuard rfl ?_; first | (refine (j_if rfl rfl rfl (fun hb => ?_) (fun hb => ?_)) <;> first | (exfalso; omega) | skip)) | refine j_si rfl rfl rfl rfl rfl (by omega) rfl rfl ?_)
      | refine j_nil ?_
      | (refine r_go ?_; first | refine run_seq ?_ | refine run_region ?_ | refine run_cond_t rfl ?_ | (refine (run_if rfl (fun hb => ?_) (fun hb => ?_)) <;> first | (exfalso; omega) | skip) | (refine (run_ifn rfl (fun hb => ?_) (fun hb => ?_)) <;> first | (exfalso; omega) | skip) | refine run_block ?_ | refine run_ret ?_ | refine run_skip ?_)
      | refine seqQ_normal ?_ | refine seqQ_ret ?_ | refine blockQ_ret ?_ | refine loopQ_ret ?_)
      case' neg =>
        have hw0 : (spl 32 t)[k] = [] := List.eq_nil_of_length_eq_zero (by omega)
        repeat' (first
      | (refine j_go ?_; first
        | refine j_op0 rfl rfl rfl rfl ?_ | refine j_off rfl rfl rfl ?_ | (refine j_kIdx rfl ?_; first | refine j_idx rfl rfl rfl rfl rfl (by omega) rfl rfl rfl ?_) | (refine j_kGuard rfl ?_; first | (refine (j_if rfl rfl rfl (fun hb => ?_) (fun hb => ?_)) <;> first | (exfalso; omega) | skip)))
      | refine j_nil ?_
      | (refine r_go ?_; first | refine run_seq ?_ | refine run_region ?_ | refine run_cond_t rfl ?_ | (refine (run_if rfl (fun hb => ?_) (fun hb => ?_)) <;> first | (exfalso; omega) | skip) | refine run_block ?_ | refine run_ret ?_ | refine run_skip ?_)
      | refine seqQ_normal ?_ | refine seqQ_ret ?_ | refine blockQ_ret ?_ | refine loopQ_ret ?_)
    case' neg =>
      have hke : k = (spl 32 t).length := by omega
      subst hke
      have hbt : IsBagT n t → b = rdB n t := fun q => by
        obtain ⟨m, h1, h2, h3, _⟩ := R.rt q
        rw [h3]; exact rd_end q hd h1 h2
      repeat' (first
      | (refine j_go ?_; first
        | refine j_op0 rfl rfl rfl rfl ?_)
      | refine j_nil ?_
      | (refine r_go ?_; first | refine run_seq ?_ | refine run_region ?_ | (refine (run_if rfl (fun hb => ?_) (fun hb => ?_)) <;> first | (exfalso; omega) | skip) | refine run_exit ?_)
      | refine seqQ_normal ?_ | refine seqQ_exit ?_ | refine blockQ_eq ?_ | refine loopQ_exit ?_)
  case neg =>
      have ro : ROI b (.os (some bz) n n) [(⟨some bz, 2, n * 1, (b.map Go.AI.encI).flatten⟩ : Blk)] := .inl ⟨some bz, n, by rw [bl], rfl⟩
      have yes : Bag b → (IsBagT n t ↔ bagT b = t) := fun hb => ⟨fun q => by have := (isBagT_iff.1 q).2; rwa [← hbt q] at this, fun q => ⟨b, hb, bl, q⟩⟩
      have nob : ¬ Bag b → ¬ IsBagT n t := fun hb q => hb (by have := (isBagT_iff.1 q).1; rwa [← hbt q] at this)
      refine j_kCall rfl rfl rfl rfl ?_
      refine jctq [_] (c_isBag b) (Clo.raw _) (fun k hk => by simp only [List.mem_singleton] at hk; subst hk; exact List.mem_cons_self) (FrzL.cons ro.frz (FrzL.nil _)) rfl rfl ?_
      repeat' (first
      | (refine j_go ?_; first
        | refine j_op0 rfl rfl rfl rfl ?_ | refine j_off rfl rfl rfl ?_ | (refine j_kGuard rfl ?_; first | (refine (j_if rfl rfl rfl (fun hb => ?_) (fun hb => ?_)) <;> first | (exfalso; omega) | skip)))
      | refine j_nil ?_
      | (refine r_go ?_; first | refine run_ret ?_)
      | refine seqQ_normal ?_)
      case' refine_1 =>
        have hB : Bag b := by assumption
        refine j_kCall rfl rfl rfl rfl ?_
        refine jctq [_] (gT (c_bagText b hB)) (clo_str _) (fun k hk => by simp only [List.mem_singleton] at hk; subst hk; exact List.mem_cons_self) (FrzL.cons ro.frz (FrzL.nil _)) rfl rfl ?_
        repeat' (first
      | (refine j_go ?_; first
        | refine j_op0 rfl rfl rfl rfl ?_)
      | refine j_nil ?_
      | (refine r_go ?_; first | refine run_ret ?_)
      | refine seqQ_normal ?_)
        exact endD_ret (h1 := [_]) rfl (.cons (.tmp rfl) (.cons (.tmp rfl) .nil)) (Le.refl _) ⟨some bz, n, n, by rw [dec_congr (yes hB)]; rfl, fun q => by rw [← hbt q]; exact ro⟩ (.inl rfl)
      case' refine_2 =>
        exact endD_ret (h1 := [_]) rfl (.cons (.tmp rfl) (.cons (.tmp rfl) .nil)) (Le.refl _) ⟨some bz, n, n, by rw [dec_f (nob (by assumption))]; rfl, fun q => absurd q (nob (by assumption))⟩ (.inl rfl)
  case neg.refine_1.refine_1 => exact hbad (fun q => by obtain ⟨j, x, _, _, _, _, _, q6, _⟩ := key q; omega) _ _ rfl rfl (List.sublist_cons_self _ _)
  case neg.refine_1.refine_2 => exact absurd hw0 (by assumption)
  case pos.refine_1.refine_1 =>
    have hw0 : (spl 32 t)[k] = [] := by assumption
    rw [hw0] at hl
    exact absurd hl (Nat.lt_irrefl _)
  case pos.refine_1.refine_2.refine_1 =>
    exact hbad (fun q => by
      obtain ⟨j, x, _, q2, _, _, _, q6, q7, _⟩ := key q
      have h1 := q7 q6
      have h2 : ¬ (97 ≤ (((spl 32 t)[k][0].toNat : Nat) : Int) ∧ (((spl 32 t)[k][0].toNat : Nat) : Int) ≤ 97 + (n : Int) - 1) := by assumption
      omega) _ _ rfl rfl (List.sublist_cons_self _ _)
  case pos.refine_1.refine_2.refine_2.refine_1 =>
    have hr : 97 ≤ (((spl 32 t)[k][0].toNat : Nat) : Int) ∧ (((spl 32 t)[k][0].toNat : Nat) : Int) ≤ 97 + (n : Int) - 1 := by assumption
    have hu0 : ((spl 32 t)[k][0] - UInt8.ofNat (Int.toNat 97)).toNat = (spl 32 t)[k][0].toNat - 97 := sub97 (by omega)
    have hu : ((spl 32 t)[k][0] - UInt8.ofNat (Int.toNat 97)).toNat < n := by omega
    refine j_midxu rfl rfl rfl rfl rfl hu rfl rfl ?_
    refine j_storeE 0 ((spl 32 t)[k][0] - UInt8.ofNat (Int.toNat 97)).toNat (g := Go.AI.encI) (pIv (((spl 32 t)[k].take ((spl 32 t)[k].length : Int).toNat).drop (Int.toNat 1))) rfl rfl rfl rfl rfl rfl rfl rfl rfl (fun _ => rfl) (by first | omega | rfl) (by first | omega | rfl) ?_
    repeat' (first
      | (refine j_go ?_; first
        | refine j_op0 rfl rfl rfl rfl ?_ | (refine j_kBin rfl ?_; first | refine j_in rfl rfl ⟨by omega, by omega⟩ rfl rfl ?_))
      | refine j_nil ?_
      | (refine r_go ?_; first | refine run_region ?_)
      | refine seqQ_normal ?_ | refine blockQ_normal ?_)
    exact loopQ_next ((k + 1, b.set ((spl 32 t)[k][0] - UInt8.ofNat (Int.toNat 97)).toNat (pIv (((spl 32 t)[k].take ((spl 32 t)[k].length : Int).toNat).drop (Int.toNat 1)))), (((spl 32 t)[k][0] - UInt8.ofNat (Int.toNat 97)).toNat : Int)) ⟨by dsimp only; omega, R.go hu (fun q => by
      obtain ⟨j, x, q1, q2, _, q4, q5, q6, q7, q8, q9, q10⟩ := key q
      have hx := q8.1 (by omega)
      exact ⟨j, x, sub97 (q7 q6), by rw [take_drop1, q9 hx, pIv_dcm (by omega)], q10 _ rfl⟩)⟩ (by dsimp only; omega) rfl ⟨rfl, rfl, rfl, rfl, rfl, nx _, trivial⟩
  case pos.refine_1.refine_2.refine_2.refine_2 =>
    have hr : 97 ≤ (((spl 32 t)[k][0].toNat : Nat) : Int) ∧ (((spl 32 t)[k][0].toNat : Nat) : Int) ≤ 97 + (n : Int) - 1 := by assumption
    have hu0 : ((spl 32 t)[k][0] - UInt8.ofNat (Int.toNat 97)).toNat = (spl 32 t)[k][0].toNat - 97 := sub97 (by omega)
    have hu : ((spl 32 t)[k][0] - UInt8.ofNat (Int.toNat 97)).toNat < n := by omega
    refine j_midxu rfl rfl rfl rfl rfl hu rfl rfl ?_
    refine j_storeE 0 ((spl 32 t)[k][0] - UInt8.ofNat (Int.toNat 97)).toNat (g := Go.AI.encI) (1 : Int) rfl rfl rfl rfl rfl rfl rfl rfl rfl (fun _ => rfl) (by first | omega | rfl) (by first | omega | rfl) ?_
    repeat' (first
      | (refine j_go ?_; first
        | refine j_op0 rfl rfl rfl rfl ?_ | (refine j_kBin rfl ?_; first | refine j_in rfl rfl ⟨by omega, by omega⟩ rfl rfl ?_))
      | refine j_nil ?_
      | (refine r_go ?_; first | refine run_region ?_)
      | refine seqQ_normal ?_ | refine blockQ_normal ?_)
    exact loopQ_next ((k + 1, b.set ((spl 32 t)[k][0] - UInt8.ofNat (Int.toNat 97)).toNat 1), (((spl 32 t)[k][0] - UInt8.ofNat (Int.toNat 97)).toNat : Int)) ⟨by dsimp only; omega, R.go hu (fun q => by
      obtain ⟨j, x, q1, q2, _, q4, q5, q6, q7, q8, q9, q10⟩ := key q
      have hx : ¬ 1 < x := fun z => by have := q8.2 z; omega
      exact ⟨j, x, sub97 (q7 q6), by omega, q10 _ rfl⟩)⟩ (by dsimp only; omega) rfl ⟨rfl, rfl, rfl, rfl, rfl, nx _, trivial⟩
  case refine_2 =>
      have hd : t = [45] := by assumption
      have bl : (List.replicate n (0 : Int)).length = n := List.length_replicate
      have hbt : IsBagT n t → List.replicate n (0 : Int) = rdB n t := fun _ => by unfold rdB; rw [if_pos hd]
      have ro : ROI (List.replicate n (0 : Int)) (.os (some bz) n n) [(⟨some bz, 2, n * 1, ((List.replicate n (0 : Int)).map Go.AI.encI).flatten⟩ : Blk)] := .inl ⟨some bz, n, by rw [bl], rfl⟩
      have yes : Bag (List.replicate n (0 : Int)) → (IsBagT n t ↔ bagT (List.replicate n (0 : Int)) = t) := fun hb => ⟨fun q => by have := (isBagT_iff.1 q).2; rwa [← hbt q] at this, fun q => ⟨(List.replicate n (0 : Int)), hb, bl, q⟩⟩
      have nob : ¬ Bag (List.replicate n (0 : Int)) → ¬ IsBagT n t := fun hb q => hb (by have := (isBagT_iff.1 q).1; rwa [← hbt q] at this)
      refine j_kCall rfl rfl rfl rfl ?_
      refine jctq [_] (c_isBag (List.replicate n (0 : Int))) (Clo.raw _) (fun k hk => by simp only [List.mem_singleton] at hk; subst hk; exact List.mem_cons_self) (FrzL.cons ro.frz (FrzL.nil _)) rfl rfl ?_
      repeat' (first
      | (refine j_go ?_; first
        | refine j_op0 rfl rfl rfl rfl ?_ | refine j_off rfl rfl rfl ?_ | (refine j_kGuard rfl ?_; first | (refine (j_if rfl rfl rfl (fun hb => ?_) (fun hb => ?_)) <;> first | (exfalso; omega) | skip)))
      | refine j_nil ?_
      | (refine r_go ?_; first | refine run_ret ?_)
      | refine seqQ_normal ?_)
      case' refine_1 =>
        have hB : Bag (List.replicate n (0 : Int)) := by assumption
        refine j_kCall rfl rfl rfl rfl ?_
        refine jctq [_] (gT (c_bagText (List.replicate n (0 : Int)) hB)) (clo_str _) (fun k hk => by simp only [List.mem_singleton] at hk; subst hk; exact List.mem_cons_self) (FrzL.cons ro.frz (FrzL.nil _)) rfl rfl ?_
        repeat' (first
      | (refine j_go ?_; first
        | refine j_op0 rfl rfl rfl rfl ?_)
      | refine j_nil ?_
      | (refine r_go ?_; first | refine run_ret ?_)
      | refine seqQ_normal ?_)
        exact endD_ret (h1 := [_]) rfl (.cons (.tmp rfl) (.cons (.tmp rfl) .nil)) (Le.refl _) ⟨some bz, n, n, by rw [dec_congr (yes hB)]; rfl, fun q => by rw [← hbt q]; exact ro⟩ (.inl rfl)
      case' refine_2 =>
        exact endD_ret (h1 := [_]) rfl (.cons (.tmp rfl) (.cons (.tmp rfl) .nil)) (Le.refl _) ⟨some bz, n, n, by rw [dec_f (nob (by assumption))]; rfl, fun q => absurd q (nob (by assumption))⟩ (.inl rfl)
end Go.Proofs.YtmcljepicadjfaaGreatDoor

/-
  Stocks read from texts: ReadStock of the reference. No condition but that the text is not longer than a machine holds.
-/
namespace Go.Proofs.YtmcljepicadjfaaGreatDoor
open Go.AI Go.RowKit
set_option maxRecDepth 8000
set_option maxHeartbeats 3200000
def around7 : List UInt8 := [97, 114, 111, 117, 110, 100, 32]
theorem stock_lines (s : Stock) : stockT s = ((s.cells.map bagT ++ [around7 ++ bagT s.around]).map fun w => w ++ [10]).flatten := by
  unfold stockT
  rw [show catK lineT s.cells s.cells.length = (s.cells.map lineT).flatten from catK_all _ _, List.map_append, List.flatten_append, List.map_map]
  simp only [List.map_cons, List.map_nil, List.flatten_cons, List.flatten_nil, List.append_nil, List.append_assoc]
  rfl
theorem bagK_n {k : Int} {b : List Int} (h : BagK k b) : b.length = k.toNat := by have := h.2; omega
theorem no10b {b : List Int} (h : Bag b) : (10 : UInt8) ∉ bagT b := bagT_no h.2.2 (by decide) (by decide)
theorem stock_ln {p : Passing} {s : Stock} (hs : p.StockOk s) : lnW (stockT s) = s.cells.map bagT ++ [around7 ++ bagT s.around] ∧ lnE (stockT s) = [] := ln_lines (fun x hx => by
  rcases List.mem_append.1 hx with hx | hx
  · obtain ⟨b, hb, rfl⟩ := List.mem_map.1 hx
    exact no10b (hs.2.2.1 b hb).1
  · rw [List.mem_singleton] at hx
    subst hx
    intro q
    rcases List.mem_append.1 q with q | q
    · revert q; decide
    · exact no10b hs.2.1.1 q) (stock_lines s)
def IsStT (p : Passing) (t : List UInt8) : Prop := ∃ s, p.StockOk s ∧ stockT s = t
def rdS (p : Passing) (t : List UInt8) : Stock := ⟨((lnW t).take p.parents.length).map (rdB p.kinds.toNat), rdB p.kinds.toNat (trimP around7 ((lnW t).getD p.parents.length []))⟩
theorem rdB_k {k : Int} {b : List Int} (h : BagK k b) : rdB k.toNat (bagT b) = b := by rw [← bagK_n h]; exact rdB_bag h.1
theorem rdS_text {p : Passing} {s : Stock} (hs : p.StockOk s) : rdS p (stockT s) = s := by
  unfold rdS
  have hl : (s.cells.map bagT).length = p.parents.length := by rw [List.length_map]; exact hs.1
  rw [(stock_ln hs).1, List.take_append_of_le_length (by omega), List.take_of_length_le (by omega), List.map_map, map_id2 (l := s.cells) (g := rdB p.kinds.toNat ∘ bagT) (fun b hb => rdB_k (hs.2.2.1 b hb))]
  rw [show (s.cells.map bagT ++ [around7 ++ bagT s.around]).getD p.parents.length [] = around7 ++ bagT s.around from by rw [← hl]; simp, trimP_app, rdB_k hs.2.1]
theorem isStT_ln {p : Passing} {t : List UInt8} (h : IsStT p t) : lnE t = [] ∧ (lnW t).length = p.parents.length + 1 := by
  obtain ⟨s, hs, rfl⟩ := h
  refine ⟨(stock_ln hs).2, ?_⟩
  rw [(stock_ln hs).1, List.length_append, List.length_map, hs.1]; rfl
theorem isStT_cell {p : Passing} {t : List UInt8} (h : IsStT p t) {k : Nat} (hk : k < (lnW t).length) (hn : k < p.parents.length) : IsBagT p.kinds.toNat (lnW t)[k] := by
  obtain ⟨s, hs, rfl⟩ := h
  have hc : k < s.cells.length := by rw [hs.1]; exact hn
  have hb := hs.2.2.1 _ (List.getElem_mem hc)
  refine ⟨s.cells[k], hb.1, bagK_n hb, ?_⟩
  simp only [(stock_ln hs).1]
  rw [List.getElem_append_left (by simpa using hc), List.getElem_map]
theorem isStT_last {p : Passing} {t : List UInt8} (h : IsStT p t) (hk : p.parents.length < (lnW t).length) : ∃ b, (lnW t)[p.parents.length] = around7 ++ b ∧ IsBagT p.kinds.toNat b := by
  obtain ⟨s, hs, rfl⟩ := h
  have hl : (s.cells.map bagT).length = p.parents.length := by rw [List.length_map]; exact hs.1
  refine ⟨bagT s.around, ?_, s.around, hs.2.1.1, bagK_n hs.2.1, rfl⟩
  simp only [(stock_ln hs).1, ← hl]
  simp
open Classical in
noncomputable def resReadStock (p : Passing) (t : List UInt8) : Stock := if p.Ok ∧ IsStT p t then rdS p t else ⟨[], []⟩
open Classical in
noncomputable def codeReadStock (p : Passing) (t : List UInt8) : Int := if p.Ok then (if IsStT p t then 0 else 5) else 1
theorem rs_yes {p : Passing} {t : List UInt8} (hv : p.Ok) (h : IsStT p t) : resReadStock p t = rdS p t ∧ codeReadStock p t = 0 := by unfold resReadStock codeReadStock; rw [if_pos ⟨hv, h⟩, if_pos hv, if_pos h]; exact ⟨rfl, rfl⟩
theorem rs_no {p : Passing} {t : List UInt8} (hv : p.Ok) (h : ¬ IsStT p t) : resReadStock p t = ⟨[], []⟩ ∧ codeReadStock p t = 5 := by unfold resReadStock codeReadStock; rw [if_neg (fun q => h q.2), if_pos hv, if_neg h]; exact ⟨rfl, rfl⟩
theorem rs_inv {p : Passing} {t : List UInt8} (hv : ¬ p.Ok) : resReadStock p t = ⟨[], []⟩ ∧ codeReadStock p t = 1 := by unfold resReadStock codeReadStock; rw [if_neg (fun q => hv q.1), if_neg hv]; exact ⟨rfl, rfl⟩
abbrev stB (b : Nat) (cs : List A) : Blk := ⟨some b, 31, 2, cs⟩
end Go.Proofs.YtmcljepicadjfaaGreatDoor

/-
  Texts of passing systems, read back: plain facts. No condition.
-/
namespace Go.Proofs.YtmcljepicadjfaaGreatDoor
open Go.AI Go.RowKit
set_option maxRecDepth 8000
set_option maxHeartbeats 3200000
/-- No earlier place. -/
def NoE (a p b : List UInt8) : Prop := ∀ j, j < a.length → ¬ p.isPrefixOf ((a ++ (p ++ b)).drop j) = true
theorem noE_nil (p b : List UInt8) : NoE [] p b := fun j h => absurd h (Nat.not_lt_zero _)
theorem noE_one {a b : List UInt8} {c : UInt8} (h : c ∉ a) : NoE a [c] b := fun j hj q => by
  obtain ⟨r, hr⟩ := List.isPrefixOf_iff_prefix.1 q
  have e : (a ++ ([c] ++ b))[j]? = some c := by
    rw [← List.head?_drop, ← hr]; rfl
  rw [List.getElem?_append_left hj] at e
  exact h (List.mem_of_getElem? e)
theorem noE_sl {a b : List UInt8} (h : (47 : UInt8) ∉ a) : NoE a [32, 47, 32] b := fun j hj q => by
  obtain ⟨r, hr⟩ := List.isPrefixOf_iff_prefix.1 q
  have e : (a ++ ([32, 47, 32] ++ b))[j + 1]? = some 47 := by
    have : ((a ++ ([32, 47, 32] ++ b)).drop j)[1]? = some 47 := by rw [← hr]; rfl
    rwa [List.getElem?_drop] at this
  by_cases hq : j + 1 < a.length
  · rw [List.getElem?_append_left hq] at e
    exact h (List.mem_of_getElem? e)
  · rw [List.getElem?_append_right (by omega), show j + 1 - a.length = 0 by omega] at e
    simp at e
theorem pre_self (p b : List UInt8) : p.isPrefixOf (p ++ b) = true := by simp
theorem cutL_at {a p b : List UInt8} (h : NoE a p b) : Lib.cut (a ++ (p ++ b)) p = (a, b, true) := by
  have e : Lib.index (a ++ (p ++ b)) p = (a.length : Int) := Lib.index_first (by simp) (by unfold Lib.occAt; rw [List.drop_left]; exact pre_self p b) (fun j hj => by
    unfold Lib.occAt
    exact Bool.eq_false_iff.mpr (h j hj))
  unfold Lib.cut
  rw [e, if_pos (by omega), Int.toNat_natCast, List.take_left]
  congr 2
  rw [← List.drop_drop, List.drop_left, List.drop_left]
def pas8 : List UInt8 := [112, 97, 115, 115, 105, 110, 103, 32]
def pass5 : List UInt8 := [112, 97, 115, 115, 32]
def sl3 : List UInt8 := [32, 47, 32]
def line0 (p : Passing) : List UInt8 := pas8 ++ dcm p.kinds
def line1 (p : Passing) : List UInt8 := [99, 101, 108, 108, 115, 32, 45] ++ ((p.parents.drop 1).map vT).flatten
def line2 (p : Passing) : List UInt8 := [102, 114, 101, 101, 32] ++ frT p.free
def lineR (r : PassRule) : List UInt8 := pass5 ++ (dcm r.cell ++ ([32] ++ (bagT r.out ++ (sl3 ++ bagT r.in_))))
theorem ruleT_line (r : PassRule) : ruleT r = lineR r ++ [10] := by
  unfold ruleT lineR pass5 sl3
  simp only [List.append_assoc]
theorem passT_lines (p : Passing) : passT p = ((line0 p :: line1 p :: line2 p :: p.rules.map lineR).map fun w => w ++ [10]).flatten := by
  unfold passT pasH pasF line0 line1 line2 pas8
  rw [catK_all, catK_all]
  simp only [List.map_cons, List.flatten_cons, List.map_map]
  rw [show ((fun w : List UInt8 => w ++ [10]) ∘ lineR) = ruleT from funext fun r => (ruleT_line r).symm]
  simp only [List.append_assoc]
  rfl
theorem frK_mem {l : List Bool} {c : UInt8} : ∀ k, c ∈ frK l k ↔ ∃ i, i < k ∧ l.getD i false = true ∧ c = UInt8.ofNat (97 + i)
  | 0 => by simp [frK]
  | k + 1 => by
    rw [frK]
    have ih := frK_mem (l := l) (c := c) k
    split
    · rename_i h
      rw [List.mem_append, ih, List.mem_singleton]
      constructor
      · rintro (⟨i, h1, h2, h3⟩ | rfl)
        · exact ⟨i, by omega, h2, h3⟩
        · exact ⟨k, by omega, h, rfl⟩
      · rintro ⟨i, h1, h2, h3⟩
        by_cases q : i < k
        · exact .inl ⟨i, q, h2, h3⟩
        · have : i = k := by omega
          subst this
          exact .inr h3
    · rename_i h
      rw [ih]
      constructor
      · rintro ⟨i, h1, h2, h3⟩; exact ⟨i, by omega, h2, h3⟩
      · rintro ⟨i, h1, h2, h3⟩
        by_cases q : i < k
        · exact ⟨i, q, h2, h3⟩
        · have : i = k := by omega
          subst this
          exact absurd h2 h
theorem frT_mem {l : List Bool} (h8 : l.length ≤ 8) {k : Nat} (hk : k < l.length) : UInt8.ofNat (97 + k) ∈ frT l ↔ l[k] = true := by
  have e := kind_nat (k := k) (by omega)
  have key : UInt8.ofNat (97 + k) ∈ frK l l.length ↔ l[k] = true := by
    rw [frK_mem]
    constructor
    · rintro ⟨i, h1, h2, h3⟩
      have := kind_nat (k := i) (by omega)
      rw [← h3, e] at this
      have : i = k := by omega
      subst this
      rwa [getD_at hk] at h2
    · intro h; exact ⟨k, hk, by rw [getD_at hk]; exact h, rfl⟩
  unfold frT
  split
  · rename_i h
    rw [h] at key
    rw [← key, List.mem_singleton]
    constructor
    · intro q; rw [q] at e; revert e; show (45 : UInt8).toNat = 97 + k → _; intro e; exfalso; have : (45 : UInt8).toNat = 45 := rfl; omega
    · intro q; cases q
  · exact key
theorem frT_no {l : List Bool} (h8 : l.length ≤ 8) {c : UInt8} (hc : c.toNat < 45) : c ∉ frT l := fun q => by
  unfold frT at q
  split at q
  · rw [List.mem_singleton] at q; subst q; revert hc; decide
  · obtain ⟨i, h1, _, rfl⟩ := (frK_mem _).1 q
    have := kind_nat (k := i) (by omega)
    omega
theorem app_no {c : UInt8} {a b : List UInt8} (h1 : c ∉ a) (h2 : c ∉ b) : c ∉ a ++ b := fun q => (List.mem_append.1 q).elim h1 h2
theorem lineR_no {p : Passing} (hv : p.Ok) {r : PassRule} (hr : r ∈ p.rules) : (10 : UInt8) ∉ lineR r := by
  have R := hv.2 r hr
  exact app_no (by decide) (app_no (no10 _) (app_no (by decide) (app_no (no10b R.2.1.1) (app_no (by decide) (no10b R.2.2.1.1)))))
theorem pass_ln {p : Passing} (hv : p.Ok) : lnW (passT p) = line0 p :: line1 p :: line2 p :: p.rules.map lineR ∧ lnE (passT p) = [] := ln_lines (fun x hx => by
  have h1 := hv.1.1
  have hf := hv.1.2.2.2.1
  rcases List.mem_cons.1 hx with rfl | hx
  · exact app_no (by decide) (no10 _)
  rcases List.mem_cons.1 hx with rfl | hx
  · refine app_no (by decide) fun q => ?_
    obtain ⟨l, h1, h2⟩ := List.mem_flatten.1 q
    obtain ⟨v, _, rfl⟩ := List.mem_map.1 h1
    exact app_no (by decide) (no10 _) h2
  rcases List.mem_cons.1 hx with rfl | hx
  · exact app_no (by decide) (frT_no (by omega) (by decide))
  · obtain ⟨r, hr, rfl⟩ := List.mem_map.1 hx
    exact lineR_no hv hr) (passT_lines p)
/-! ### The program's reader -/
def wP (w : List UInt8) : Int := if pIok w then pIv w else -1
def parI (l : List UInt8) : List Int := ((spl 32 l).drop 1).map wP
def frI (K : Nat) (l : List UInt8) : List Bool := (List.range K).map fun k => decide (UInt8.ofNat (97 + k) ∈ l.drop 5)
def cu0 (l : List UInt8) := Lib.cut l pass5
def cu1 (l : List UInt8) := Lib.cut (cu0 l).2.1 [32]
def cu2 (l : List UInt8) := Lib.cut (cu1 l).2.1 sl3
def rulI (K : Nat) (l : List UInt8) : PassRule := ⟨pIv (cu1 l).1, rdB K (cu2 l).1, rdB K (cu2 l).2.1⟩
def okI (K : Nat) (l : List UInt8) : Prop := (cu0 l).2.2 = true ∧ (cu1 l).2.2 = true ∧ pIok (cu1 l).1 = true ∧ (cu2 l).2.2 = true ∧ IsBagT K (cu2 l).1 ∧ IsBagT K (cu2 l).2.1
theorem parI_line {p : Passing} (hv : p.Ok) : parI (line1 p) = p.parents := by
  obtain ⟨l, hl⟩ := vT_head hv
  have e : spl 32 (line1 p) = [99, 101, 108, 108, 115] :: [45] :: (p.parents.drop 1).map dcm := by
    unfold line1
    rw [show [99, 101, 108, 108, 115, 32, 45] ++ ((p.parents.drop 1).map vT).flatten = [99, 101, 108, 108, 115] ++ 32 :: ([45] ++ ((p.parents.drop 1).map vT).flatten) from rfl,
      spl_cut 32 _ _ (by decide), spl_vT _ _ (by decide)]
  unfold parI
  rw [e, List.drop_one, List.tail_cons, List.map_cons, List.map_map]
  have hp : ∀ x ∈ p.parents.drop 1, (wP ∘ dcm) x = x := fun x hx => by
    obtain ⟨i, hi, rfl⟩ := List.getElem_of_mem hx
    have := par_in hv hi
    show wP (dcm _) = _
    unfold wP
    rw [if_pos (pIok_dcm (by omega)), pIv_dcm (by omega)]
  rw [map_id2 hp, hl]
  rfl
theorem frI_line {p : Passing} (hv : p.Ok) : frI p.kinds.toNat (line2 p) = p.free := by
  have h1 := hv.1.1
  have hf := hv.1.2.2.2.1
  have e : (line2 p).drop 5 = frT p.free := rfl
  refine List.ext_getElem (by simp [frI]; omega) fun i h2 h3 => ?_
  simp only [frI, List.getElem_map, List.getElem_range, e]
  have := frT_mem (l := p.free) (by omega) h3
  cases hb : p.free[i] with
  | true => exact decide_eq_true (this.2 hb)
  | false => exact decide_eq_false (fun q => by rw [this.1 q] at hb; cases hb)
theorem no47b {b : List Int} (h : Bag b) : (47 : UInt8) ∉ bagT b := bagT_no h.2.2 (by decide) (by decide)
theorem rule_cuts {p : Passing} (hv : p.Ok) {r : PassRule} (hr : r ∈ p.rules) : cu0 (lineR r) = ([], dcm r.cell ++ ([32] ++ (bagT r.out ++ (sl3 ++ bagT r.in_))), true) ∧ cu1 (lineR r) = (dcm r.cell, bagT r.out ++ (sl3 ++ bagT r.in_), true) ∧ cu2 (lineR r) = (bagT r.out, bagT r.in_, true) := by
  have R := hv.2 r hr
  have e0 : cu0 (lineR r) = ([], dcm r.cell ++ ([32] ++ (bagT r.out ++ (sl3 ++ bagT r.in_))), true) := cutL_at (noE_nil pass5 _)
  have e1 : cu1 (lineR r) = (dcm r.cell, bagT r.out ++ (sl3 ++ bagT r.in_), true) := by
    unfold cu1; rw [e0]; exact cutL_at (noE_one (no32 _))
  refine ⟨e0, e1, ?_⟩
  unfold cu2
  rw [e1]
  exact cutL_at (noE_sl (no47b R.2.1.1))
theorem rule_read {p : Passing} (hv : p.Ok) {r : PassRule} (hr : r ∈ p.rules) : rulI p.kinds.toNat (lineR r) = r ∧ okI p.kinds.toNat (lineR r) := by
  have R := hv.2 r hr
  have h4 := hv.1.2.1
  have c5 := R.1
  obtain ⟨e0, e1, e2⟩ := rule_cuts hv hr
  constructor
  · unfold rulI
    rw [e1, e2]
    simp only [pIv_dcm (n := r.cell) (by omega), rdB_k R.2.1, rdB_k R.2.2.1]
  · unfold okI
    rw [e0, e1, e2]
    exact ⟨rfl, rfl, pIok_dcm (by omega), rfl, ⟨r.out, R.2.1.1, bagK_n R.2.1, rfl⟩, r.in_, R.2.2.1.1, bagK_n R.2.2.1, rfl⟩
def IsPaT (t : List UInt8) : Prop := ∃ p : Passing, p.Ok ∧ passT p = t
def cPI (t : List UInt8) : Passing :=
  ⟨pIv (trimP pas8 ((lnW t).getD 0 [])), parI ((lnW t).getD 1 []), frI (pIv (trimP pas8 ((lnW t).getD 0 []))).toNat ((lnW t).getD 2 []), ((lnW t).drop 3).map (rulI (pIv (trimP pas8 ((lnW t).getD 0 []))).toNat)⟩
theorem cPI_text {p : Passing} (hv : p.Ok) : cPI (passT p) = p := by
  have h1 := hv.1.1
  have e1 : pIv (trimP pas8 ((lnW (passT p)).getD 0 [])) = p.kinds := by
    rw [(pass_ln hv).1]
    show pIv (trimP pas8 (pas8 ++ dcm p.kinds)) = _
    rw [trimP_app, pIv_dcm (by omega)]
  unfold cPI
  rw [e1, (pass_ln hv).1]
  have e2 : (line0 p :: line1 p :: line2 p :: p.rules.map lineR).getD 1 [] = line1 p := rfl
  have e3 : (line0 p :: line1 p :: line2 p :: p.rules.map lineR).getD 2 [] = line2 p := rfl
  have e4 : (line0 p :: line1 p :: line2 p :: p.rules.map lineR).drop 3 = p.rules.map lineR := rfl
  rw [e2, e3, e4, parI_line hv, frI_line hv, List.map_map, map_id2 (l := p.rules) (g := rulI p.kinds.toNat ∘ lineR) (fun r hr => (rule_read hv hr).1)]
theorem isPaT_ln {t : List UInt8} (h : IsPaT t) : lnE t = [] ∧ 3 ≤ (lnW t).length ∧ (1 ≤ (cPI t).kinds ∧ (cPI t).kinds ≤ 8) ∧ (∀ l ∈ (lnW t).drop 3, okI (cPI t).kinds.toNat l) ∧ t.length ≤ 4000 := by
  obtain ⟨p, hv, rfl⟩ := h
  rw [cPI_text hv]
  refine ⟨(pass_ln hv).2, by rw [(pass_ln hv).1]; simp, hv.1.1, fun l hl => ?_, passT_len hv⟩
  rw [(pass_ln hv).1] at hl
  obtain ⟨r, hr, rfl⟩ := List.mem_map.1 (show l ∈ p.rules.map lineR from hl)
  exact (rule_read hv hr).2
open Classical in
noncomputable def resReadPassing (t : List UInt8) : Passing := if IsPaT t then cPI t else ⟨0, [], [], []⟩
open Classical in
noncomputable def codeReadPassing (t : List UInt8) : Int := if 4000 < t.length then 2 else if IsPaT t then 0 else 5
theorem rp_yes {t : List UInt8} (h : IsPaT t) : resReadPassing t = cPI t ∧ codeReadPassing t = 0 := by
  have := (isPaT_ln h).2.2.2.2
  unfold resReadPassing codeReadPassing; rw [if_pos h, if_neg (by omega), if_pos h]; exact ⟨rfl, rfl⟩
theorem rp_no {t : List UInt8} (hl : ¬ 4000 < t.length) (h : ¬ IsPaT t) : resReadPassing t = ⟨0, [], [], []⟩ ∧ codeReadPassing t = 5 := by unfold resReadPassing codeReadPassing; rw [if_neg h, if_neg hl, if_neg h]; exact ⟨rfl, rfl⟩
theorem rp_big {t : List UInt8} (hl : 4000 < t.length) : resReadPassing t = ⟨0, [], [], []⟩ ∧ codeReadPassing t = 2 := by
  have h : ¬ IsPaT t := fun q => by have := (isPaT_ln q).2.2.2.2; omega
  unfold resReadPassing codeReadPassing; rw [if_neg h, if_pos hl]; exact ⟨rfl, rfl⟩
end Go.Proofs.YtmcljepicadjfaaGreatDoor

/-
  Rows of the call's own; lines and what stands behind a word. No condition.
-/
namespace Go.Proofs.YtmcljepicadjfaaGreatDoor
open Go.AI Go.RowKit
set_option maxRecDepth 8000
set_option maxHeartbeats 1600000
/-- Rows of the call's own. -/
def RowsC (L : List (List Int)) (vs : List A) (hs : List Heap) : Prop := vs.length = L.length ∧ hs.length = L.length ∧ ∀ i (h0 : i < L.length) (h1 : i < vs.length) (h2 : i < hs.length), ROI L[i] vs[i] hs[i]
theorem RowsC.nil : RowsC [] [] [] := ⟨rfl, rfl, fun i h => absurd h (Nat.not_lt_zero _)⟩
theorem RowsC.snoc {L : List (List Int)} {vs : List A} {hs : List Heap} (o : RowsC L vs hs) {l : List Int} {v : A} {h : Heap} (q : ROI l v h) : RowsC (L ++ [l]) (vs ++ [v]) (hs ++ [h]) := by
  obtain ⟨r1, r2, r3⟩ := o
  refine ⟨by rw [List.length_append, List.length_append, r1]; rfl, by rw [List.length_append, List.length_append, r2]; rfl, fun i q1 q2 q3 => ?_⟩
  by_cases z : i < L.length
  · simp only [List.getElem_append_left z, List.getElem_append_left (show i < vs.length by omega), List.getElem_append_left (show i < hs.length by omega)]
    exact r3 i z _ _
  · have e : i = L.length := by rw [List.length_append, List.length_singleton] at q1; omega
    subst e
    simp only [List.getElem_append_right (Nat.le_refl _), List.getElem_append_right (show vs.length ≤ L.length by omega), List.getElem_append_right (show hs.length ≤ L.length by omega), List.getElem_singleton]
    simpa [r1, r2] using q
theorem RowsC.ii {L : List (List Int)} {vs : List A} {hs : List Heap} (o : RowsC L vs hs) (ob : Option Nat) (cap : Nat) : ROII L (.os ob L.length cap) (⟨ob, 24, cap * 1, (vs.map fun a => [a]).flatten⟩ :: hs.flatten) := .inl ⟨ob, cap, vs, hs, o.1, o.2.1, o.2.2, rfl, rfl⟩
theorem pre_take {p s : List UInt8} : (s.take p.length).drop 0 = p ↔ p.isPrefixOf s = true := by
  rw [List.drop_zero, List.isPrefixOf_iff_prefix]
  exact ⟨fun q => by rw [← q]; exact List.take_prefix _ _, fun ⟨t, q⟩ => by rw [← q]; simp⟩
theorem c_HasPrefix (s p : List UInt8) : Gives Tryz.prog 106 [.str s, .str p] (.raw (.bool (dec (p.isPrefixOf s = true)))) := by
  refine fn_of_run tyOk ztOk mix Tryz.func106 rfl (by decide) Tryz.ntmps106 (fun w0 h => ?_)
  repeat' (first
      | (refine j_go ?_; first
        | refine j_op0 rfl rfl rfl rfl ?_ | refine j_off rfl rfl rfl ?_ | (refine j_kLen rfl ?_; first | refine j_op rfl rfl rfl rfl ?_) | (refine j_kSlice rfl ?_; first | refine j_ss rfl rfl rfl rfl rfl rfl (by omega) rfl rfl ?_) | (refine j_kGuard rfl ?_; first | (refine (j_if rfl rfl rfl (fun hb => ?_) (fun hb => ?_)) <;> first | (exfalso; omega) | skip)))
      | refine j_nil ?_
      | (refine r_go ?_; first | refine run_seq ?_ | refine run_region ?_ | refine run_ret ?_)
      | refine seqQ_normal ?_)
  · exact end1 rfl (List.Sublist.refl _) (by rw [Int.toNat_natCast, dec_congr (show (s.take p.length).drop (Int.toNat 0) = p ↔ _ from pre_take)]) (.inl rfl)
  · exact end1 rfl (List.Sublist.refl _) (rbF fun q => by have := (List.isPrefixOf_iff_prefix.1 q).length_le; omega) (.inl rfl)
theorem c_CutPrefix0 (s p : List UInt8) : Gives Tryz.prog 84 [.str s, .str p] (.tup [.str (trimP p s), .raw (.bool (dec (p.isPrefixOf s = true)))]) := by
  refine fn_of_run tyOk ztOk mix Tryz.func84 rfl (by decide) Tryz.ntmps84 (fun w0 h => ?_)
  repeat' (first
      | (refine j_go ?_; first
        | refine j_op0 rfl rfl rfl rfl ?_ | (refine j_kLen rfl ?_; first | refine j_op rfl rfl rfl rfl ?_) | (refine j_kCall rfl rfl rfl rfl ?_; first | refine jc (c_HasPrefix s p) (LeL.refl _) rfl rfl ?_))
      | refine j_nil ?_
      | (refine r_go ?_; first | refine run_seq ?_ | refine run_region ?_ | (refine (run_ifn rfl (fun hb => ?_) (fun hb => ?_)) <;> first | (exfalso; omega) | skip) | refine run_ret ?_ | refine run_skip ?_)
      | refine seqQ_normal ?_ | refine seqQ_ret ?_)
  · have q : ¬ p.isPrefixOf s = true := by assumption
    exact end2 rfl rfl (List.Sublist.refl _) (by rw [dec_f q]; unfold trimP; rw [if_neg q]; rfl) (.inl rfl)
  · have q : p.isPrefixOf s = true := by assumption
    have ql := (List.isPrefixOf_iff_prefix.1 q).length_le
    repeat' (first
      | (refine j_go ?_; first
        | refine j_op0 rfl rfl rfl rfl ?_ | (refine j_kSlice rfl ?_; first | refine j_ss rfl rfl rfl rfl rfl rfl (by omega) rfl rfl ?_))
      | refine j_nil ?_
      | (refine r_go ?_; first | refine run_ret ?_)
      | refine seqQ_normal ?_)
    exact end2 rfl rfl (List.Sublist.refl _) (by rw [dec_t q]; unfold trimP; rw [if_pos q, Int.toNat_natCast, Int.toNat_natCast, List.take_length]; rfl) (.inl rfl)
theorem c_CutPrefix (s p : List UInt8) : Gives Tryz.prog 30 [.str s, .str p] (.tup [.str (trimP p s), .raw (.bool (dec (p.isPrefixOf s = true)))]) := by
  refine fn_of_run tyOk ztOk mix Tryz.func30 rfl (by decide) Tryz.ntmps30 (fun w0 h => ?_)
  repeat' (first
      | (refine j_go ?_; first
        | refine j_op0 rfl rfl rfl rfl ?_ | (refine j_kCall rfl rfl rfl rfl ?_; first | refine jc (c_CutPrefix0 s p) (LeL.refl _) rfl rfl ?_))
      | refine j_nil ?_
      | (refine r_go ?_; first | refine run_seq ?_ | refine run_region ?_ | refine run_ret ?_)
      | refine seqQ_normal ?_)
  exact end2 rfl rfl (List.Sublist.refl _) rfl (.inl rfl)
theorem c_linesOf (s : List UInt8) (hs : s.length ≤ 1048576) : Gives Tryz.prog 29 [.str s] (.tup [.sl ((lnW s).map encW), .raw (.bool (dec (lnE s = [])))]) := by
  refine fn_of_run tyOk ztOk mix Tryz.func29 rfl (by decide) Tryz.ntmps29 (fun w0 h => ?_)
  have cS := c_Split s 10 (by omega)
  rw [ln_eq] at cS
  have ll := lnW_len s
  have hl : (lnW s ++ [lnE s]).length = (lnW s).length + 1 := by simp
  repeat' (first
      | (refine j_go ?_; first
        | refine j_op0 rfl rfl rfl rfl ?_ | (refine j_kIdx rfl ?_; first | refine j_idxz rfl rfl rfl rfl rfl ⟨by omega, by omega⟩ rfl rfl rfl ?_) | (refine j_kBin rfl ?_; first | refine j_in rfl rfl ⟨by omega, by omega⟩ rfl rfl ?_) | (refine j_kLen rfl ?_; first | refine j_len rfl rfl rfl rfl rfl rfl ?_) | (refine j_kCall rfl rfl rfl rfl ?_; first | refine jc (cS) (LeL.refl _) rfl rfl ?_) | (refine j_kSlice rfl ?_; first | refine j_slice rfl rfl rfl rfl rfl rfl (by omega) (fun _ => rfl) rfl rfl ?_))
      | refine j_nil ?_
      | (refine r_go ?_; first | refine run_seq ?_ | refine run_region ?_ | refine run_ret ?_ | refine run_regionD (by kernel_rfl) ?_)
      | refine seqQ_normal ?_)
  have e1 : ((lnW s ++ [lnE s]).take (((lnW s ++ [lnE s]).length : Int) - 1).toNat).drop (Int.toNat 0) = lnW s := by
    rw [hl, show (((lnW s).length + 1 : Nat) : Int) - 1 = ((lnW s).length : Int) from by omega, Int.toNat_natCast]; simp
  have e2 : ∀ (q : (((lnW s ++ [lnE s]).length : Int) - 1).toNat < (lnW s ++ [lnE s]).length), (lnW s ++ [lnE s])[(((lnW s ++ [lnE s]).length : Int) - 1).toNat] = lnE s := fun q => by
    have e : (((lnW s ++ [lnE s]).length : Int) - 1).toNat = (lnW s).length := by rw [hl]; omega
    simp only [e]; simp
  exact end2 rfl rfl (List.Sublist.refl _) (by rw [e1, e2]) (.inl rfl)

end Go.Proofs.YtmcljepicadjfaaGreatDoor
