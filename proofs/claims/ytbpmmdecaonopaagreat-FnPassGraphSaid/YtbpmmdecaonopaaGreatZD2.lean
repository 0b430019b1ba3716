/-
  The source of choices: what it draws, within bounds. No condition.
-/
import Derived.Test.YtbpmmdecaonopaaGreatZJN
import Derived.Test.YtbpmmdecaonopaaGreatZP
import Derived.Test.YtbpmmdecaonopaaGreatZG6
import Derived.Test.YtbpmmdecaonopaaGreatZS3c
import Derived.Test.YtbpmmdecaonopaaGreatZS6e
namespace Go.Proofs.YtbpmmdecaonopaaGreat
open Go.AI
set_option maxRecDepth 8000
set_option maxHeartbeats 1600000

def encY (c : UInt8) : List A := [.u8 c]
/-- The source's memory. -/
abbrev srcB (s : Nat) (code : List UInt8) (at_ : Nat) (sd : Int) : Blk := ⟨some s, 77, 3, [.sl (code.map encY), .int (at_ : Int), .raw (.int .u64 sd)]⟩
/-- What a draw hands back, and leaves. -/
def DrawR (s : Nat) (code : List UInt8) (lim : Nat) (p : Int → Prop) : A → Heap → Prop := fun v h' => ∃ r at2 sd, v = .int r ∧ p r ∧ at2 ≤ lim ∧ h' = [srcB s code at2 sd]
theorem o_next (s : Nat) (code : List UInt8) (at_ : Nat) (sd : Int) (ha : at_ ≤ 1000000000) : Does Tryz.prog 43 [.op (some s) 0] [srcB s code at_ sd] (DrawR s code (at_ + 1) (fun r => 0 ≤ r ∧ r ≤ 255)) := by
  refine fn_of_runD tyOk ztOk mix Tryz.func43 rfl (by decide) Tryz.ntmps43 (fun w0 F => ?_)
  change Run _ _ _ _ _ (_ :: F)
  repeat' (first
      | (refine j_go ?_; first
        | refine j_op0 rfl rfl rfl rfl ?_ | (refine j_kIdx rfl ?_; first | refine j_idx rfl rfl rfl rfl rfl (by omega) rfl rfl rfl ?_) | (refine j_kBin rfl ?_; first | refine j_in rfl rfl ⟨by omega, by omega⟩ rfl rfl ?_) | (refine j_kLen rfl ?_; first | refine j_len rfl rfl rfl rfl rfl rfl ?_) | (refine j_kLoad rfl ?_; first | refine j_mload 0 rfl rfl rfl rfl rfl rfl rfl ?_) | (refine j_kStore rfl ?_; first | refine j_store 0 rfl rfl rfl rfl rfl rfl rfl rfl rfl rfl rfl ?_))
      | refine j_nil ?_
      | (refine r_go ?_; first | refine run_seq ?_ | refine run_region ?_ | (refine (run_if rfl (fun hb => ?_) (fun hb => ?_)) <;> first | (exfalso; omega) | skip) | refine run_skip ?_ | refine run_regionD (by kernel_rfl) ?_)
      | refine seqQ_normal ?_)
  · have ha2 : at_ < code.length := by omega
    have hc := UInt8.toNat_lt code[at_]
    skip
    refine j_u64mul rfl rfl rfl rfl rfl rfl ?_
    repeat' (first
      | (refine j_go ?_; first
        | refine j_op0 rfl rfl rfl rfl ?_ | refine j_conv rfl rfl rfl rfl rfl (wrap_u64 (by omega) (by omega)) rfl rfl ?_))
    refine j_u64add rfl rfl rfl rfl rfl rfl ?_
    skip
    refine j_u64add rfl rfl rfl rfl rfl rfl ?_
    repeat' (first
      | (refine j_go ?_; first
        | refine j_op0 rfl rfl rfl rfl ?_ | (refine j_kLen rfl ?_; first | refine j_len rfl rfl rfl rfl rfl rfl ?_) | (refine j_kLoad rfl ?_; first | refine j_mload 0 rfl rfl rfl rfl rfl rfl rfl ?_) | (refine j_kStore rfl ?_; first | refine j_store 0 rfl rfl rfl rfl rfl rfl rfl rfl rfl rfl rfl ?_))
      | refine j_nil ?_
      | (refine r_go ?_; first | refine run_seq ?_ | refine run_region ?_ | (refine (run_if rfl (fun hb => ?_) (fun hb => ?_)) <;> first | (exfalso; omega) | skip) | refine run_ret ?_ | refine run_regionD (by kernel_rfl) ?_)
      | refine seqQ_normal ?_ | refine seqQ_ret ?_)
    exact endD_ret (h1 := [_]) rfl (.cons (.tmp rfl) .nil) (Le.refl _) ⟨_, at_ + 1, _, rfl, ⟨by omega, by omega⟩, Nat.le_refl _, rfl⟩ (.inl rfl)
  · skip
    refine j_u64mul rfl rfl rfl rfl rfl rfl ?_
    repeat' (first
      | (refine j_go ?_; first
        | refine j_op0 rfl rfl rfl rfl ?_ | refine j_conv rfl rfl rfl rfl rfl (wrap_u64 (by omega) (by omega)) rfl rfl ?_))
    refine j_u64add rfl rfl rfl rfl rfl rfl ?_
    skip
    refine j_u64add rfl rfl rfl rfl rfl rfl ?_
    repeat' (first
      | (refine j_go ?_; first
        | refine j_op0 rfl rfl rfl rfl ?_ | (refine j_kLen rfl ?_; first | refine j_len rfl rfl rfl rfl rfl rfl ?_) | (refine j_kLoad rfl ?_; first | refine j_mload 0 rfl rfl rfl rfl rfl rfl rfl ?_) | (refine j_kStore rfl ?_; first | refine j_store 0 rfl rfl rfl rfl rfl rfl rfl rfl rfl rfl rfl ?_))
      | refine j_nil ?_
      | (refine r_go ?_; first | refine run_seq ?_ | refine run_region ?_ | (refine (run_if rfl (fun hb => ?_) (fun hb => ?_)) <;> first | (exfalso; omega) | skip) | refine run_skip ?_ | refine run_regionD (by kernel_rfl) ?_)
      | refine seqQ_normal ?_)
    refine j_u64shr (k := 40) (kk := .u64) rfl rfl rfl (by first | exact .inr rfl | exact .inl rfl) (by omega) rfl rfl ?_
    skip
    refine j_u64and rfl rfl rfl rfl rfl rfl (fun c hc => ?_)
    skip
    refine j_u2i rfl rfl rfl rfl rfl hc rfl rfl ?_
    repeat' (first
      | (refine j_go ?_; first
        | refine j_op0 rfl rfl rfl rfl ?_)
      | refine j_nil ?_
      | (refine r_go ?_; first | refine run_ret ?_)
      | refine seqQ_normal ?_)
    exact endD_ret (h1 := [_]) rfl (.cons (.tmp rfl) .nil) (Le.refl _) ⟨c, at_ + 1, _, rfl, hc, Nat.le_refl _, rfl⟩ (.inl rfl)
theorem DrawR.lim {s : Nat} {code : List UInt8} {l l' : Nat} {p q : Int → Prop} (hl : l ≤ l') (hp : ∀ r, p r → q r) : ∀ v h', DrawR s code l p v h' → DrawR s code l' q v h' := fun _ _ ⟨r, a, sd, h1, h2, h3, h4⟩ => ⟨r, a, sd, h1, hp r h2, Nat.le_trans h3 hl, h4⟩
theorem o_pick (s : Nat) (code : List UInt8) (at_ : Nat) (sd m : Int) (ha : at_ ≤ 1000000) (hm : m ≤ 100000) : Does Tryz.prog 21 [.op (some s) 0, .int m] [srcB s code at_ sd] (DrawR s code (at_ + 2) (fun r => 0 ≤ r ∧ (r < m ∨ r = 0 ∧ m ≤ 1))) := by
  refine fn_of_runD tyOk ztOk mix Tryz.func21 rfl (by decide) Tryz.ntmps21 (fun w0 F => ?_)
  change Run _ _ _ _ _ (_ :: F)
  repeat' (first
      | (refine j_go ?_; first
        | refine j_op0 rfl rfl rfl rfl ?_)
      | refine j_nil ?_
      | (refine r_go ?_; first | refine run_seq ?_ | refine run_region ?_ | (refine (run_if rfl (fun hb => ?_) (fun hb => ?_)) <;> first | (exfalso; omega) | skip) | refine run_ret ?_ | refine run_skip ?_)
      | refine seqQ_normal ?_ | refine seqQ_ret ?_)
  · exact endD_ret (h1 := [_]) rfl (.cons (.tmp rfl) .nil) (Le.refl _) ⟨0, at_, sd, rfl, ⟨by omega, by omega⟩, by omega, rfl⟩ (.inl rfl)
  refine j_kCall rfl rfl rfl rfl ?_
  refine jcp F (o_next s code at_ sd (by omega)) (List.Perm.refl _) (LeL.refl _) rfl rfl (fun v h1 hR => ?_)
  obtain ⟨r, a1, sd1, rfl, hr, ha1, rfl⟩ := hR
  repeat' (first
      | (refine j_go ?_; first
        | refine j_op0 rfl rfl rfl rfl ?_ | (refine j_kBin rfl ?_; first | refine j_in rfl rfl ⟨by omega, by omega⟩ rfl rfl ?_ | refine j_rem rfl rfl rfl rfl (by omega) rfl rfl ?_))
      | refine j_nil ?_
      | (refine r_go ?_; first | refine run_seq ?_ | refine run_region ?_ | (refine (run_if rfl (fun hb => ?_) (fun hb => ?_)) <;> first | (exfalso; omega) | skip) | refine run_ret ?_ | refine run_skip ?_)
      | refine seqQ_normal ?_)
  · refine j_kCall rfl rfl rfl rfl ?_
    refine jcp F (o_next s code a1 sd1 (by omega)) (List.Perm.refl _) (LeL.refl _) rfl rfl (fun v h1 hR => ?_)
    obtain ⟨r2, a2, sd2, rfl, hr2, ha2, rfl⟩ := hR
    repeat' (first
      | (refine j_go ?_; first
        | refine j_op0 rfl rfl rfl rfl ?_ | (refine j_kBin rfl ?_; first | refine j_in rfl rfl ⟨by omega, by omega⟩ rfl rfl ?_ | refine j_rem rfl rfl rfl rfl (by omega) rfl rfl ?_))
      | refine j_nil ?_
      | (refine r_go ?_; first | refine run_seq ?_ | refine run_region ?_ | refine run_ret ?_)
      | refine seqQ_normal ?_)
    have q1 := Int.emod_nonneg (r * 256 + r2) (b := m) (by omega)
    have q2 := Int.emod_lt_of_pos (r * 256 + r2) (b := m) (by omega)
    exact endD_ret (h1 := [_]) rfl (.cons (.tmp rfl) .nil) (Le.refl _) ⟨_, a2, sd2, rfl, ⟨q1, .inl q2⟩, by omega, rfl⟩ (.inl rfl)
  · have q1 := Int.emod_nonneg r (b := m) (by omega)
    have q2 := Int.emod_lt_of_pos r (b := m) (by omega)
    exact endD_ret (h1 := [_]) rfl (.cons (.tmp rfl) .nil) (Le.refl _) ⟨_, a1, sd1, rfl, ⟨q1, .inl q2⟩, by omega, rfl⟩ (.inl rfl)
theorem o_one (s : Nat) (code : List UInt8) (at_ : Nat) (sd m : Int) (ha : at_ ≤ 1000000) (hm : m ≤ 100000) : Does Tryz.prog 41 [.op (some s) 0, .int m] [srcB s code at_ sd] (fun v h' => ∃ b at2 sd2, v = .raw (.bool b) ∧ at2 ≤ at_ + 2 ∧ h' = [srcB s code at2 sd2]) := by
  refine fn_of_runD tyOk ztOk mix Tryz.func41 rfl (by decide) Tryz.ntmps41 (fun w0 F => ?_)
  change Run _ _ _ _ _ (_ :: F)
  repeat' (first
      | (refine j_go ?_; first
        | refine j_op0 rfl rfl rfl rfl ?_)
      | refine j_nil ?_
      | (refine r_go ?_; first | refine run_seq ?_ | refine run_region ?_)
      | refine seqQ_normal ?_)
  refine j_kCall rfl rfl rfl rfl ?_
  refine jcp F (o_pick s code at_ sd m ha hm) (List.Perm.refl _) (LeL.refl _) rfl rfl (fun v h1 hR => ?_)
  obtain ⟨r, a1, sd1, rfl, hr, ha1, rfl⟩ := hR
  repeat' (first
      | (refine j_go ?_; first
        | refine j_op0 rfl rfl rfl rfl ?_)
      | refine j_nil ?_
      | (refine r_go ?_; first | refine run_ret ?_)
      | refine seqQ_normal ?_)
  exact endD_ret (h1 := [_]) rfl (.cons (.tmp rfl) .nil) (Le.refl _) ⟨_, a1, sd1, rfl, ha1, rfl⟩ (.inl rfl)
theorem o_from (code : List UInt8) : Does Tryz.prog 18 [.sl (code.map encY)] [] (fun v h' => ∃ s, v = .op (some s) 0 ∧ h' = [srcB s code 0 0]) := by
  refine fn_of_runD tyOk ztOk mix Tryz.func18 rfl (by decide) Tryz.ntmps18 (fun w0 F => ?_)
  change Run _ _ _ _ _ F
  repeat' (first
      | (refine j_go ?_; first
        | refine j_op0 rfl rfl rfl rfl ?_ | refine j_build rfl rfl rfl rfl rfl rfl rfl ?_)
      | refine j_nil ?_
      | (refine r_go ?_; first | refine run_seq ?_ | refine run_region ?_)
      | refine seqQ_normal ?_)
  refine j_boxM rfl rfl rfl rfl rfl rfl (fun b1 => ?_)
  repeat' (first
      | (refine j_go ?_; first
        | refine j_op0 rfl rfl rfl rfl ?_)
      | refine j_nil ?_
      | (refine r_go ?_; first | refine run_ret ?_)
      | refine seqQ_normal ?_)
  exact endD_ret (h1 := [_]) rfl (.cons (.tmp rfl) .nil) (Le.refl _) ⟨b1, rfl, rfl⟩ (.inl rfl)
/-- A bag that is drawn, in memory of its own, and the source behind it. -/
def ObjR (s : Nat) (code : List UInt8) (lim : Nat) (kinds most : Int) : A → Heap → Prop := fun v h' => ∃ (l : List Int) (b : Option Nat) (cap at2 : Nat) (sd : Int), v = .os b l.length cap ∧ (l.length : Int) = kinds ∧ (∀ x ∈ l, 0 ≤ x ∧ x ≤ most) ∧ at2 ≤ lim ∧ h' = [⟨b, 2, cap * 1, (l.map Go.AI.encI).flatten⟩, srcB s code at2 sd]
theorem o_l06Objects (s : Nat) (code : List UInt8) (at_ : Nat) (sd kinds most : Int) (ha : at_ ≤ 100000) (hk : 1 ≤ kinds ∧ kinds ≤ 8) (hm : 0 ≤ most ∧ most ≤ 4) : Does Tryz.prog 20 [.op (some s) 0, .int kinds, .int most] [srcB s code at_ sd] (ObjR s code (at_ + 10) kinds most) := by
  refine fn_of_runD tyOk ztOk mix Tryz.func20 rfl (by decide) Tryz.ntmps20 (fun w0 F => ?_)
  change Run _ _ _ _ _ (_ :: F)
  obtain ⟨K, rfl⟩ : ∃ K : Nat, kinds = (K : Int) := ⟨kinds.toNat, by omega⟩
  repeat' (first
      | (refine j_go ?_; first
        | refine j_op0 rfl rfl rfl rfl ?_)
      | refine j_nil ?_
      | (refine r_go ?_; first | refine run_seq ?_ | refine run_region ?_)
      | refine seqQ_normal ?_)
  refine j_makeI (g := Go.AI.encI) (m := K) 0 rfl rfl rfl rfl rfl rfl rfl rfl rfl (by omega) rfl rfl (fun bz => ?_)
  repeat' (first
      | (refine j_go ?_; first
        | refine j_op0 rfl rfl rfl rfl ?_ | (refine j_kBin rfl ?_; first | refine j_in rfl rfl ⟨by omega, by omega⟩ rfl rfl ?_))
      | refine j_nil ?_
      | (refine r_go ?_; first | refine run_seq ?_ | refine run_region ?_)
      | refine seqQ_normal ?_)
  refine j_kCall rfl rfl rfl rfl ?_
  refine jcp (_ :: F) (o_pick s code at_ sd (most + 1) (by omega) (by omega)) (List.Perm.swap _ _ _) (LeL.refl _) rfl rfl (fun v h1 hR => ?_)
  obtain ⟨r, a1, sd1, rfl, hr, ha1, rfl⟩ := hR
  repeat' (first
      | (refine j_go ?_; first
        | refine j_op0 rfl rfl rfl rfl ?_)
      | refine j_nil ?_
      | (refine r_go ?_; first | refine run_block ?_)
      | refine seqQ_normal ?_)
  refine run_loop (fun x : Int × List Int × Nat × Int => [(0, .op (some s) 0), (1, .int (K : Int)), (7, .os (some bz) K K), (8, .int x.1)]) (fun x => srcB s code x.2.2.1 x.2.2.2 :: ⟨some bz, 2, K * 1, (x.2.1.map Go.AI.encI).flatten⟩ :: F)
    (fun x => (0 ≤ x.1 ∧ x.1 ≤ most) ∧ x.2.1.length = K ∧ (∀ y ∈ x.2.1, 0 ≤ y ∧ y ≤ most - x.1) ∧ (x.2.2.1 : Int) ≤ at_ + 2 + 2 * (most - x.1)) (fun x => x.1.toNat) (r, List.replicate K 0, a1, sd1) ⟨rfl, rfl, rfl, rfl, trivial⟩ rfl ⟨by omega, List.length_replicate, fun y hy => by rw [List.eq_of_mem_replicate hy]; omega, by dsimp only; omega⟩ (fun ⟨i, l, a, sd⟩ ⟨hi, hl, hy, hA⟩ => ?_)
  dsimp only at hi hl hy hA ⊢
  by_cases h0 : 0 < i
  case pos =>
    repeat' (first
      | (refine j_go ?_; first
        | refine j_op0 rfl rfl rfl rfl ?_)
      | refine j_nil ?_
      | (refine r_go ?_; first | refine run_seq ?_ | refine run_region ?_ | (refine (run_if rfl (fun hb => ?_) (fun hb => ?_)) <;> first | (exfalso; omega) | skip) | refine run_block ?_ | refine run_skip ?_)
      | refine seqQ_normal ?_)
    refine j_kCall rfl rfl rfl rfl ?_
    refine jcp (_ :: F) (o_pick s code a sd K (by omega) (by omega)) (List.Perm.refl _) (LeL.refl _) rfl rfl (fun v h1 hR => ?_)
    obtain ⟨r2, a2, sd2, rfl, hr2, ha2, rfl⟩ := hR
    repeat' (first
      | (refine j_go ?_; first
        | (refine j_kIdx rfl ?_; first | refine j_midxz rfl rfl rfl rfl rfl (by first | omega | (simp only [List.length_append, List.length_cons, List.length_nil]; omega)) rfl rfl ?_)))
    have hr3 : r2.toNat < l.length := by omega
    have hg := hy _ (List.getElem_mem hr3)
    refine j_mloadE 1 r2.toNat (g := Go.AI.encI) (L := l) (z := 1) rfl rfl rfl rfl (fun _ => rfl) (by omega) (by omega) (fun _ => rfl) rfl rfl ?_
    repeat' (first
      | (refine j_go ?_; first
        | (refine j_kIdx rfl ?_; first | refine j_midxz rfl rfl rfl rfl rfl (by first | omega | (simp only [List.length_append, List.length_cons, List.length_nil]; omega)) rfl rfl ?_) | (refine j_kBin rfl ?_; first | refine j_in rfl rfl ⟨by omega, by omega⟩ rfl rfl ?_)))
    refine j_storeE 1 r2.toNat (g := Go.AI.encI) (l[r2.toNat] + 1) rfl rfl rfl rfl rfl rfl rfl rfl rfl (fun _ => rfl) (by omega) (by omega) ?_
    repeat' (first
      | (refine j_go ?_; first
        | refine j_op0 rfl rfl rfl rfl ?_ | (refine j_kBin rfl ?_; first | refine j_in rfl rfl ⟨by omega, by omega⟩ rfl rfl ?_))
      | refine j_nil ?_
      | (refine r_go ?_; first | refine run_region ?_)
      | refine seqQ_normal ?_ | refine blockQ_normal ?_)
    exact loopQ_next (i - 1, l.set r2.toNat (l[r2.toNat] + 1), a2, sd2) ⟨by dsimp only; omega, by dsimp only; rw [List.length_set]; exact hl, fun y h => by
      dsimp only at h ⊢
      rcases List.mem_or_eq_of_mem_set h with q | q
      · have := hy y q; omega
      · subst q; omega, by dsimp only; omega⟩ (by dsimp only; omega) rfl ⟨rfl, rfl, rfl, rfl, trivial⟩
  obtain rfl : i = 0 := by omega
  repeat' (first
      | (refine j_go ?_; first
        | refine j_op0 rfl rfl rfl rfl ?_)
      | refine j_nil ?_
      | (refine r_go ?_; first | refine run_seq ?_ | refine run_region ?_ | (refine (run_if rfl (fun hb => ?_) (fun hb => ?_)) <;> first | (exfalso; omega) | skip) | refine run_ret ?_ | refine run_exit ?_)
      | refine seqQ_normal ?_ | refine seqQ_exit ?_ | refine blockQ_eq ?_ | refine loopQ_exit ?_)
  refine endD_view (view_perm (List.Perm.swap _ _ _)) ?_
  exact endD_ret (h1 := [_, _]) rfl (.cons (.tmp rfl) .nil) (Le.refl _) ⟨l, some bz, K, a, sd, by rw [hl]; rfl, by omega, fun y h => by have := hy y h; omega, by omega, rfl⟩ (.inl rfl)
end Go.Proofs.YtbpmmdecaonopaaGreat

/-
  A passing system that is drawn: it is right, and small. No condition.
-/
namespace Go.Proofs.YtbpmmdecaonopaaGreat
open Go.AI
set_option maxRecDepth 8000
set_option maxHeartbeats 1600000

/-- Parents that were drawn. -/
def Pars (ps : List Int) : Prop := ps[0]? = some (-1) ∧ ∀ c (h : c < ps.length), 1 ≤ c → 0 ≤ ps[c] ∧ ps[c] ≤ (c : Int) - 1
theorem Pars.one : Pars [-1] := ⟨rfl, fun c h h1 => by simp at h; omega⟩
theorem Pars.snoc {ps : List Int} {r : Int} (h : Pars ps) (h0 : 1 ≤ ps.length) (hr : 0 ≤ r ∧ (r < ps.length ∨ r = 0 ∧ (ps.length : Int) ≤ 1)) : Pars (ps ++ [r]) := by
  refine ⟨?_, fun c hc h1 => ?_⟩
  · rw [List.getElem?_append_left (by omega)]; exact h.1
  · by_cases q : c < ps.length
    · rw [List.getElem_append_left q]; exact h.2 c q h1
    · have e : c = ps.length := by simp at hc; omega
      subst e
      rw [List.getElem_append_right (Nat.le_refl _)]
      simp only [Nat.sub_self, List.getElem_cons_zero]
      omega
theorem memB1 {k : Nat × Blk} {i : Nat} {b : Blk} (h : k ∈ [(i, b)]) : k.2 = b := by
  rw [List.mem_singleton] at h; rw [h]
abbrev lsB (b : Option Nat) (cap : Nat) (l : List Int) : Blk := ⟨b, 2, cap * 1, (l.map Go.AI.encI).flatten⟩
abbrev pasB (b : Nat) (cs : List A) : Blk := ⟨some b, 28, 4, cs⟩
abbrev fbB (b : Option Nat) (cap : Nat) (l : List Bool) : Blk := ⟨b, 4, cap * 1, (l.map encB).flatten⟩
abbrev rsB (b : Option Nat) (cap : Nat) (l : List PassRule) : Blk := ⟨b, 80, cap * 3, (l.map encPassRule).flatten⟩
/-- A system that is drawn. -/
def PasR (s : Nat) (code : List UInt8) (lim : Nat) : A → Heap → Prop := fun v h' => ∃ (p : Passing) (at2 : Nat) (sd : Int) (k : Blk), p.Ok ∧ p.kinds ≤ 3 ∧ p.parents.length ≤ 3 ∧ p.rules.length ≤ 4 ∧ (∀ r ∈ p.rules, (∀ x ∈ r.out, 0 ≤ x ∧ x ≤ 2) ∧ ∀ x ∈ r.in_, 0 ≤ x ∧ x ≤ 2) ∧ v = .agg (encPassing p) ∧ at2 ≤ lim ∧ h' = [k, srcB s code at2 sd]
theorem o_l06Draw (s : Nat) (code : List UInt8) (at_ : Nat) (sd : Int) (ha : at_ ≤ 10000) : Does Tryz.prog 19 [.op (some s) 0] [srcB s code at_ sd] (PasR s code (at_ + 200)) := by
  refine fn_of_runD tyOk ztOk mix Tryz.func19 rfl (by decide) Tryz.ntmps19 (fun w0 F => ?_)
  change Run _ _ _ _ _ (_ :: F)
  repeat' (first
      | (refine j_go ?_; first
        | refine j_op0 rfl rfl rfl rfl ?_ | refine j_alloc rfl rfl rfl rfl rfl (fun _ => ?_))
      | refine j_nil ?_
      | (refine r_go ?_; first | refine run_seq ?_ | refine run_region ?_)
      | refine seqQ_normal ?_)
  rename_i br
  refine j_kCall rfl rfl rfl rfl ?_
  refine jcp (_ :: F) (o_pick s code at_ sd 3 (by omega) (by omega)) (List.Perm.swap _ _ _) (LeL.refl _) rfl rfl (fun v h1 hR => ?_)
  obtain ⟨r, a1, sd1, rfl, hr, ha1, rfl⟩ := hR
  repeat' (first
      | (refine j_go ?_; first
        | (refine j_kBin rfl ?_; first | refine j_in rfl rfl ⟨by omega, by omega⟩ rfl rfl ?_)))
  refine j_bslM rfl rfl rfl rfl rfl rfl rfl rfl rfl rfl rfl (fun b1 => ?_)
  repeat' (first
      | (refine j_go ?_; first
        | refine j_op0 rfl rfl rfl rfl ?_ | (refine j_kStore rfl ?_; first | refine j_storeN 0 rfl rfl rfl rfl rfl rfl rfl rfl rfl rfl rfl ?_) | refine j_build rfl rfl rfl rfl rfl rfl rfl ?_ | refine j_alloc rfl rfl rfl rfl rfl (fun _ => ?_))
      | refine j_nil ?_
      | (refine r_go ?_; first | refine run_seq ?_ | refine run_region ?_)
      | refine seqQ_normal ?_)
  rename_i bp
  refine j_kCall rfl rfl rfl rfl ?_
  refine jcp (_ :: _ :: _ :: F) (o_pick s code a1 sd1 3 (by omega) (by omega)) (List.perm_middle (l₁ := [_, _])) (LeL.refl _) rfl rfl (fun v h1 hR => ?_)
  obtain ⟨r2, a2, sd2, rfl, hr2, ha2, rfl⟩ := hR
  repeat' (first
      | (refine j_go ?_; first
        | refine j_op0 rfl rfl rfl rfl ?_)
      | refine j_nil ?_
      | (refine r_go ?_; first | refine run_block ?_)
      | refine seqQ_normal ?_)
  refine run_loop (fun x : Int × List Int × Option Nat × Nat × Nat × Int => [(0, .op (some s) 0), (2, .op (some br) 0), (3, .op (some bp) 0), (4, .int x.1)])
    (fun x => srcB s code x.2.2.2.2.1 x.2.2.2.2.2 :: pasB bp [.int (1 + r), .os x.2.2.1 x.2.1.length x.2.2.2.1, .os none 0 0, .os none 0 0] :: lsB x.2.2.1 x.2.2.2.1 x.2.1 :: pasB br [.int 0, .os none 0 0, .os none 0 0, .os none 0 0] :: F)
    (fun x => 0 ≤ x.1 ∧ Pars x.2.1 ∧ 1 ≤ x.2.1.length ∧ (x.2.1.length : Int) + x.1 ≤ 3 ∧ (x.2.2.2.2.1 : Int) ≤ at_ + 8 - 2 * x.1) (fun x => x.1.toNat) (r2, [-1], some b1, 1, a2, sd2) ⟨rfl, rfl, rfl, rfl, trivial⟩ rfl ⟨by omega, Pars.one, by simp, by dsimp only [List.length_cons, List.length_nil]; omega, by dsimp only; omega⟩ (fun ⟨i, ps, b, cap, a, sd⟩ ⟨hi, hp, hl, hm, hA⟩ => ?_)
  dsimp only at hi hp hl hm hA ⊢
  by_cases h0 : 0 < i
  case pos =>
    repeat' (first
      | (refine j_go ?_; first
        | refine j_op0 rfl rfl rfl rfl ?_)
      | refine j_nil ?_
      | (refine j_goO ?_; first
        | refine j_op0O rfl rfl rfl rfl ?_ | (refine j_kLenO rfl ?_; first | refine j_opO rfl rfl rfl rfl ?_) | (refine j_kLoadO rfl ?_; first | refine j_mloadO 1 rfl rfl rfl rfl rfl rfl rfl rfl ?_ | refine j_mloadS 1 rfl rfl rfl rfl rfl rfl rfl ?_))
      | (refine r_go ?_; first | refine run_seq ?_ | refine run_region ?_ | (refine (run_if rfl (fun hb => ?_) (fun hb => ?_)) <;> first | (exfalso; omega) | skip) | refine run_block ?_ | refine run_skip ?_ | refine run_opn 5 [⟨0, false, false, 0⟩, ⟨1, false, false, 0⟩, ⟨2, true, false, 0⟩, ⟨3, true, false, 0⟩, ⟨4, true, false, 0⟩, ⟨5, true, false, 0⟩, ⟨6, false, true, 0⟩, ⟨7, true, false, 0⟩, ⟨8, false, true, 0⟩, ⟨9, true, false, 0⟩, ⟨10, false, true, 0⟩] rfl rfl (by kernel_rfl) ?_)
      | refine seqQ_normal ?_)
    refine j_kCallO rfl rfl rfl rfl ?_
    refine jcdO 0 1 rfl (fun k hk => by rw [memB1 hk]; exact List.mem_cons_self) (o_pick s code a sd ps.length (by omega) (by omega)) rfl (LeL.refl _) rfl rfl (fun v h1 hR => ?_)
    obtain ⟨r3, a3, sd3, rfl, hr3, ha3, rfl⟩ := hR
    refine j_dropO [1] rfl (by kernel_rfl) ?_
    repeat' (first
      | (refine j_goO ?_; first
        | (refine j_kBslO rfl ?_; first | refine j_bslO rfl rfl rfl rfl rfl rfl rfl rfl rfl rfl rfl ?_)))
    refine j_appendO 2 (g := Go.AI.encI) (ys := ps) [r3] rfl (fun _ hk => nomatch hk) rfl rfl rfl rfl rfl rfl rfl rfl rfl rfl rfl rfl (fun _ => rfl) (fun _ _ => rfl) ⟨by simp only [List.length_cons, List.length_nil]; omega, by simp only [List.length_cons, List.length_nil]; omega⟩ rfl rfl (fun b' cap' => ?_)
    repeat' (first
      | (refine j_go ?_; first
        | refine j_op0 rfl rfl rfl rfl ?_ | (refine j_kBin rfl ?_; first | refine j_in rfl rfl ⟨by omega, by omega⟩ rfl rfl ?_))
      | refine j_nil ?_
      | (refine j_goO ?_; first
        | refine j_op0O rfl rfl rfl rfl ?_ | (refine j_kStoreO rfl ?_; first | refine j_storeO 1 rfl rfl rfl rfl rfl rfl rfl rfl rfl rfl rfl rfl (by first | (intro _ hk; exact absurd hk List.not_mem_nil) | (intro k hk; simp at hk ⊢; try simp [hk])) ?_))
      | refine j_nilO ?_
      | (refine r_go ?_; first | refine run_region ?_)
      | refine seqQ_normal ?_ | refine blockQ_normal ?_)
    have ln : (ps ++ [r3]).length = ps.length + 1 := by rw [List.length_append]; rfl
    exact loopQ_next (i - 1, ps ++ [r3], b', cap', a3, sd3) ⟨by dsimp only; omega, hp.snoc hl (by omega), by dsimp only; omega, by dsimp only; omega, by dsimp only; omega⟩ (by dsimp only; omega) rfl ⟨rfl, rfl, rfl, rfl, trivial⟩
  obtain rfl : i = 0 := by omega
  repeat' (first
      | (refine j_go ?_; first
        | refine j_op0 rfl rfl rfl rfl ?_)
      | refine j_nil ?_
      | (refine r_go ?_; first | refine run_seq ?_ | refine run_region ?_ | (refine (run_if rfl (fun hb => ?_) (fun hb => ?_)) <;> first | (exfalso; omega) | skip) | refine run_block ?_ | refine run_exit ?_)
      | refine seqQ_normal ?_ | refine seqQ_exit ?_ | refine blockQ_eq ?_ | refine loopQ_exit ?_)
  refine run_view (view_cellF (k := 1) (b := some bp) (h1 := [lsB b cap ps]) (F := _ :: _ :: F) ((List.Perm.swap _ _ _).trans (List.Perm.cons _ (List.Perm.swap _ _ _))) rfl (FrzF.flat (g := Go.AI.encI) (ys := ps) (z := 1) rfl rfl (fun _ => rfl) rfl rfl)) ?_
  refine run_view (view_none 4 (0 * 1) rfl) ?_
  refine run_view (view_perm (List.perm_middle (l₁ := [_, _])).symm.symm) ?_
  have aB : (a : Int) ≤ at_ + 8 := by omega
  clear hA h0
  refine run_loop (fun x : Nat × List Bool × Option Nat × Nat × Nat × Int => [(0, .op (some s) 0), (2, .op (some br) 0), (3, .op (some bp) 0), (5, .int (x.1 : Int))])
    (fun x => srcB s code x.2.2.2.2.1 x.2.2.2.2.2 :: fbB x.2.2.1 x.2.2.2.1 x.2.1 :: pasB bp [.int (1 + r), .sl (ps.map Go.AI.encI), .os x.2.2.1 x.2.1.length x.2.2.2.1, .os none 0 0] :: pasB br [.int 0, .os none 0 0, .os none 0 0, .os none 0 0] :: F)
    (fun x => (x.1 : Int) ≤ 1 + r ∧ x.2.1.length = x.1 ∧ (x.2.2.2.2.1 : Int) ≤ at_ + 8 + 2 * x.1) (fun x => (1 + r).toNat - x.1) (0, [], none, 0, a, sd) ⟨rfl, rfl, rfl, rfl, trivial⟩ rfl ⟨by dsimp only; omega, rfl, by dsimp only; omega⟩ (fun ⟨k, fs, b2, cap2, a, sd⟩ ⟨hk, hfl, hA⟩ => ?_)
  dsimp only at hk hfl hA ⊢
  by_cases h0 : (k : Int) < 1 + r
  case pos =>
    repeat' (first
      | (refine j_go ?_; first
        | refine j_op0 rfl rfl rfl rfl ?_ | (refine j_kLoad rfl ?_; first | refine j_mload 2 rfl rfl rfl rfl rfl rfl rfl ?_))
      | refine j_nil ?_
      | (refine j_goO ?_; first
        | refine j_op0O rfl rfl rfl rfl ?_ | (refine j_kLoadO rfl ?_; first | refine j_mloadS 2 rfl rfl rfl rfl rfl rfl rfl ?_))
      | (refine r_go ?_; first | refine run_seq ?_ | refine run_region ?_ | (refine (run_if rfl (fun hb => ?_) (fun hb => ?_)) <;> first | (exfalso; omega) | skip) | refine run_block ?_ | refine run_skip ?_ | refine run_opn 9 [⟨0, false, false, 0⟩, ⟨1, false, false, 0⟩, ⟨2, true, false, 0⟩, ⟨3, false, true, 0⟩, ⟨4, true, false, 0⟩, ⟨5, false, true, 0⟩, ⟨6, true, false, 0⟩, ⟨7, false, true, 0⟩] rfl rfl (by kernel_rfl) ?_)
      | refine seqQ_normal ?_)
    refine j_kCallO rfl rfl rfl rfl ?_
    refine jcdO 0 1 rfl (fun k hk => by rw [memB1 hk]; exact List.mem_cons_of_mem _ List.mem_cons_self) (o_one s code a sd 4 (by omega) (by omega)) rfl (LeL.refl _) rfl rfl (fun v h1 hR => ?_)
    obtain ⟨b3, a3, sd3, rfl, ha3, rfl⟩ := hR
    refine j_dropO [1] rfl (by kernel_rfl) ?_
    repeat' (first
      | (refine j_goO ?_; first
        | (refine j_kBslO rfl ?_; first | refine j_bslO rfl rfl rfl rfl rfl rfl rfl rfl rfl rfl rfl ?_)))
    refine j_appendO 1 (g := encB) (ys := fs) [b3] rfl (fun _ hk => nomatch hk) rfl rfl rfl rfl rfl rfl rfl rfl rfl rfl rfl rfl (fun _ => rfl) (fun _ hy => by simp only [List.mem_singleton] at hy; subst hy; rfl) ⟨by simp only [List.length_cons, List.length_nil]; omega, by simp only [List.length_cons, List.length_nil]; omega⟩ rfl rfl (fun b' cap' => ?_)
    repeat' (first
      | (refine j_go ?_; first
        | refine j_op0 rfl rfl rfl rfl ?_ | (refine j_kBin rfl ?_; first | refine j_in rfl rfl ⟨by omega, by omega⟩ rfl rfl ?_))
      | refine j_nil ?_
      | (refine j_goO ?_; first
        | refine j_op0O rfl rfl rfl rfl ?_ | (refine j_kStoreO rfl ?_; first | refine j_storeO 2 rfl rfl rfl rfl rfl rfl rfl rfl rfl rfl rfl rfl (by first | (intro _ hk; exact absurd hk List.not_mem_nil) | (intro k hk; simp at hk ⊢; try simp [hk])) ?_))
      | refine j_nilO ?_
      | (refine r_go ?_; first | refine run_region ?_)
      | refine seqQ_normal ?_ | refine blockQ_normal ?_)
    exact loopQ_next (k + 1, fs ++ [b3], b', cap', a3, sd3) ⟨by dsimp only; omega, by dsimp only; rw [List.length_append, hfl]; rfl, by dsimp only; omega⟩ (by dsimp only; omega) rfl ⟨rfl, rfl, rfl, nx _, trivial⟩
  have hkr : (k : Int) = 1 + r := by omega
  repeat' (first
      | (refine j_go ?_; first
        | refine j_op0 rfl rfl rfl rfl ?_ | (refine j_kLoad rfl ?_; first | refine j_mload 2 rfl rfl rfl rfl rfl rfl rfl ?_))
      | refine j_nil ?_
      | (refine r_go ?_; first | refine run_seq ?_ | refine run_region ?_ | (refine (run_if rfl (fun hb => ?_) (fun hb => ?_)) <;> first | (exfalso; omega) | skip) | refine run_exit ?_)
      | refine seqQ_normal ?_ | refine seqQ_exit ?_ | refine blockQ_eq ?_ | refine loopQ_exit ?_)
  refine j_view (view_cellF (k := 2) (b := some bp) (h1 := [fbB b2 cap2 fs]) (F := _ :: _ :: F) rev3 rfl (FrzF.flat (g := encB) (ys := fs) (z := 1) rfl rfl (fun _ => rfl) rfl rfl)) ?_
  refine j_view (view_none 80 (0 * 3) rfl) ?_
  refine j_kCall rfl rfl rfl rfl ?_
  refine jcp (_ :: _ :: _ :: F) (o_pick s code a sd 4 (by omega) (by omega)) (List.perm_middle (l₁ := [_, _])) (LeL.refl _) rfl rfl (fun v h1 hR => ?_)
  obtain ⟨r4, a4, sd4, rfl, hr4, ha4, rfl⟩ := hR
  have a4B : (a4 : Int) ≤ at_ + 16 := by omega
  clear hA ha4
  repeat' (first
      | (refine j_go ?_; first
        | refine j_op0 rfl rfl rfl rfl ?_ | (refine j_kBin rfl ?_; first | refine j_in rfl rfl ⟨by omega, by omega⟩ rfl rfl ?_))
      | refine j_nil ?_
      | (refine r_go ?_; first | refine run_block ?_)
      | refine seqQ_normal ?_)
  refine run_view (view_perm (List.Perm.cons _ (List.Perm.swap _ _ _))) ?_
  refine run_loop (fun x : Int × List PassRule × Option Nat × Nat × Nat × Int => [(0, .op (some s) 0), (2, .op (some br) 0), (3, .op (some bp) 0), (6, .int x.1)])
    (fun x => srcB s code x.2.2.2.2.1 x.2.2.2.2.2 :: pasB bp [.int (1 + r), .sl (ps.map Go.AI.encI), .sl (fs.map encB), .os x.2.2.1 x.2.1.length x.2.2.2.1] :: rsB x.2.2.1 x.2.2.2.1 x.2.1 :: pasB br [.int 0, .os none 0 0, .os none 0 0, .os none 0 0] :: F)
    (fun x => (0 ≤ x.1 ∧ x.1 ≤ 4) ∧ (x.2.1.length : Int) + x.1 ≤ 4 ∧ (∀ q ∈ x.2.1, (⟨1 + r, ps, fs, x.2.1⟩ : Passing).RuleOk q ∧ (∀ y ∈ q.out, 0 ≤ y ∧ y ≤ 2) ∧ ∀ y ∈ q.in_, 0 ≤ y ∧ y ≤ 2) ∧ (x.2.2.2.2.1 : Int) ≤ at_ + 16 + 22 * (4 - x.1)) (fun x => x.1.toNat) (1 + r4, [], none, 0, a4, sd4) ⟨rfl, rfl, rfl, rfl, trivial⟩ rfl ⟨by dsimp only; omega, by dsimp only [List.length_nil]; omega, by simp, by dsimp only; omega⟩ (fun ⟨i, rs, b, cap, a, sd⟩ ⟨hi, hl2, hq, hA⟩ => ?_)
  dsimp only at hi hl2 hq hA ⊢
  by_cases h0 : 0 < i
  case pos =>
    repeat' (first
      | (refine j_go ?_; first
        | refine j_op0 rfl rfl rfl rfl ?_ | (refine j_kLen rfl ?_; first | refine j_len rfl rfl rfl rfl rfl rfl ?_) | (refine j_kLoad rfl ?_; first | refine j_mload 1 rfl rfl rfl rfl rfl rfl rfl ?_))
      | refine j_nil ?_
      | (refine r_go ?_; first | refine run_seq ?_ | refine run_region ?_ | (refine (run_if rfl (fun hb => ?_) (fun hb => ?_)) <;> first | (exfalso; omega) | skip) | refine run_block ?_ | refine run_skip ?_)
      | refine seqQ_normal ?_)
    refine j_kCall rfl rfl rfl rfl ?_
    refine jcp (_ :: _ :: _ :: F) (o_pick s code a sd ps.length (by omega) (by omega)) (List.Perm.refl _) (LeL.refl _) rfl rfl (fun v h1 hR => ?_)
    obtain ⟨r5, a5, sd5, rfl, hr5, ha5, rfl⟩ := hR
    repeat' (first
      | (refine j_go ?_; first
        | refine j_op0 rfl rfl rfl rfl ?_ | (refine j_kLoad rfl ?_; first | refine j_mload 2 rfl rfl rfl rfl rfl rfl rfl ?_) | (refine j_kStore rfl ?_; first | refine j_storeN 0 rfl rfl rfl rfl rfl rfl rfl rfl rfl rfl rfl ?_) | refine j_build rfl rfl rfl rfl rfl rfl rfl ?_ | refine j_alloc rfl rfl rfl rfl rfl (fun _ => ?_))
      | refine j_nil ?_
      | (refine r_go ?_; first | refine run_seq ?_ | refine run_region ?_)
      | refine seqQ_normal ?_)
    rename_i b7
    refine j_kCall rfl rfl rfl rfl ?_
    refine jcp (_ :: _ :: _ :: _ :: F) (o_l06Objects s code a5 sd5 (1 + r) 2 (by omega) (by omega) (by omega)) (List.Perm.swap _ _ _) (LeL.refl _) rfl rfl (fun v h1 hR => ?_)
    obtain ⟨o1, bo1, co1, a6, sd6, rfl, ho1, hx1, ha6, rfl⟩ := hR
    repeat' (first
      | (refine j_go ?_; first
        | refine j_op0 rfl rfl rfl rfl ?_ | (refine j_kStore rfl ?_; first | refine j_store 2 rfl rfl rfl rfl rfl rfl rfl rfl rfl rfl rfl ?_))
      | refine j_nil ?_
      | (refine r_go ?_; first | refine run_seq ?_ | refine run_region ?_)
      | refine seqQ_normal ?_)
    refine j_view (view_cellF (k := 1) (b := some b7) (h1 := [lsB bo1 co1 o1]) (F := _ :: _ :: _ :: _ :: F) (List.perm_middle (l₁ := [_, _])) rfl (FrzF.flat (g := Go.AI.encI) (ys := o1) (z := 1) rfl rfl (fun _ => rfl) rfl rfl)) ?_
    repeat' (first
      | (refine j_go ?_; first
        | (refine j_kLoad rfl ?_; first | refine j_mload 2 rfl rfl rfl rfl rfl rfl rfl ?_)))
    refine j_kCall rfl rfl rfl rfl ?_
    refine jcp (_ :: _ :: _ :: _ :: F) (o_l06Objects s code a6 sd6 (1 + r) 2 (by omega) (by omega) (by omega)) (List.Perm.swap _ _ _) (LeL.refl _) rfl rfl (fun v h1 hR => ?_)
    obtain ⟨o2, bo2, co2, a7, sd7, rfl, ho2, hx2, ha7, rfl⟩ := hR
    repeat' (first
      | (refine j_go ?_; first
        | refine j_op0 rfl rfl rfl rfl ?_ | (refine j_kStore rfl ?_; first | refine j_store 2 rfl rfl rfl rfl rfl rfl rfl rfl rfl rfl rfl ?_))
      | refine j_nil ?_
      | (refine r_go ?_; first | refine run_seq ?_ | refine run_region ?_)
      | refine seqQ_normal ?_)
    refine j_view (view_cellF (k := 2) (b := some b7) (h1 := [lsB bo2 co2 o2]) (F := _ :: _ :: _ :: _ :: F) (List.perm_middle (l₁ := [_, _])) rfl (FrzF.flat (g := Go.AI.encI) (ys := o2) (z := 1) rfl rfl (fun _ => rfl) rfl rfl)) ?_
    have hf : (⟨1 + r, ps, fs, rs⟩ : Passing).Frame := ⟨by dsimp only; omega, by dsimp only; omega, hp.1, by dsimp only; omega, by dsimp only; omega, fun c hc h1 => hp.2 c hc h1⟩
    have fzr : Frz [⟨some b7, 80, 3, encPassRule ⟨r5, o1, o2⟩⟩, pasB bp [.int (1 + r), .sl (ps.map Go.AI.encI), .sl (fs.map encB), .os b rs.length cap], rsB b cap rs] (.os b rs.length cap) (.sl (rs.map encPassRule)) := Frz.mono (h' := [rsB b cap rs]) (fun k hk => by rw [List.mem_singleton] at hk; subst hk; exact List.mem_cons_of_mem _ (List.mem_cons_of_mem _ List.mem_cons_self)) (Frz.flat (g := encPassRule) (ys := rs) (z := 3) rfl rfl (fun _ => rfl) rfl rfl)
    refine j_kCall rfl rfl rfl rfl ?_
    refine jctq [⟨some b7, 80, 3, encPassRule ⟨r5, o1, o2⟩⟩, pasB bp [.int (1 + r), .sl (ps.map Go.AI.encI), .sl (fs.map encB), .os b rs.length cap], rsB b cap rs] (c_l06Rule ⟨1 + r, ps, fs, rs⟩ ⟨r5, o1, o2⟩ hf) (Clo.raw _) (fun k hk => ?_)
      (FrzL.cons (Frz.ptr (cs := [.int (1 + r), .sl (ps.map Go.AI.encI), .sl (fs.map encB), .os b rs.length cap]) (List.mem_cons_of_mem _ List.mem_cons_self) (FrzL.cons (Frz.same _ _) (FrzL.cons (Frz.same _ _) (FrzL.cons (Frz.same _ _) (FrzL.cons fzr (FrzL.nil _))))))
        (FrzL.cons (Frz.ptr (cs := encPassRule ⟨r5, o1, o2⟩) List.mem_cons_self (FrzL.cons (Frz.same _ _) (FrzL.cons (Frz.same _ _) (FrzL.cons (Frz.same _ _) (FrzL.nil _))))) (FrzL.nil _))) rfl rfl ?_
    · rcases List.mem_cons.1 hk with rfl | hk
      · exact List.mem_cons_self
      · exact List.mem_cons_of_mem _ (List.mem_cons_of_mem _ (by
          rcases List.mem_cons.1 hk with rfl | hk
          · exact List.mem_cons_self
          · rw [List.mem_singleton] at hk; subst hk; exact List.mem_cons_of_mem _ List.mem_cons_self))
    repeat' (first
      | (refine j_go ?_; first
        | refine j_op0 rfl rfl rfl rfl ?_ | (refine j_kBin rfl ?_; first | refine j_in rfl rfl ⟨by omega, by omega⟩ rfl rfl ?_) | (refine j_kLoad rfl ?_; first | refine j_mload 0 rfl rfl rfl rfl rfl rfl rfl ?_ | refine j_mload 2 rfl rfl rfl rfl rfl rfl rfl ?_) | (refine j_kBsl rfl ?_; first | refine j_bsl rfl rfl rfl rfl rfl rfl rfl rfl rfl rfl rfl ?_))
      | refine j_nil ?_
      | (refine r_go ?_; first | refine run_region ?_ | (refine (run_if rfl (fun hb => ?_) (fun hb => ?_)) <;> first | (exfalso; omega) | skip) | refine run_skip ?_)
      | refine seqQ_normal ?_ | refine blockQ_normal ?_)
    · have hR : (⟨1 + r, ps, fs, rs⟩ : Passing).RuleOk ⟨r5, o1, o2⟩ := by assumption
      refine j_append 3 (g := encPassRule) (ys := rs) [⟨r5, o1, o2⟩] rfl rfl rfl rfl rfl rfl rfl rfl rfl rfl rfl rfl (fun _ => rfl) (fun _ hy => by simp only [List.mem_singleton] at hy; subst hy; rfl) ⟨by simp only [List.length_cons, List.length_nil]; omega, by simp only [List.length_cons, List.length_nil]; omega⟩ rfl rfl (fun b' cap' => ?_)
      repeat' (first
      | (refine j_go ?_; first
        | refine j_op0 rfl rfl rfl rfl ?_ | (refine j_kBin rfl ?_; first | refine j_in rfl rfl ⟨by omega, by omega⟩ rfl rfl ?_) | (refine j_kStore rfl ?_; first | refine j_store 2 rfl rfl rfl rfl rfl rfl rfl rfl rfl rfl rfl ?_))
      | refine j_nil ?_
      | (refine r_go ?_; first | refine run_region ?_)
      | refine seqQ_normal ?_ | refine blockQ_normal ?_)
      have ln : (rs ++ [(⟨r5, o1, o2⟩ : PassRule)]).length = rs.length + 1 := by rw [List.length_append]; rfl
      exact loopQ_nextD (i - 1, rs ++ [⟨r5, o1, o2⟩], b', cap', a7, sd7) ⟨by dsimp only; omega, by dsimp only; omega, fun q h => by
        rcases List.mem_append.1 h with h | h
        · exact ⟨(hq q h).1, (hq q h).2⟩
        · rw [List.mem_singleton] at h; subst h; exact ⟨hR, hx1, hx2⟩, by dsimp only; omega⟩ (by dsimp only; omega) sub1 ⟨rfl, rfl, rfl, rfl, trivial⟩
    · exact loopQ_nextD (i - 1, rs, b, cap, a7, sd7) ⟨by dsimp only; omega, by dsimp only; omega, hq, by dsimp only; omega⟩ (by dsimp only; omega) sub1 ⟨rfl, rfl, rfl, rfl, trivial⟩
  obtain rfl : i = 0 := by omega
  refine run_view (view_cellF (k := 3) (b := some bp) (h1 := [rsB b cap rs]) (F := _ :: _ :: F) ((List.Perm.swap _ _ _).trans (List.Perm.cons _ (List.Perm.swap _ _ _))) rfl (FrzF.flat (g := encPassRule) (ys := rs) (z := 3) rfl rfl (fun _ => rfl) rfl rfl)) ?_
  repeat' (first
      | (refine j_go ?_; first
        | refine j_op0 rfl rfl rfl rfl ?_ | (refine j_kLoad rfl ?_; first | refine j_mload 0 rfl rfl rfl rfl rfl rfl rfl ?_) | (refine j_kStore rfl ?_; first | refine j_storeN 2 rfl rfl rfl rfl rfl rfl rfl rfl rfl rfl rfl ?_))
      | refine j_nil ?_
      | (refine r_go ?_; first | refine run_seq ?_ | refine run_region ?_ | (refine (run_if rfl (fun hb => ?_) (fun hb => ?_)) <;> first | (exfalso; omega) | skip) | refine run_ret ?_ | refine run_exit ?_)
      | refine seqQ_normal ?_ | refine seqQ_exit ?_ | refine blockQ_eq ?_ | refine loopQ_exit ?_)
  refine endD_view (view_sub (List.sublist_cons_self _ _)) (endD_view (view_perm (List.Perm.swap _ _ _)) ?_)
  exact endD_ret (h1 := [_, _]) rfl (.cons (.cellM (b := br) rfl List.mem_cons_self rfl) .nil) (Le.refl _) ⟨⟨1 + r, ps, fs, rs⟩, a, sd, _, ⟨⟨by dsimp only; omega, by dsimp only; omega, hp.1, by dsimp only; omega, by dsimp only; omega, fun c hc h1 => hp.2 c hc h1⟩, fun q h => (hq q h).1⟩, by dsimp only; omega, by dsimp only; omega, by dsimp only; omega, fun q h => (hq q h).2, rfl, by omega, rfl⟩ (.inl rfl)
end Go.Proofs.YtbpmmdecaonopaaGreat
