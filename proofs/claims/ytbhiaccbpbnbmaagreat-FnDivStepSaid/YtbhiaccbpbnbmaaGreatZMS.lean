/-
  Groups in memory of the call's own: stretches of them change places. No condition.
-/
import Derived.Test.YtbhiaccbpbnbmaaGreatZS3a
import Derived.Test.YtbhiaccbpbnbmaaGreatZE5
import Derived.Test.YtbhiaccbpbnbmaaGreatZP
namespace Go.Proofs.YtbhiaccbpbnbmaaGreat
open Go.AI
set_option maxRecDepth 8000
set_option maxHeartbeats 1600000

/-- A group whose contents lie in memory of the call's own. -/
structure Tri where
  g : Group
  b : Option Nat
  cap : Nat
def Tri.cs (t : Tri) : List A := [.int t.g.charge, .os t.b t.g.contents.length t.cap, .int t.g.count]
def Tri.blk (t : Tri) : Blk := ⟨t.b, 2, t.cap * 1, (t.g.contents.map Go.AI.encI).flatten⟩
abbrev grB (b : Nat) (cap : Nat) (L : List Tri) : Blk := ⟨some b, 54, cap * 3, (L.map Tri.cs).flatten⟩
section
variable {C : Cx} {n : Nat} {Q : Exit → Env → Heap → Prop} {e : Env} {h : Heap} {d : Bool} {l os : List Oper} {o : Oper} {f : Fl} {fs : List Fl} {B : List (Nat × Blk)}
/-- A group out of a list of the call's own. -/
theorem j_ldT (i m : Nat) {t : Tri} {L : List Tri} {T b p T' room dd : Nat} {x : Operand} (hw : wantE l e o = some true) (ho : o.op = .load T x) (hx : evO e x = some (.op (some b) p)) (hi : h[i]? = some ⟨some b, T', room, (L.map Tri.cs).flatten⟩)
    (hp : p = m * 3) (hm : m < L.length) (ht : L[m] = t) (hv : ∀ (t : Tri) rest, loadA C.ty T (t.cs ++ rest) = some (.agg t.cs)) (hd : o.dst = some dd) (hn : Nat.blt dd n = true) (hj : J d C n l os Q ((dd, .agg t.cs) :: e) h) : J d C n l (o :: os) Q e h :=
  j_mloadE i m (g := Tri.cs) (L := L) (z := 3) hw ho hx hi (fun _ => rfl) hp hm (fun rest => by rw [ht]; exact hv t rest) hd hn hj
theorem j_ldTO (i m : Nat) {t : Tri} {L : List Tri} {T b p T' room dd : Nat} {x : Operand} (hti : f.tight = true) (hw : wantE l e o = some true) (ho : o.op = .load T x) (hx : evO e x = some (.op (some b) p)) (hi : h[i]? = some ⟨some b, T', room, (L.map Tri.cs).flatten⟩)
    (hp : p = m * 3) (hm : m < L.length) (ht : L[m] = t) (hv : ∀ (t : Tri) rest, loadA C.ty T (t.cs ++ rest) = some (.agg t.cs)) (hd : o.dst = some dd) (hn : Nat.blt dd n = true) (hj : JO fs B C n l os Q ((dd, .agg t.cs) :: e) h) : JO (f :: fs) B C n l (o :: os) Q e h :=
  j_mloadEO i m (g := Tri.cs) (L := L) (z := 3) hti hw ho hx hi (fun _ => rfl) hp hm (fun rest => by rw [ht]; exact hv t rest) hd hn hj
end
theorem o_swapRange (b cap : Nat) (c : A) (U X M Y V : List Tri) (n N a1 a2 : Nat) (hx : X.length = n) (hy : Y.length = n) (hN : N = U.length + n + M.length + n + V.length) (h1 : a1 = U.length) (h2 : a2 = U.length + n + M.length) (hL : N ≤ 100000000) :
    Does Tryz.prog 118 [.os (some b) N cap, .int (a1 : Int), .int (a2 : Int), .int (n : Int), c] [grB b cap (U ++ X ++ M ++ Y ++ V)] (fun _ h' => h' = [grB b cap (U ++ Y ++ M ++ X ++ V)]) := by
  refine fn_of_runD tyOk ztOk mix Tryz.func118 rfl (by decide) Tryz.ntmps118 (fun w0 F => ?_)
  change Run _ _ _ _ _ (_ :: F)
  repeat' (first
      | (refine j_go ?_; first
        | refine j_op0 rfl rfl rfl rfl ?_)
      | refine j_nil ?_
      | (refine r_go ?_; first | refine run_seq ?_ | refine run_region ?_ | refine run_block ?_)
      | refine seqQ_normal ?_)
  refine run_loop (fun k : Nat => [(0, .os (some b) N cap), (1, .int (a1 : Int)), (2, .int (a2 : Int)), (3, .int (n : Int)), (10, .int (k : Int))]) (fun k => grB b cap (swK U X M Y V k) :: F) (fun k => k ≤ n) (fun k => n - k) 0 ⟨rfl, rfl, rfl, rfl, rfl, trivial⟩ (by rw [swK_zero]) (Nat.zero_le _) (fun k kl => ?_)
  by_cases hk : k < n
  · have sl := swK_len (U := U) (M := M) (V := V) hx hy kl
    have ex := swK_x (U := U) (M := M) (V := V) hx hy hk (by omega)
    have ey := swK_y (U := U) (M := M) (V := V) hx hy hk (by omega)
    have nx' := swK_next (U := U) (M := M) (V := V) hx hy hk
    repeat' (first
      | (refine j_go ?_; first
        | refine j_op0 rfl rfl rfl rfl ?_)
      | refine j_nil ?_
      | (refine j_goO ?_; first
        | refine j_op0O rfl rfl rfl rfl ?_ | (refine j_kIdxO rfl ?_; first | refine j_midxO rfl rfl rfl rfl rfl (by first | omega | (simp only [List.length_append, List.length_cons, List.length_nil]; omega)) rfl rfl ?_) | (refine j_kBinO rfl ?_; first | refine j_inO rfl rfl ⟨by omega, by omega⟩ rfl rfl ?_))
      | (refine r_go ?_; first | refine run_seq ?_ | refine run_region ?_ | (refine (run_if rfl (fun hb => ?_) (fun hb => ?_)) <;> first | (exfalso; omega) | skip) | refine run_block ?_ | refine run_skip ?_ | refine run_opn 3 [⟨0, true, false, 0⟩, ⟨1, true, false, 0⟩, ⟨2, true, false, 0⟩, ⟨3, true, false, 0⟩, ⟨4, false, false, 0⟩, ⟨5, false, false, 0⟩, ⟨6, false, false, 0⟩, ⟨7, false, false, 0⟩, ⟨8, true, false, 0⟩, ⟨9, true, false, 0⟩, ⟨10, true, false, 0⟩, ⟨11, true, false, 0⟩, ⟨12, true, false, 0⟩, ⟨13, true, false, 0⟩, ⟨14, true, false, 0⟩, ⟨15, true, false, 0⟩, ⟨16, true, false, 0⟩, ⟨17, true, false, 0⟩, ⟨18, true, false, 0⟩, ⟨19, true, false, 0⟩, ⟨20, true, false, 0⟩, ⟨21, false, true, 0⟩, ⟨22, true, false, 0⟩, ⟨23, false, true, 0⟩] rfl rfl (by kernel_rfl) ?_)
      | refine seqQ_normal ?_)
    refine j_ldTO 0 (U.length + n + M.length + k) (L := swK U X M Y V k) rfl rfl rfl rfl rfl (by omega) (by omega) ey (fun _ _ => loadSt rfl rfl) rfl rfl ?_
    repeat' (first
      | (refine j_goO ?_; first
        | refine j_op0O rfl rfl rfl rfl ?_ | (refine j_kIdxO rfl ?_; first | refine j_midxO rfl rfl rfl rfl rfl (by first | omega | (simp only [List.length_append, List.length_cons, List.length_nil]; omega)) rfl rfl ?_) | (refine j_kBinO rfl ?_; first | refine j_inO rfl rfl ⟨by omega, by omega⟩ rfl rfl ?_)))
    refine j_ldTO 0 (U.length + k) (L := swK U X M Y V k) rfl rfl rfl rfl rfl (by omega) (by omega) ex (fun _ _ => loadSt rfl rfl) rfl rfl ?_
    repeat' (first
      | (refine j_goO ?_; first
        | (refine j_kIdxO rfl ?_; first | refine j_midxO rfl rfl rfl rfl rfl (by first | omega | (simp only [List.length_append, List.length_cons, List.length_nil]; omega)) rfl rfl ?_)))
    refine j_storeEO 0 (U.length + k) (g := Tri.cs) (Y[k]'(by omega)) rfl rfl rfl rfl rfl rfl rfl rfl rfl rfl (fun _ => rfl) (by omega) (by omega) (fun _ hk => nomatch hk) ?_
    repeat' (first
      | (refine j_goO ?_; first
        | (refine j_kIdxO rfl ?_; first | refine j_midxO rfl rfl rfl rfl rfl (by first | omega | (simp only [List.length_append, List.length_cons, List.length_nil]; omega)) rfl rfl ?_)))
    refine j_storeEO 0 (U.length + n + M.length + k) (g := Tri.cs) (X[k]'(by omega)) rfl rfl rfl rfl rfl rfl rfl rfl rfl rfl (fun _ => rfl) (by omega) (by rw [List.length_set]; omega) (fun _ hk => nomatch hk) ?_
    rw [nx']
    repeat' (first
      | (refine j_go ?_; first
        | refine j_op0 rfl rfl rfl rfl ?_ | (refine j_kBin rfl ?_; first | refine j_in rfl rfl ⟨by omega, by omega⟩ rfl rfl ?_))
      | refine j_nil ?_
      | refine j_nilO ?_
      | (refine r_go ?_; first | refine run_region ?_)
      | refine seqQ_normal ?_ | refine blockQ_normal ?_)
    exact loopQ_next (k + 1) (by omega) (by omega) rfl ⟨rfl, rfl, rfl, rfl, nx _, trivial⟩
  · obtain rfl : k = n := by omega
    repeat' (first
      | (refine j_go ?_; first
        | refine j_op0 rfl rfl rfl rfl ?_)
      | refine j_nil ?_
      | (refine r_go ?_; first | refine run_seq ?_ | refine run_region ?_ | (refine (run_if rfl (fun hb => ?_) (fun hb => ?_)) <;> first | (exfalso; omega) | skip) | refine run_exit ?_)
      | refine seqQ_normal ?_ | refine seqQ_exit ?_ | refine blockQ_eq ?_ | refine loopQ_exit ?_)
    rw [swK_all hx hy]
    exact endD_ret (h1 := [_]) rfl .nil (Le.refl _) rfl (.inr rfl)
theorem o_rotate (b cap N m : Nat) (c : A) (hL : N ≤ 100000000) (P X Y S : List Tri) (hX : 0 < X.length) (hY : 0 < Y.length) (hm : P.length + X.length = m) (hN : P.length + X.length + Y.length + S.length = N) (a e : Nat) (ha : a = P.length) (he : e = m + Y.length) :
    Does Tryz.prog 107 [.os (some b) N cap, .int (a : Int), .int (m : Int), .int (e : Int), c] [grB b cap (P ++ X ++ Y ++ S)] (fun _ h' => h' = [grB b cap (P ++ Y ++ X ++ S)]) := by
  refine fn_of_runD tyOk ztOk mix Tryz.func107 rfl (by decide) Tryz.ntmps107 (fun w0 F => ?_)
  change Run _ _ _ _ _ (_ :: F)
  repeat' (first
      | (refine j_go ?_; first
        | refine j_op0 rfl rfl rfl rfl ?_ | (refine j_kBin rfl ?_; first | refine j_in rfl rfl ⟨by omega, by omega⟩ rfl rfl ?_))
      | refine j_nil ?_
      | (refine r_go ?_; first | refine run_seq ?_ | refine run_region ?_ | refine run_block ?_)
      | refine seqQ_normal ?_)
  refine run_loop (fun x : List Tri × List Tri × List Tri × List Tri => [(0, .os (some b) N cap), (2, .int (m : Int)), (4, c), (10, .int (x.2.1.length : Int)), (11, .int (x.2.2.1.length : Int))])
    (fun x => grB b cap (x.1 ++ x.2.1 ++ x.2.2.1 ++ x.2.2.2) :: F)
    (fun x => x.1 ++ x.2.2.1 ++ x.2.1 ++ x.2.2.2 = P ++ Y ++ X ++ S ∧ x.1.length + x.2.1.length = m ∧ 0 < x.2.1.length ∧ 0 < x.2.2.1.length ∧ x.1.length + x.2.1.length + x.2.2.1.length + x.2.2.2.length = N) (fun x => x.2.1.length + x.2.2.1.length) (P, X, Y, S)
    ⟨rfl, rfl, rfl, si (by dsimp only; omega), si (by dsimp only; omega), trivial⟩ rfl ⟨rfl, hm, hX, hY, hN⟩ (fun ⟨P', X', Y', S'⟩ ⟨q1, q2, q3, q4, q5⟩ => ?_)
  dsimp only at q1 q2 q3 q4 q5 ⊢
  repeat' (first
      | (refine j_go ?_; first
        | refine j_op0 rfl rfl rfl rfl ?_ | (refine j_kBin rfl ?_; first | refine j_in rfl rfl ⟨by omega, by omega⟩ rfl rfl ?_))
      | refine j_nil ?_
      | (refine r_go ?_; first | refine run_seq ?_ | refine run_region ?_ | (refine (run_if rfl (fun hb => ?_) (fun hb => ?_)) <;> first | (exfalso; omega) | skip) | (refine (run_ifn rfl (fun hb => ?_) (fun hb => ?_)) <;> first | (exfalso; omega) | skip) | refine run_block ?_ | refine run_exit ?_ | refine run_skip ?_)
      | refine seqQ_normal ?_ | refine seqQ_exit ?_ | refine blockQ_eq ?_ | refine loopQ_exit ?_)
  · have hgt : Y'.length < X'.length := by omega
    have lt1 : (X'.take Y'.length).length = Y'.length := by rw [List.length_take]; omega
    have ld1 : (X'.drop Y'.length).length = X'.length - Y'.length := List.length_drop
    have cS := o_swapRange b cap c P' (X'.take Y'.length) (X'.drop Y'.length) Y' S' Y'.length N (m - X'.length) m lt1 rfl (by omega) (by omega) (by omega) hL
    rw [List.append_assoc P', List.take_append_drop] at cS
    refine j_kCall rfl rfl rfl rfl ?_
    refine jcp F cS (List.Perm.refl _) (LeL.cons (Le.refl _) (LeL.cons (le_eqi (by omega)) (LeL.refl _))) rfl rfl (fun v h1 hR => ?_)
    subst hR
    repeat' (first
      | (refine j_go ?_; first
        | refine j_op0 rfl rfl rfl rfl ?_ | (refine j_kBin rfl ?_; first | refine j_in rfl rfl ⟨by omega, by omega⟩ rfl rfl ?_))
      | refine j_nil ?_
      | (refine r_go ?_; first | refine run_region ?_)
      | refine seqQ_normal ?_ | refine blockQ_normal ?_)
    exact loopQ_next (P' ++ Y', X'.drop Y'.length, X'.take Y'.length, S') ⟨by dsimp only; rw [← q1, List.append_assoc (P' ++ Y'), List.take_append_drop], by dsimp only; rw [List.length_append]; omega, by dsimp only; omega, by dsimp only; omega, by dsimp only; rw [List.length_append]; omega⟩ (by dsimp only; omega) rfl ⟨rfl, rfl, rfl, si (by dsimp only; omega), si (by dsimp only; omega), trivial⟩
  · have hlt : X'.length < Y'.length := by omega
    have lt1 : (Y'.take (Y'.length - X'.length)).length = Y'.length - X'.length := by rw [List.length_take]; omega
    have ld1 : (Y'.drop (Y'.length - X'.length)).length = X'.length := by rw [List.length_drop]; omega
    have cS := o_swapRange b cap c P' X' (Y'.take (Y'.length - X'.length)) (Y'.drop (Y'.length - X'.length)) S' X'.length N (m - X'.length) (m + Y'.length - X'.length) rfl ld1 (by omega) (by omega) (by omega) hL
    rw [List.append_assoc (P' ++ X'), List.take_append_drop] at cS
    refine j_kCall rfl rfl rfl rfl ?_
    refine jcp F cS (List.Perm.refl _) (LeL.cons (Le.refl _) (LeL.cons (le_eqi (by omega)) (LeL.cons (le_eqi (by omega)) (LeL.refl _)))) rfl rfl (fun v h1 hR => ?_)
    subst hR
    repeat' (first
      | (refine j_go ?_; first
        | refine j_op0 rfl rfl rfl rfl ?_ | (refine j_kBin rfl ?_; first | refine j_in rfl rfl ⟨by omega, by omega⟩ rfl rfl ?_))
      | refine j_nil ?_
      | (refine r_go ?_; first | refine run_region ?_)
      | refine seqQ_normal ?_ | refine blockQ_normal ?_)
    exact loopQ_next (P', Y'.drop (Y'.length - X'.length), Y'.take (Y'.length - X'.length), X' ++ S') ⟨by dsimp only; rw [← q1, List.append_assoc P' (Y'.take _), List.take_append_drop, List.append_assoc (P' ++ Y')], by dsimp only; omega, by dsimp only; omega, by dsimp only; omega, by dsimp only; rw [List.length_append]; omega⟩ (by dsimp only; omega) (by dsimp only; rw [← List.append_assoc]; rfl) ⟨rfl, rfl, rfl, si (by dsimp only; omega), si (by dsimp only; omega), trivial⟩
  · have heq : X'.length = Y'.length := by omega
    have cS := o_swapRange b cap c P' X' [] Y' S' X'.length N (m - X'.length) m rfl heq.symm (by simp only [List.length_nil]; omega) (by omega) (by simp only [List.length_nil]; omega) hL
    rw [List.append_nil, List.append_nil, q1] at cS
    refine j_kCall rfl rfl rfl rfl ?_
    refine jcp F cS (List.Perm.refl _) (LeL.cons (Le.refl _) (LeL.cons (le_eqi (by omega)) (LeL.refl _))) rfl rfl (fun v h1 hR => ?_)
    subst hR
    repeat' (first
      | refine j_nil ?_)
    exact endD_ret (h1 := [_]) rfl .nil (Le.refl _) rfl (.inr rfl)
end Go.Proofs.YtbhiaccbpbnbmaaGreat
