/-
  The law FnMoreObjects answers true whatever it reads. No condition.
-/
import Derived.Test.YtkjhciiblpolgaaZDJ
import Derived.Test.YtkjhciiblpolgaaZG2
import Derived.KernelRfl
namespace Go.Proofs.Ytkjhciiblpolgaa
open Go.AI
set_option maxRecDepth 8000
set_option maxHeartbeats 1600000

theorem flat_set {α : Type} {g : α → List A} {z : Nat} (hz : ∀ x, (g x).length = z) {j : Nat} (hj : j < z) (u : A) : ∀ (L : List α) (k : Nat) (hk : k < L.length), (L.map g).flatten.set (k * z + j) u = ((L.map g).set k ((g L[k]).set j u)).flatten
  | x :: L, 0, _ => by
    rw [Nat.zero_mul, Nat.zero_add, List.map_cons, List.flatten_cons, List.set_append_left _ _ (by rw [hz]; exact hj), List.set_cons_zero, List.flatten_cons]; rfl
  | x :: L, k + 1, hk => by
    have ih := flat_set hz hj u L k (by simpa using hk)
    rw [List.map_cons, List.flatten_cons, List.set_append_right _ _ (by rw [hz, Nat.add_mul]; omega), hz, show (k + 1) * z + j - z = k * z + j from by rw [Nat.add_mul]; omega, ih, List.set_cons_succ, List.flatten_cons]; rfl
theorem rule_set {L : List Rule} {k j : Nat} (hk : k < L.length) (hj : j < 9) {u : A} {r : Rule} (e : (encRule L[k]).set j u = encRule r) : (L.map encRule).flatten.set (k * 9 + j) u = ((L.set k r).map encRule).flatten := by
  rw [flat_set (g := encRule) (z := 9) (fun _ => rfl) hj u L k hk, e, List.map_set]
def rank0 (r : Rule) : Rule := { r with rank := 0 }
theorem sgl_flat (l : List A) : (l.map (fun a => [a])).flatten = l := by induction l with | nil => rfl | cons x l ih => rw [List.map_cons, List.flatten_cons, ih]; rfl
theorem set_lst (vs : List A) (x y : A) : ((vs ++ [x]).map (fun a => [a])).flatten.set vs.length y = ((vs ++ [y]).map (fun a => [a])).flatten := by
  rw [sgl_flat, sgl_flat]; simp
theorem get_lst (vs : List A) (x : A) : ((vs ++ [x]).map (fun a => [a])).flatten[vs.length]? = some x := by
  rw [sgl_flat]; simp
/-- The rules of which the first k are made easy. -/
def ezK (y : System) (k : Nat) : List Rule := (y.rules.take k).map (easyR y.kinds.toNat) ++ y.rules.drop k
theorem ezK_len (y : System) (k : Nat) : (ezK y k).length = y.rules.length := by
  unfold ezK; rw [List.length_append, List.length_map, List.length_take, List.length_drop]; omega
theorem ezK_at {y : System} {k : Nat} (h : k < y.rules.length) (h2 : k < (ezK y k).length) : (ezK y k)[k] = y.rules[k] := by
  have e : (ezK y k)[k]? = some y.rules[k] := by
    unfold ezK
    rw [List.getElem?_append_right (by rw [List.length_map, List.length_take]; omega), List.length_map, List.length_take, Nat.min_eq_left (Nat.le_of_lt h), Nat.sub_self, List.drop_eq_getElem_cons h]; rfl
  rw [List.getElem?_eq_getElem h2] at e
  exact Option.some.inj e
theorem ezK_set {y : System} {k : Nat} (h : k < y.rules.length) : (ezK y k).set k (easyR y.kinds.toNat y.rules[k]) = ezK y (k + 1) := by
  unfold ezK
  rw [List.set_append_right _ _ (by rw [List.length_map, List.length_take]; omega), List.length_map, List.length_take, Nat.min_eq_left (Nat.le_of_lt h), Nat.sub_self, List.drop_eq_getElem_cons h, List.set_cons_zero, List.take_succ_eq_append_getElem h, List.map_append, List.append_assoc]
  rfl
theorem ezK_all (y : System) : ezK y y.rules.length = y.easy.rules := by
  unfold ezK System.easy; simp
theorem c_FnMoreObjects (a0 a1 : List UInt8) : Gives Try.prog 3 [.sl (a0.map encY), .sl (a1.map encY)] (.raw (.bool true)) := by
  refine fn_of_run tyOk ztOk mix Try.func3 rfl (by decide) Try.ntmps3 (fun w0 h => ?_)
  repeat' (first
      | (refine j_go ?_; first
        | refine j_op0 rfl rfl rfl rfl ?_ | (refine j_kCall rfl rfl rfl rfl ?_; first | refine jc (c_a2Long _ _) (LeL.refl _) rfl rfl ?_))
      | refine j_nil ?_
      | (refine r_go ?_; first | refine run_seq ?_ | refine run_region ?_ | (refine (run_if rfl (fun hb => ?_) (fun hb => ?_)) <;> first | (exfalso; omega) | skip) | refine run_ret ?_ | refine run_skip ?_)
      | refine seqQ_normal ?_ | refine seqQ_ret ?_)
  · exact end1 rfl (List.Sublist.refl _) (rfl) (.inl rfl)
  refine j_kCall rfl rfl rfl rfl ?_
  refine jcp _ (o_A2System a0) (List.Perm.refl _) (LeL.refl _) rfl rfl (fun v h1 hR => ?_)
  obtain ⟨y, t, b, cap, k1, k2, hy, y1, y2, y3, ht, ht5, rfl, rfl⟩ := hR
  repeat' (first
      | (refine j_go ?_; first
        | refine j_op0 rfl rfl rfl rfl ?_ | (refine j_kStore rfl ?_; first | refine j_storeN 0 rfl rfl rfl rfl rfl rfl rfl rfl rfl rfl rfl ?_ | refine j_storeN 1 rfl rfl rfl rfl rfl rfl rfl rfl rfl rfl rfl ?_) | refine j_alloc rfl rfl rfl rfl rfl (fun _ => ?_))
      | refine j_nil ?_
      | (refine r_go ?_; first | refine run_seq ?_ | refine run_region ?_ | refine run_block ?_)
      | refine seqQ_normal ?_)
  rename_i b5 b6
  refine run_view (view_freezeP 0 6 rfl rfl) ?_
  refine run_view (view_sub (((List.sublist_append_right [k1, k2] h).cons_cons _).cons_cons _)) ?_
  obtain ⟨K, hK⟩ : ∃ K : Nat, y.kinds = (K : Int) := ⟨y.kinds.toNat, by have := hy.1.1; omega⟩
  refine run_loop (fun k : Nat => [(1, .sl (a1.map encY)), (5, .op (some b5) 0), (6, .ip (encState t)), (7, .int (k : Int))])
    (fun k => sysB b5 [.int y.kinds, .sl (y.parents.map Go.AI.encI), .os b y.rules.length cap] :: rlB b cap (ezK y k) :: h) (fun k => k ≤ y.rules.length) (fun k => y.rules.length - k) 0 ⟨rfl, rfl, rfl, rfl, trivial⟩ rfl (Nat.zero_le _) (fun k kl => ?_)
  by_cases hk : k < y.rules.length
  case pos =>
    have hkl : k < (ezK y k).length := by rw [ezK_len]; exact hk
    have fl := flat_len (f := encRule) (z := 9) (fun _ => rfl) (ezK y k)
    rw [ezK_len] at fl
    have b9 : (k + 1) * 9 ≤ y.rules.length * 9 := Nat.mul_le_mul_right 9 hk
    repeat' (first
      | (refine j_go ?_; first
        | refine j_op0 rfl rfl rfl rfl ?_ | (refine j_kLen rfl ?_; first | refine j_op rfl rfl rfl rfl ?_) | (refine j_kLoad rfl ?_; first | refine j_mload 0 rfl rfl rfl rfl rfl rfl rfl ?_))
      | refine j_nil ?_
      | (refine r_go ?_; first | refine run_seq ?_ | refine run_region ?_ | (refine (run_if rfl (fun hb => ?_) (fun hb => ?_)) <;> first | (exfalso; omega) | skip) | refine run_block ?_ | refine run_skip ?_)
      | refine seqQ_normal ?_)
    refine j_some 1 rfl (fun q => by rw [q] at fl; simp at fl; omega) (fun bq hbq => ?_)
    subst hbq
    repeat' (first
      | (refine j_go ?_; first
        | refine j_op0 rfl rfl rfl rfl ?_ | (refine j_kIdx rfl ?_; first | refine j_midx rfl rfl rfl rfl rfl (by first | omega | (simp only [List.length_append, List.length_cons, List.length_nil]; omega)) rfl rfl ?_)))
    refine j_store 1 (p := k * 9 + 1) rfl rfl rfl rfl rfl rfl rfl rfl rfl rfl (Nat.ble_eq_true_of_le (by rw [fl]; omega)) ?_
    rw [rule_set (r := rank0 (ezK y k)[k]) hkl (by omega) rfl, ezK_at hk]
    have hks : k < ((ezK y k).set k (rank0 y.rules[k])).length := by rw [List.length_set]; exact hkl
    repeat' (first
      | refine j_nil ?_
      | (refine j_goO ?_; first
        | refine j_op0O rfl rfl rfl rfl ?_ | (refine j_kLoadO rfl ?_; first | refine j_mloadO 0 rfl rfl rfl rfl rfl rfl rfl rfl ?_))
      | (refine r_go ?_; first | refine run_opn 8 [⟨0, true, false, 0⟩, ⟨1, true, false, 0⟩, ⟨2, true, false, 0⟩, ⟨3, true, false, 0⟩, ⟨4, true, false, 0⟩, ⟨5, true, false, 0⟩, ⟨6, true, false, 0⟩, ⟨7, true, false, 0⟩, ⟨8, false, true, 0⟩] rfl rfl (by kernel_rfl) ?_)
      | refine seqQ_normal ?_)
    refine j_makeQO K rfl rfl rfl (by rw [← hK]; rfl) (by rw [← hK]; rfl) rfl (by have := hy.1.1; omega) rfl rfl ?_
    repeat' (first
      | (refine j_goO ?_; first
        | refine j_op0O rfl rfl rfl rfl ?_ | (refine j_kIdxO rfl ?_; first | refine j_midxO rfl rfl rfl rfl rfl (by first | omega | (simp only [List.length_append, List.length_cons, List.length_nil]; omega)) rfl rfl ?_)))
    have fl2 := flat_len (f := encRule) (z := 9) (fun _ => rfl) ((ezK y k).set k (rank0 y.rules[k]))
    rw [List.length_set, ezK_len] at fl2
    refine j_storeO 1 (p := k * 9 + 4) (sz := 1) rfl rfl rfl rfl rfl rfl rfl rfl rfl rfl rfl (Nat.ble_eq_true_of_le (by rw [fl2]; omega)) (fun _ hk => nomatch hk) ?_
    rw [rule_set (r := easyR y.kinds.toNat y.rules[k]) hks (by omega) (by rw [List.getElem_set_self, show K = y.kinds.toNat from by omega]; rfl), show ((ezK y k).set k (rank0 y.rules[k])).set k (easyR y.kinds.toNat y.rules[k]) = ezK y (k + 1) from by rw [List.set_set, ezK_set hk]]
    repeat' (first
      | (refine j_go ?_; first
        | refine j_op0 rfl rfl rfl rfl ?_ | (refine j_kBin rfl ?_; first | refine j_in rfl rfl ⟨by omega, by omega⟩ rfl rfl ?_))
      | refine j_nil ?_
      | refine j_nilO ?_
      | (refine r_go ?_; first | refine run_region ?_)
      | refine seqQ_normal ?_ | refine blockQ_normal ?_)
    exact loopQ_next (k + 1) (by omega) (by omega) rfl ⟨rfl, rfl, rfl, nx _, trivial⟩
  obtain rfl : k = y.rules.length := by omega
  rw [ezK_all]
  have hel : y.easy.rules.length = y.rules.length := by unfold System.easy; rw [List.length_map]
  have hz : y.easy.Ok := hy.easy
  have htz : y.easy.StateOk t := ht
  refine run_view (view_cellF (k := 2) (b := some b5) (h1 := [rlB b cap y.easy.rules]) (F := h) (List.Perm.refl _) rfl (FrzF.flat (g := encRule) (ys := y.easy.rules) (z := 9) hel.symm rfl (fun _ => rfl) rfl rfl)) ?_
  refine run_view (view_freezeP 0 5 rfl rfl) ?_
  change Run _ _ _ _ ((5, .ip (encSystem y.easy)) :: _) h
  have hze := System.easy_easy y
  generalize y.easy = z at hel hz htz hze
  repeat' (first
      | (refine j_go ?_; first
        | refine j_op0 rfl rfl rfl rfl ?_ | (refine j_kLen rfl ?_; first | refine j_len rfl rfl rfl rfl rfl rfl ?_))
      | refine j_nil ?_
      | (refine r_go ?_; first | refine run_seq ?_ | refine run_region ?_ | (refine (run_if rfl (fun hb => ?_) (fun hb => ?_)) <;> first | (exfalso; omega) | skip) | refine run_exit ?_)
      | refine seqQ_normal ?_ | refine seqQ_exit ?_ | refine blockQ_eq ?_ | refine loopQ_exit ?_)
  refine j_kCall rfl rfl rfl rfl ?_
  refine jcp _ (o_A2Counts a1 z.rules.length (by omega)) (List.Perm.refl _) (LeL.refl _) rfl rfl (fun v h1 hR => ?_)
  obtain ⟨cs, bc, cc, kc, rfl, hcl, hc2, rfl⟩ := hR
  repeat' (first
      | (refine j_go ?_; first
        | refine j_op0 rfl rfl rfl rfl ?_ | (refine j_kStore rfl ?_; first | refine j_storeN 0 rfl rfl rfl rfl rfl rfl rfl rfl rfl rfl rfl ?_) | refine j_build rfl rfl rfl rfl rfl rfl rfl ?_ | refine j_alloc rfl rfl rfl rfl rfl (fun _ => ?_))
      | refine j_nil ?_
      | (refine r_go ?_; first | refine run_seq ?_ | refine run_region ?_ | refine run_block ?_)
      | refine seqQ_normal ?_)
  rename_i b9
  refine run_view (view_freeze 1 8 (ys := cs) (g := Go.AI.encI) (z := 1) rfl rfl rfl (fun _ => rfl) rfl rfl) ?_
  refine run_view (view_none 24 (0 * 1) rfl) ?_
  refine run_view (view_sub (((List.sublist_cons_self _ _).cons_cons _).cons_cons _)) ?_
  refine run_view (view_perm (List.Perm.swap _ _ _)) ?_
  have tb := htz.2.1
  have ta := htz.1
  have zp := hz.1.2.1
  refine run_loop (fun x : Nat × List (List Int) × Option Nat × Nat => [(1, .sl (a1.map encY)), (5, .ip (encSystem z)), (6, .ip (encState t)), (8, .sl (cs.map Go.AI.encI)), (9, .op (some b9) 0), (10, .int (x.1 : Int))])
    (fun x => stB b9 [.sl (t.alive.map encB), .os x.2.2.1 x.2.1.length x.2.2.2, .sl (t.around.map Go.AI.encI)] :: vB x.2.2.1 x.2.2.2 x.2.1 :: h)
    (fun x => x.1 ≤ t.bags.length ∧ x.2.1.length = x.1 ∧ ∀ i (h : i < t.bags.length) (h2 : i < x.2.1.length), Big t.bags[i] x.2.1[i] ∧ z.CellOk t.alive[i]? x.2.1[i]) (fun x => t.bags.length - x.1) (0, [], none, 0) ⟨rfl, rfl, rfl, rfl, rfl, rfl, trivial⟩ rfl ⟨Nat.zero_le _, rfl, fun i _ h => absurd h (Nat.not_lt_zero _)⟩ (fun ⟨c, L, b, cap⟩ ⟨kl, hLl, hLb⟩ => ?_)
  dsimp only at kl hLl hLb ⊢
  by_cases hc : c < t.bags.length
  case pos =>
    have hca : c < t.alive.length := by omega
    have bg := (htz.2.2.2.2 c hc).1
    have bl := bg.1.2.2
    repeat' (first
      | (refine j_go ?_; first
        | refine j_op0 rfl rfl rfl rfl ?_ | (refine j_kIdx rfl ?_; first | refine j_idx rfl rfl rfl rfl rfl (by omega) rfl rfl rfl ?_) | (refine j_kLen rfl ?_; first | refine j_len rfl rfl rfl rfl rfl rfl ?_) | (refine j_kBsl rfl ?_; first | refine j_bs0 rfl rfl rfl rfl rfl rfl ?_))
      | refine j_nil ?_
      | (refine r_go ?_; first | refine run_seq ?_ | refine run_region ?_ | (refine (run_if rfl (fun hb => ?_) (fun hb => ?_)) <;> first | (exfalso; omega) | skip) | refine run_block ?_ | refine run_skip ?_)
      | refine seqQ_normal ?_)
    refine j_append0 (g := Go.AI.encI) t.bags[c] rfl rfl rfl rfl rfl rfl rfl rfl (fun _ => rfl) (fun _ _ => rfl) ⟨by omega, by omega⟩ rfl rfl (fun bb cb => ?_)
    refine j_some 0 rfl (fun q => by have := flat_len (f := Go.AI.encI) (z := 1) (fun _ => rfl) t.bags[c]; rw [q] at this; simp at this; have := bg.1.2.1; omega) (fun bq hbq => ?_)
    subst hbq
    have zk := hz.1.1
    have j0 := a2AtF_bnd a1 c (n := z.kinds) (by omega)
    have m0 := a2AtF_bnd a1 (c + 4) (n := 4) (by omega)
    have bgl := bg.2
    repeat' (first
      | (refine j_go ?_; first
        | refine j_op0 rfl rfl rfl rfl ?_ | (refine j_kIdx rfl ?_; first | refine j_idx rfl rfl rfl rfl rfl (by omega) rfl rfl rfl ?_) | (refine j_kLoad rfl ?_; first | refine j_mload 1 rfl rfl rfl rfl rfl rfl rfl ?_) | (refine j_kBsl rfl ?_; first | refine j_bsl rfl rfl rfl rfl rfl rfl rfl rfl rfl rfl rfl ?_))
      | refine j_nil ?_
      | (refine j_goO ?_; first
        | refine j_op0O rfl rfl rfl rfl ?_ | (refine j_kIdxO rfl ?_; first | refine j_midxzO rfl rfl rfl rfl rfl (by first | omega | (simp only [List.length_append, List.length_cons, List.length_nil]; omega)) rfl rfl ?_) | (refine j_kCallO rfl rfl rfl rfl ?_; first | refine jcO (c_a2At a1 c z.kinds (by omega)) (LeL.refl _) rfl rfl ?_))
      | (refine r_go ?_; first | refine run_seq ?_ | refine run_region ?_ | refine run_skip ?_ | refine run_opn 16 [⟨0, true, false, 0⟩, ⟨1, true, false, 0⟩, ⟨2, true, false, 0⟩, ⟨3, true, false, 0⟩, ⟨4, true, false, 0⟩, ⟨5, true, false, 0⟩, ⟨6, true, false, 0⟩, ⟨7, true, false, 0⟩, ⟨8, true, false, 0⟩, ⟨9, true, false, 0⟩, ⟨10, true, false, 0⟩, ⟨11, true, false, 0⟩, ⟨12, true, false, 0⟩, ⟨13, true, false, 0⟩, ⟨14, false, true, 0⟩] rfl rfl (by kernel_rfl) ?_ | refine run_cond rfl (fun hb => ?_) (fun hb => ?_))
      | refine seqQ_normal ?_)
    · have hj3 : (a2AtF a1 c z.kinds).toNat < t.bags[c].length := by omega
      have h5 := ht5 _ (List.getElem_mem hc) _ (List.getElem_mem hj3)
      have h00 := (bg.1.1 _ (List.getElem_mem hj3)).1
      refine j_mloadEO 0 (a2AtF a1 c z.kinds).toNat (g := Go.AI.encI) (L := t.bags[c]) (z := 1) rfl rfl rfl rfl rfl (fun _ => rfl) (by omega) hj3 (fun _ => rfl) rfl rfl ?_
      repeat' (first
      | (refine j_goO ?_; first
        | refine j_op0O rfl rfl rfl rfl ?_ | (refine j_kIdxO rfl ?_; first | refine j_midxzO rfl rfl rfl rfl rfl (by first | omega | (simp only [List.length_append, List.length_cons, List.length_nil]; omega)) rfl rfl ?_) | (refine j_kBinO rfl ?_; first | refine j_inO rfl rfl ⟨by omega, by omega⟩ rfl rfl ?_) | (refine j_kCallO rfl rfl rfl rfl ?_; first | refine jcO (c_a2At a1 (c + 4) 4 (by omega)) (LeL.refl _) rfl rfl ?_)))
      refine j_storeEO 0 (a2AtF a1 c z.kinds).toNat (g := Go.AI.encI) (t.bags[c][(a2AtF a1 c z.kinds).toNat]'hj3 + a2AtF a1 (c + 4) 4) rfl rfl rfl rfl rfl rfl rfl rfl rfl rfl (fun _ => rfl) (by omega) hj3 (fun _ hk => nomatch hk) ?_
      repeat' (first
      | (refine j_go ?_; first
        | refine j_op0 rfl rfl rfl rfl ?_ | (refine j_kLoad rfl ?_; first | refine j_mload 1 rfl rfl rfl rfl rfl rfl rfl ?_) | (refine j_kBsl rfl ?_; first | refine j_bsl rfl rfl rfl rfl rfl rfl rfl rfl rfl rfl rfl ?_))
      | refine j_nilO ?_
      | (refine r_go ?_; first | refine run_region ?_)
      | refine seqQ_normal ?_)
      refine j_append 2 (g := fun a => [a]) (ys := L.map slI) [A.os (some bq) t.bags[c].length cb] rfl rfl rfl rfl rfl rfl rfl rfl rfl rfl (by rw [List.length_map]) rfl (fun _ => rfl) (fun _ hy => by simp only [List.mem_singleton] at hy; subst hy; rfl) ⟨by simp only [List.length_map, List.length_cons, List.length_nil]; omega, by simp only [List.length_map, List.length_cons, List.length_nil]; omega⟩ rfl rfl (fun b' cap' => ?_)
      repeat' (first
      | (refine j_go ?_; first
        | refine j_op0 rfl rfl rfl rfl ?_ | (refine j_kBin rfl ?_; first | refine j_in rfl rfl ⟨by omega, by omega⟩ rfl rfl ?_) | (refine j_kStore rfl ?_; first | refine j_store 1 rfl rfl rfl rfl rfl rfl rfl rfl rfl rfl rfl ?_))
      | refine j_nil ?_
      | (refine r_go ?_; first | refine run_region ?_)
      | refine seqQ_normal ?_ | refine blockQ_normal ?_)
      have e1 : (L.map slI ++ [A.os (some bq) t.bags[c].length cb]).length = (L ++ [t.bags[c].set (a2AtF a1 c z.kinds).toNat (t.bags[c][(a2AtF a1 c z.kinds).toNat]'hj3 + a2AtF a1 (c + 4) 4)]).length := by simp
      refine loopQ_view (view_cellF (k := (L.map slI).length) (b := b') (h1 := [lsI 2 (some bq) cb (t.bags[c].set (a2AtF a1 c z.kinds).toNat (t.bags[c][(a2AtF a1 c z.kinds).toNat]'hj3 + a2AtF a1 (c + 4) 4))]) (F := _ :: h) (List.perm_middle (l₁ := [_, _])) (get_lst (L.map slI) _) (FrzF.flat (g := Go.AI.encI) (ys := t.bags[c].set (a2AtF a1 c z.kinds).toNat (t.bags[c][(a2AtF a1 c z.kinds).toNat]'hj3 + a2AtF a1 (c + 4) 4)) (z := 1) List.length_set.symm rfl (fun _ => rfl) rfl rfl)) ?_
      refine loopQ_view (view_perm (List.Perm.swap _ _ _)) ?_
      rw [show A.sl ((t.bags[c].set (a2AtF a1 c z.kinds).toNat (t.bags[c][(a2AtF a1 c z.kinds).toNat]'hj3 + a2AtF a1 (c + 4) 4)).map Go.AI.encI) = slI (t.bags[c].set (a2AtF a1 c z.kinds).toNat (t.bags[c][(a2AtF a1 c z.kinds).toNat]'hj3 + a2AtF a1 (c + 4) 4)) from rfl, set_lst, row_snoc, e1]
      exact loopQ_next (c + 1, L ++ [t.bags[c].set (a2AtF a1 c z.kinds).toNat (t.bags[c][(a2AtF a1 c z.kinds).toNat]'hj3 + a2AtF a1 (c + 4) 4)], b', cap') ⟨by dsimp only; omega, by dsimp only; rw [List.length_append, hLl]; rfl, fun i h1 h2 => by
        dsimp only at h2 ⊢
        rw [List.length_append, List.length_singleton] at h2
        by_cases q : i < L.length
        · rw [List.getElem_append_left q]; exact hLb i h1 q
        · have e : i = c := by omega
          subst e
          rw [List.getElem_append_right (by omega)]
          simp only [hLl, Nat.sub_self, List.getElem_cons_zero]
          exact ⟨big_set hj3 m0.1, bagK_set bg hj3 m0.1 (by omega), .inl (al_t (by assumption))⟩⟩ (by dsimp only; omega) rfl ⟨rfl, rfl, rfl, rfl, rfl, nx _, trivial⟩
    · refine j_append 2 (g := fun a => [a]) (ys := L.map slI) [A.os (some bq) t.bags[c].length cb] rfl rfl rfl rfl rfl rfl rfl rfl rfl rfl (by rw [List.length_map]) rfl (fun _ => rfl) (fun _ hy => by simp only [List.mem_singleton] at hy; subst hy; rfl) ⟨by simp only [List.length_map, List.length_cons, List.length_nil]; omega, by simp only [List.length_map, List.length_cons, List.length_nil]; omega⟩ rfl rfl (fun b' cap' => ?_)
      repeat' (first
      | (refine j_go ?_; first
        | refine j_op0 rfl rfl rfl rfl ?_ | (refine j_kBin rfl ?_; first | refine j_in rfl rfl ⟨by omega, by omega⟩ rfl rfl ?_) | (refine j_kStore rfl ?_; first | refine j_store 1 rfl rfl rfl rfl rfl rfl rfl rfl rfl rfl rfl ?_))
      | refine j_nil ?_
      | (refine r_go ?_; first | refine run_region ?_)
      | refine seqQ_normal ?_ | refine blockQ_normal ?_)
      have e1 : (L.map slI ++ [A.os (some bq) t.bags[c].length cb]).length = (L ++ [t.bags[c]]).length := by simp
      refine loopQ_view (view_cellF (k := (L.map slI).length) (b := b') (h1 := [lsI 2 (some bq) cb (t.bags[c])]) (F := _ :: h) (List.perm_middle (l₁ := [_, _])) (get_lst (L.map slI) _) (FrzF.flat (g := Go.AI.encI) (ys := t.bags[c]) (z := 1) rfl rfl (fun _ => rfl) rfl rfl)) ?_
      refine loopQ_view (view_perm (List.Perm.swap _ _ _)) ?_
      rw [show A.sl ((t.bags[c]).map Go.AI.encI) = slI (t.bags[c]) from rfl, set_lst, row_snoc, e1]
      exact loopQ_next (c + 1, L ++ [t.bags[c]], b', cap') ⟨by dsimp only; omega, by dsimp only; rw [List.length_append, hLl]; rfl, fun i h1 h2 => by
        dsimp only at h2 ⊢
        rw [List.length_append, List.length_singleton] at h2
        by_cases q : i < L.length
        · rw [List.getElem_append_left q]; exact hLb i h1 q
        · have e : i = c := by omega
          subst e
          rw [List.getElem_append_right (by omega)]
          simp only [hLl, Nat.sub_self, List.getElem_cons_zero]
          exact ⟨Big.refl _, htz.2.2.2.2 _ h1⟩⟩ (by dsimp only; omega) rfl ⟨rfl, rfl, rfl, rfl, rfl, nx _, trivial⟩
  obtain rfl : c = t.bags.length := by omega
  refine run_view (view_cellF (k := 1) (b := some b9) (h1 := [vB b cap L]) (F := h) (List.Perm.refl _) rfl (FrzF.flat (g := encS Go.AI.encI) (ys := L) (z := 1) rfl (by rw [List.map_map]; rfl) (fun _ => rfl) rfl rfl)) ?_
  refine run_view (view_freezeP 0 9 rfl rfl) ?_
  obtain ⟨hus, hmo⟩ := more_state htz hLl hLb
  change Run _ _ _ _ ((9, .ip (encState ⟨t.alive, L, t.around⟩)) :: _) h
  generalize (⟨t.alive, L, t.around⟩ : State) = u at hus hmo
  have hcn : Cnts z cs := ⟨fun x hx => by have := hc2 x hx; omega, by omega⟩
  have dI : ∀ s, z.StateOk s → dec ((z.WP s ∧ Cnts z cs) ∧ Ch z s cs) = dec (Ch z s cs) := fun s hs => dec_congr ⟨fun q => q.2, fun q => ⟨⟨⟨hz, hs⟩, hcn⟩, q⟩⟩
  have eA : ∀ s, z.StateOk s → resApplicableRules z s = idxL z s z.rules.length ∧ codeApplicableRules z s = 0 := fun s hs => by
    unfold resApplicableRules codeApplicableRules lsP cdP
    rw [if_pos ⟨hz, hs⟩, if_pos ⟨hz, hs⟩]; exact ⟨rfl, rfl⟩
  have i1 := c_iIsChoice z t cs
  rw [dI t htz, cd2_o ⟨hz, htz⟩ hcn] at i1
  have i2 := c_iIsChoice z u cs
  rw [dI u hus, cd2_o ⟨hz, hus⟩ hcn] at i2
  have p1 := c_iAppF z t
  rw [(eA t htz).1, (eA t htz).2] at p1
  have p2 := c_iAppF z u
  rw [(eA u hus).1, (eA u hus).2] at p2
  have p3 := c_sApplicableRules z t
  rw [(eA t htz).1, (eA t htz).2] at p3
  have hch : Ch z t cs → Ch z u cs := fun q => q.more hmo hze
  have hin := fun x (hx : x ∈ idxL z t z.rules.length) => idxL_more hmo hze hx
  have l1 := idxL_len z t z.rules.length
  have l2 := idxL_len z u z.rules.length
  have z16 := hz.2.1
  generalize idxL z t z.rules.length = L1 at p1 p3 hin l1
  generalize idxL z u z.rules.length = L2 at p2 hin l2
  repeat' (first
      | (refine j_go ?_; first
        | refine j_op0 rfl rfl rfl rfl ?_ | refine j_off rfl rfl rfl ?_ | (refine j_kLen rfl ?_; first | refine j_len rfl rfl rfl rfl rfl rfl ?_) | (refine j_kCall rfl rfl rfl rfl ?_; first | refine jc (i1) (LeL.refl _) rfl rfl ?_ | refine jc (i2) (LeL.refl _) rfl rfl ?_ | refine jc (p1) (LeL.refl _) rfl rfl ?_ | refine jc (p2) (LeL.refl _) rfl rfl ?_ | refine jc (p3) (LeL.refl _) rfl rfl ?_) | (refine j_kGuard rfl ?_; first | (refine (j_if rfl rfl rfl (fun hb => ?_) (fun hb => ?_)) <;> first | (exfalso; omega) | skip) | (refine (j_ifn rfl rfl rfl (fun hb => ?_) (fun hb => ?_)) <;> first | (exfalso; omega) | skip)))
      | refine j_nil ?_
      | (refine r_go ?_; first | refine run_seq ?_ | refine run_region ?_ | refine run_cond_t rfl ?_ | (refine (run_if rfl (fun hb => ?_) (fun hb => ?_)) <;> first | (exfalso; omega) | skip) | (refine (run_ifn rfl (fun hb => ?_) (fun hb => ?_)) <;> first | (exfalso; omega) | skip) | refine run_block ?_ | refine run_ret ?_ | refine run_exit ?_ | refine run_skip ?_)
      | refine seqQ_normal ?_ | refine seqQ_ret ?_ | refine seqQ_exit ?_ | refine blockQ_eq ?_ | refine loopQ_exit ?_)
  all_goals try first | exact absurd rfl hb | exact absurd (hch (by assumption)) hb
  · refine run_loop (fun k : Nat => [(16, .sl (L1.map Go.AI.encI)), (18, .sl (L2.map Go.AI.encI)), (22, .int (k : Int))]) (fun _ => _) (fun k => k ≤ L1.length ∧ (True)) (fun k => L1.length - k) 0 ⟨rfl, rfl, rfl, trivial⟩ rfl ⟨Nat.zero_le _, by first | (intros; omega) | (simp; done) | rfl | trivial | exact ⟨by simp [sumF], by intros; omega⟩ | exact ⟨by omega, by simp⟩⟩ (fun k ⟨kl, kp⟩ => ?_)
    by_cases hk : k < L1.length
    · have hi2 := hin _ (List.getElem_mem hk)
      repeat' (first
      | (refine j_go ?_; first
        | refine j_op0 rfl rfl rfl rfl ?_ | (refine j_kIdx rfl ?_; first | refine j_idx rfl rfl rfl rfl rfl (by omega) rfl rfl rfl ?_) | (refine j_kBin rfl ?_; first | refine j_in rfl rfl ⟨by omega, by omega⟩ rfl rfl ?_) | (refine j_kLen rfl ?_; first | refine j_len rfl rfl rfl rfl rfl rfl ?_) | (refine j_kCall rfl rfl rfl rfl ?_; first | refine jc (c_a2Kid _ _ (by omega)) (LeL.refl _) rfl rfl ?_))
      | refine j_nil ?_
      | (refine r_go ?_; first | refine run_seq ?_ | refine run_region ?_ | (refine (run_if rfl (fun hb => ?_) (fun hb => ?_)) <;> first | (exfalso; omega) | skip) | (refine (run_ifn rfl (fun hb => ?_) (fun hb => ?_)) <;> first | (exfalso; omega) | skip) | refine run_block ?_ | refine run_ret ?_ | refine run_skip ?_)
      | refine seqQ_normal ?_ | refine seqQ_ret ?_ | refine blockQ_normal ?_ | refine blockQ_ret ?_ | refine loopQ_ret ?_)
      all_goals first
        | exact absurd hi2 hb
        | exact loopQ_nextD (k + 1) ⟨by omega, trivial⟩ (by omega) (by first | exact List.Sublist.refl _ | exact sub1 | exact sub2 | exact sub3) ⟨rfl, rfl, nx _, trivial⟩
        | trace_state
    · repeat' (first
      | (refine j_go ?_; first
        | refine j_op0 rfl rfl rfl rfl ?_ | (refine j_kLen rfl ?_; first | refine j_len rfl rfl rfl rfl rfl rfl ?_))
      | refine j_nil ?_
      | (refine r_go ?_; first | refine run_seq ?_ | refine run_region ?_ | (refine (run_if rfl (fun hb => ?_) (fun hb => ?_)) <;> first | (exfalso; omega) | skip) | refine run_ret ?_ | refine run_exit ?_)
      | refine seqQ_normal ?_ | refine seqQ_exit ?_ | refine blockQ_eq ?_ | refine loopQ_exit ?_)
      exact end1 rfl (List.Sublist.refl _) (rfl) (.inl rfl)
  · refine run_loop (fun k : Nat => [(16, .sl (L1.map Go.AI.encI)), (18, .sl (L2.map Go.AI.encI)), (22, .int (k : Int))]) (fun _ => _) (fun k => k ≤ L1.length ∧ (True)) (fun k => L1.length - k) 0 ⟨rfl, rfl, rfl, trivial⟩ rfl ⟨Nat.zero_le _, by first | (intros; omega) | (simp; done) | rfl | trivial | exact ⟨by simp [sumF], by intros; omega⟩ | exact ⟨by omega, by simp⟩⟩ (fun k ⟨kl, kp⟩ => ?_)
    by_cases hk : k < L1.length
    · have hi2 := hin _ (List.getElem_mem hk)
      repeat' (first
      | (refine j_go ?_; first
        | refine j_op0 rfl rfl rfl rfl ?_ | (refine j_kIdx rfl ?_; first | refine j_idx rfl rfl rfl rfl rfl (by omega) rfl rfl rfl ?_) | (refine j_kBin rfl ?_; first | refine j_in rfl rfl ⟨by omega, by omega⟩ rfl rfl ?_) | (refine j_kLen rfl ?_; first | refine j_len rfl rfl rfl rfl rfl rfl ?_) | (refine j_kCall rfl rfl rfl rfl ?_; first | refine jc (c_a2Kid _ _ (by omega)) (LeL.refl _) rfl rfl ?_))
      | refine j_nil ?_
      | (refine r_go ?_; first | refine run_seq ?_ | refine run_region ?_ | (refine (run_if rfl (fun hb => ?_) (fun hb => ?_)) <;> first | (exfalso; omega) | skip) | (refine (run_ifn rfl (fun hb => ?_) (fun hb => ?_)) <;> first | (exfalso; omega) | skip) | refine run_block ?_ | refine run_ret ?_ | refine run_skip ?_)
      | refine seqQ_normal ?_ | refine seqQ_ret ?_ | refine blockQ_normal ?_ | refine blockQ_ret ?_ | refine loopQ_ret ?_)
      all_goals first
        | exact absurd hi2 hb
        | exact loopQ_nextD (k + 1) ⟨by omega, trivial⟩ (by omega) (by first | exact List.Sublist.refl _ | exact sub1 | exact sub2 | exact sub3) ⟨rfl, rfl, nx _, trivial⟩
        | trace_state
    · repeat' (first
      | (refine j_go ?_; first
        | refine j_op0 rfl rfl rfl rfl ?_ | (refine j_kLen rfl ?_; first | refine j_len rfl rfl rfl rfl rfl rfl ?_))
      | refine j_nil ?_
      | (refine r_go ?_; first | refine run_seq ?_ | refine run_region ?_ | (refine (run_if rfl (fun hb => ?_) (fun hb => ?_)) <;> first | (exfalso; omega) | skip) | refine run_ret ?_ | refine run_exit ?_)
      | refine seqQ_normal ?_ | refine seqQ_exit ?_ | refine blockQ_eq ?_ | refine loopQ_exit ?_)
      exact end1 rfl (List.Sublist.refl _) (rfl) (.inl rfl)
end Go.Proofs.Ytkjhciiblpolgaa

/-
  Bytes read as data, and the program's own laws of layout. No condition.
-/
namespace Go.Proofs.Ytkjhciiblpolgaa
open Go.AI Go.RowKit
theorem rd_u8 {H : Type} {enc : TypeId × Value → H} {P : Program} {W : World} {t : TypeId} (ht : P.underlying t = some (.int .u8)) : Rd enc P W t encY := fun fuel cs x h => by
  obtain ⟨n, rfl, _, hw⟩ := DataW.trod_int ht h
  have := hw
  simp [Lit.wf, IntKind.min, IntKind.max, IntKind.signed, IntKind.bits] at this
  have e : n = ((UInt8.ofNat n.toNat).toNat : Int) := by
    rw [UInt8.toNat_ofNat']
    omega
  refine ⟨UInt8.ofNat n.toNat, RelL.cons ?_ RelL.nil⟩
  have r : Rel (Im W []) W (.u8 (UInt8.ofNat n.toNat)) (.int .u8 ((UInt8.ofNat n.toNat).toNat : Int)) := .u8 _
  rw [← e] at r
  exact r
theorem own : ownKnob Try.prog.godebug = none := by kernel_rfl
theorem laidOut : laidOutB Try.prog = true := by kernel_rfl
end Go.Proofs.Ytkjhciiblpolgaa
