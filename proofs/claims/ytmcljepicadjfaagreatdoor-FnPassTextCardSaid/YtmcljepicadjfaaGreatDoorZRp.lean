/-
  Texts of stocks: StockText. No condition.
-/
import Derived.Test.YtmcljepicadjfaaGreatDoorZX0
import Derived.Test.YtmcljepicadjfaaGreatDoorZRf
import Derived.Test.YtmcljepicadjfaaGreatDoorZRd
import Derived.Test.YtmcljepicadjfaaGreatDoorZE4
namespace Go.Proofs.YtmcljepicadjfaaGreatDoor
open Go.AI Go.RowKit
set_option maxRecDepth 8000
set_option maxHeartbeats 3200000
open Classical in
/-- A text where a condition holds, else the empty one. -/
noncomputable def txS (p : Prop) (l : List UInt8) : List UInt8 := if p then l else []
theorem txs_t {p : Prop} (h : p) (l : List UInt8) : txS p l = l := by unfold txS; rw [if_pos h]
theorem txs_f {p : Prop} (h : ¬p) (l : List UInt8) : txS p l = [] := by unfold txS; rw [if_neg h]
def lineT (b : List Int) : List UInt8 := bagT b ++ [10]
def stockT (s : Stock) : List UInt8 := catK lineT s.cells s.cells.length ++ [97, 114, 111, 117, 110, 100, 32] ++ bagT s.around ++ [10]
theorem stock_len {p : Passing} {s : Stock} (hv : p.Ok) (hs : p.StockOk s) (k : Nat) : (catK lineT s.cells k).length ≤ 1000 := by
  have h1 := hv.1.1
  have h4 := hv.1.2.1
  have hl := hs.1
  have := catK_len (g := lineT) (M := 200) (l := s.cells) (fun b hb => by
    have q := hs.2.2.1 b hb
    have bl := bagT_len (bag_in q.1)
    have := q.2
    unfold lineT
    simp only [List.length_append, List.length_cons, List.length_nil]; omega) k
  omega

theorem c_iStockText (p : Passing) (s : Stock) : GivesT Tryz.prog KT 11 [.agg (encPassing p), .agg (encStock s)] (.str (txS (p.Ok ∧ p.StockOk s) (stockT s))) := by
  refine fn_of_runT tyOk ztOk mix Tryz.func11 rfl (by decide) Tryz.ntmps11 (fun w0 h hK => ?_)
  repeat' (first
      | (refine j_go ?_; first
        | refine j_op0 rfl rfl rfl rfl ?_ | (refine j_kLen rfl ?_; first | refine j_len rfl rfl rfl rfl rfl rfl ?_) | (refine j_kCall rfl rfl rfl rfl ?_; first | refine jc (c_iValidStock _ _) (LeL.refl _) rfl rfl ?_) | refine j_box rfl rfl rfl rfl rfl rfl ?_)
      | refine j_nil ?_
      | (refine r_go ?_; first | refine run_seq ?_ | refine run_region ?_ | (refine (run_ifn rfl (fun hb => ?_) (fun hb => ?_)) <;> first | (exfalso; omega) | skip) | refine run_block ?_ | refine run_ret ?_ | refine run_skip ?_)
      | refine seqQ_normal ?_ | refine seqQ_ret ?_)
  · exact end1 rfl (List.Sublist.refl _) (st (by rw [txs_f hb])) (.inl rfl)
  have hv := hb.1
  have hs := hb.2
  have h1 := hv.1.1
  have h4 := hv.1.2.1
  have hl := hs.1
  have ha := hs.2.1.1
  have al := bagT_len (bag_in ha)
  have a8 := ha.2
  skip
  refine run_loop (fun k : Nat => [(3, .ip (encStock s)), (13, .sl (s.cells.map (encS Go.AI.encI))), (14, .int s.cells.length), (5, .str (catK lineT s.cells k)), (15, .int (k : Int))]) (fun _ => _) (fun k => k ≤ s.cells.length ∧ (True)) (fun k => s.cells.length - k) 0 ⟨rfl, rfl, rfl, (by first | rfl | exact si (by first | omega | (simp; done) | (simp [sumF]; done) | (simp; omega)) | exact raw_f (by simp) | exact raw_t (by simp) | exact sa (by first | (rw [catK_zero]; rfl) | (rw [catK_zero, List.append_nil]; rfl) | (rw [catK_zero, List.append_nil]) | (rw [joinK_zero, List.append_nil]; rfl) | (rw [joinK_zero, List.append_nil]) | (simp [catK]; done))), rfl, trivial⟩ rfl ⟨Nat.zero_le _, by first | (intros; omega) | (simp; done) | rfl | trivial | exact ⟨by simp [sumF], by intros; omega⟩ | exact ⟨by omega, by simp⟩⟩ (fun k ⟨kl, kp⟩ => ?_)
  have cl := stock_len hv hs k
  by_cases hk : k < s.cells.length
  · have es := catK_succ lineT hk
    have hb0 := (hs.2.2.1 _ (List.getElem_mem hk)).1
    have bl := bagT_len (bag_in hb0)
    have b8 := hb0.2
    repeat' (first
      | (refine j_go ?_; first
        | refine j_op0 rfl rfl rfl rfl ?_ | (refine j_kIdx rfl ?_; first | refine j_idx rfl rfl rfl rfl rfl (by omega) rfl rfl rfl ?_) | (refine j_kBin rfl ?_; first | refine j_in rfl rfl ⟨by omega, by omega⟩ rfl rfl ?_ | refine j_cat rfl rfl rfl rfl (by first | omega | (simp only [List.length_append, List.length_cons, List.length_nil]; omega)) rfl rfl ?_) | (refine j_kCall rfl rfl rfl rfl ?_; first | refine jcT (by first | exact hK | exact List.mem_cons_of_mem _ hK | exact List.mem_cons_of_mem _ (List.mem_cons_of_mem _ hK) | simp [hK]) (c_bagText _ hb0) (LeL.refl _) rfl rfl ?_))
      | refine j_nil ?_
      | (refine r_go ?_; first | refine run_seq ?_ | refine run_region ?_ | (refine (run_if rfl (fun hb => ?_) (fun hb => ?_)) <;> first | (exfalso; omega) | skip) | refine run_block ?_ | refine run_skip ?_)
      | refine seqQ_normal ?_ | refine blockQ_normal ?_)
    exact loopQ_nextD (k + 1) ⟨by omega, trivial⟩ (by omega) (by first | exact List.Sublist.refl _ | exact sub1 | exact sub2 | exact sub3) ⟨rfl, rfl, rfl, (by first | rfl | (exact sa (by rw [es]; unfold lineT; simp only [List.append_assoc] <;> rfl)) | exact si (by omega)), nx _, trivial⟩
  · have hke : k = s.cells.length := by omega
    subst hke
    repeat' (first
      | (refine j_go ?_; first
        | refine j_op0 rfl rfl rfl rfl ?_ | (refine j_kBin rfl ?_; first | refine j_cat rfl rfl rfl rfl (by first | omega | (simp only [List.length_append, List.length_cons, List.length_nil]; omega)) rfl rfl ?_) | (refine j_kCall rfl rfl rfl rfl ?_; first | refine jcT (by first | exact hK | exact List.mem_cons_of_mem _ hK | exact List.mem_cons_of_mem _ (List.mem_cons_of_mem _ hK) | simp [hK]) (c_bagText _ ha) (LeL.refl _) rfl rfl ?_))
      | refine j_nil ?_
      | (refine r_go ?_; first | refine run_seq ?_ | refine run_region ?_ | (refine (run_if rfl (fun hb => ?_) (fun hb => ?_)) <;> first | (exfalso; omega) | skip) | refine run_ret ?_ | refine run_exit ?_)
      | refine seqQ_normal ?_ | refine seqQ_exit ?_ | refine blockQ_eq ?_ | refine loopQ_exit ?_)
    exact end1 rfl (List.Sublist.refl _) (st (by rw [txs_t ⟨hv, hs⟩]; rfl)) (.inl rfl)

end Go.Proofs.YtmcljepicadjfaaGreatDoor

/-
  Texts cut and read by the library: strings.Split, strconv.ParseInt, strings.Cut, strings.CutPrefix. No condition.
-/
namespace Go.Proofs.YtmcljepicadjfaaGreatDoor
open Go.AI Go.RowKit
set_option maxRecDepth 8000
set_option maxHeartbeats 1600000
/-- Where the library's variables stand, so does the table. -/
theorem gT {f : FuncId} {xs : List A} {v : A} (H : GivesT Tryz.prog KT f xs v) : Gives Tryz.prog f xs v := by
  refine ⟨H.1, fun h w vs hrel hh => ?_⟩
  have hk : keys (KT :: h) = keys h := by simp [keys, KT, tabK]
  have im : ∀ b, Im w h b → Im w (KT :: h) b ∧ w.heap[b]? = w.heap[b]? := fun b hb => ⟨⟨hb.1, by rw [hk]; exact hb.2⟩, rfl⟩
  have hh2 : HeapOk (KT :: h) w := ⟨by rw [hk]; exact hh.nodup, fun k hkm => by
    rcases List.mem_cons.1 hkm with rfl | hkm
    · exact ⟨rfl, RoomOk.sign _⟩
    · exact (hh.blk k hkm).stab im fun _ _ => rfl, hh.tab.stab im⟩
  refine (H.2 (KT :: h) (List.mem_cons_self) w vs (hrel.stab im) hh2).mono fun e w' ⟨u, e1, e2, e3⟩ => ⟨u, e1, ?_, ?_⟩
  · have q := e2.heap.sub (List.sublist_cons_self KT h)
    exact ⟨e2.os, e2.tape, e2.output, e2.size, fun k q1 q2 => e2.block k q1 (by rw [hk]; exact q2), fun b hb => by have := e2.new b (by rw [hk]; exact hb); rwa [hk] at this, q⟩
  · exact e3.heap (List.sublist_cons_self KT h)
theorem rel_words {h : Heap} {w w' : World} {ws : List (List UInt8)} {bs : List ByteArray} {T : TypeId} (hh : HeapOk h w) (hws : bs.map (·.data.toList) = ws) (hl : ∀ x ∈ ws, x.length ≤ maxLn) (hn : ws.length ≤ maxLn)
    (hw : w' = w.alloc (.cells ((bs.map Value.string).toArray) T)) : Rel (Im w' h) w' (.sl (ws.map encW)) (.slice (some ⟨w.heap.size, 0, none⟩) bs.length bs.length) := by
  have hb : w'.heap[w.heap.size]? = some (.cells ((bs.map Value.string).toArray) T (0, 0)) := by subst hw; exact heap_new w _
  have hlen : bs.length = (ws.map encW).length := by rw [← hws]; simp
  have e1 : bs.length = ws.length := by rw [← hws]; simp
  conv => rhs; rw [show bs.length = (ws.map encW).length from hlen]
  refine .sl _ w.heap.size 0 (ws.map encW).length 1 (fun i _ => (bs.map Value.string).getD i undef) ⟨?_, fun hk => ?_⟩ (by simpa using hn) (Nat.le_refl _) (fun i hi => by simp [encW]) (fun i j hi hj => ?_) (fun i j hi hj => ?_)
  · subst hw; simp
  · exact Nat.lt_irrefl _ (hh.lt hk)
  · rw [List.length_map] at hi
    have hi2 : i < bs.length := by omega
    have hj0 : j = 0 := by omega
    subst hj0
    simp [World.cell?, hb, hi2]
  · rw [List.length_map] at hi
    have hi2 : i < bs.length := by omega
    have hj0 : j = 0 := by simpa [encW] using hj
    subst hj0
    have e2 : ws[i] = bs[i].data.toList := by subst hws; simp
    have e3 : (bs.map Value.string).getD i undef = .string ⟨(bs[i].data.toList).toArray⟩ := by simp [hi2]
    simp only [List.getElem_map, encW, List.getElem_cons_zero, e3, e2]
    exact .str _ (by rw [← e2]; exact hl _ (List.getElem_mem hi))
theorem c_Split (s : List UInt8) (c : UInt8) (hs : s.length < 4294967281) : Gives Tryz.prog 33 [.str s, .str [c]] (.sl ((spl c s).map encW)) := by
  refine ⟨⟨Tryz.f33, Tryz.func33, by decide, by rfl⟩, fun h w vs hrel hh => ?_⟩
  obtain ⟨v1, us, rfl, h1, h2⟩ := hrel.uncons
  obtain ⟨v2, us2, rfl, h3, h4⟩ := h2.uncons
  have hnl : us2 = [] := List.eq_nil_of_length_eq_zero h4.1
  subst hnl
  obtain ⟨rfl, _⟩ := h1.str_inv
  obtain ⟨rfl, _⟩ := h3.str_inv
  obtain ⟨_, m, hm⟩ := hh.tab.max
  have ed := Lib.splitB_data ⟨[c].toArray⟩ 0 (Lib.countB ⟨s.toArray⟩ ⟨[c].toArray⟩) ⟨s.toArray⟩
  have ec : Lib.countB ⟨s.toArray⟩ ⟨[c].toArray⟩ = s.count c := Lib.count_one c s
  have ed2 : (Lib.splitB ⟨[c].toArray⟩ 0 (Lib.countB ⟨s.toArray⟩ ⟨[c].toArray⟩) ⟨s.toArray⟩).map (·.data.toList) = spl c s := by
    rw [ed, ec]; exact splitK_spl c s
  have el : (Lib.splitB ⟨[c].toArray⟩ 0 (Lib.countB ⟨s.toArray⟩ ⟨[c].toArray⟩) ⟨s.toArray⟩).length = Lib.countB ⟨s.toArray⟩ ⟨[c].toArray⟩ + 1 := by
    have := congrArg List.length ed2
    rw [List.length_map, spl_count] at this
    rw [this, ec]
  have ll := spl_len c s
  have big : (4294967281 : Nat) ≤ maxLn := by decide
  refine (Tryz.strings_Split ⟨s.toArray⟩ ⟨[c].toArray⟩ m w (by rw [str_size]; exact hs) hm (by rw [str_size]; simp)).mono fun e w' ⟨e1, e2⟩ => ⟨_, e1, ?_, ?_⟩
  · subst e2; exact Chg.ofExt hh (Ext.alloc w _)
  · rw [← el]
    exact rel_words hh ed2 (fun x hx => by have := (spl_mem c s x hx).1; omega) (by omega) e2
theorem chg_bytes {h : Heap} {w w' : World} {t : TypeId} (hh : HeapOk h w) (hw : w' = w ∨ ∃ x, w' = Lib.bytesWorld w t x) : Chg h h w w' := by
  rcases hw with rfl | ⟨x, rfl⟩
  · exact Chg.refl hh
  · exact Chg.ofBelow hh (Lib.bytesWorld_below _ _ _)
theorem c_PIok (s : List UInt8) (hs : s.length ≤ 281474976710656) (hp : pIok s = true) : Gives Tryz.prog 31 [.str s, .int 10, .int 64] (.tup [.int (pIv s), .raw .nilIface]) := by
  refine ⟨⟨Tryz.f31, Tryz.func31, by decide, by rfl⟩, fun h w vs hrel hh => ?_⟩
  obtain ⟨v1, us, rfl, h1, h2⟩ := hrel.uncons
  obtain ⟨v2, us2, rfl, h3, h4⟩ := h2.uncons
  obtain ⟨v3, us3, rfl, h5, h6⟩ := h4.uncons
  have hnl : us3 = [] := List.eq_nil_of_length_eq_zero h6.1
  subst hnl
  obtain ⟨rfl, _⟩ := h1.str_inv
  obtain ⟨rfl, _⟩ := h3.int_inv
  obtain ⟨rfl, _⟩ := h5.int_inv
  have hin := pIv_in s
  cases hq : Lib.parseIntB 64 s with
  | ok v =>
    have ev : pIv s = v := by unfold pIv; rw [hq]
    rw [ev] at hin ⊢
    refine (Any.strconv_ParseInt_10_at64_ok Tryz.laysC174 ⟨s.toArray⟩ (by rw [str_size]; omega) v hq w).mono fun e w' ⟨e1, e2⟩ => ⟨_, e1, chg_bytes hh e2, ?_⟩
    exact .tup [.int v, .raw .nilIface] [.int .i64 v, .nilIface] rfl fun j hj hj' => by
      match j, hj with
      | 0, _ => exact .int v hin
      | 1, _ => exact .raw _
  | _ => unfold pIok at hp; rw [hq] at hp; cases hp
theorem c_PIbad (s : List UInt8) (hs : s.length ≤ 281474976710656) (hp : pIok s = false) : Gives Tryz.prog 31 [.str s, .int 10, .int 64] (.tup [.int (pIv s), .any IsIf]) := by
  refine ⟨⟨Tryz.f31, Tryz.func31, by decide, by rfl⟩, fun h w vs hrel hh => ?_⟩
  obtain ⟨v1, us, rfl, h1, h2⟩ := hrel.uncons
  obtain ⟨v2, us2, rfl, h3, h4⟩ := h2.uncons
  obtain ⟨v3, us3, rfl, h5, h6⟩ := h4.uncons
  have hnl : us3 = [] := List.eq_nil_of_length_eq_zero h6.1
  subst hnl
  obtain ⟨rfl, _⟩ := h1.str_inv
  obtain ⟨rfl, _⟩ := h3.int_inv
  obtain ⟨rfl, _⟩ := h5.int_inv
  have hin := pIv_in s
  have tl : ∀ (w' : World) (n : Int) (u : Value), InR n → IsIf u → Rel (Im w' h) w' (.tup [.int n, .any IsIf]) (.tuple #[.int .i64 n, u]) := fun w' n u hn hu =>
    .tup [.int n, .any IsIf] [.int .i64 n, u] rfl fun j hj hj' => by
      match j, hj with
      | 0, _ => exact .int n hn
      | 1, _ => exact .any _ _ hu
  cases hq : Lib.parseIntB 64 s with
  | ok v => unfold pIok at hp; rw [hq] at hp; cases hp
  | range =>
    have ev : pIv s = Lib.intSat 64 s := by unfold pIv; rw [hq]
    rw [ev] at hin ⊢
    obtain ⟨_, v, hv, hi⟩ := hh.tab.rng
    exact (Any.strconv_ParseInt_10_at64_range Tryz.laysC174 ⟨s.toArray⟩ (by rw [str_size]; omega) hq v w hv hi).mono fun e w' ⟨N, e1, _, _, e2⟩ => ⟨_, e1, Chg.ofBelow hh e2, tl _ _ _ hin ⟨_, _, rfl⟩⟩
  | _ =>
    have ev : pIv s = 0 := by unfold pIv; rw [hq]
    rw [ev] at hin ⊢
    obtain ⟨_, v, hv, hi⟩ := hh.tab.syn
    exact (Any.strconv_ParseInt_10_at64_syntax Tryz.laysC174 ⟨s.toArray⟩ (by rw [str_size]; omega) hq v w hv hi).mono fun e w' ⟨N, e1, _, _, e2⟩ => ⟨_, e1, Chg.ofBelow hh e2, tl _ _ _ hin ⟨_, _, rfl⟩⟩
theorem gives_le {P : Program} {f : FuncId} {xs : List A} {v u : A} (H : Gives P f xs v) (hle : Le v u) : Gives P f xs u :=
  ⟨H.1, fun h w vs a b => (H.2 h w vs a b).mono fun _ _ ⟨x, q1, q2, q3⟩ => ⟨x, q1, q2, hle _ _ _ q3⟩⟩
/-- .. whatever the error. -/
theorem c_PI (s : List UInt8) (hs : s.length ≤ 281474976710656) : Gives Tryz.prog 31 [.str s, .int 10, .int 64] (.tup [.int (pIv s), .any fun _ => True]) := by
  have q : ∀ a : A, Le a (.any fun _ => True) := fun a S w v _ => .any _ _ trivial
  cases hp : pIok s with
  | true => exact gives_le (c_PIok s hs hp) (Le.tup (LeL.cons (Le.refl _) (LeL.cons (q _) LeL.nil)))
  | false => exact gives_le (c_PIbad s hs hp) (Le.tup (LeL.cons (Le.refl _) (LeL.cons (q _) LeL.nil)))
theorem clo_str (s : List UInt8) : Clo (.str s) := fun S w S' w' v r => by
  obtain ⟨rfl, hl⟩ := r.str_inv
  exact .str s hl
section
variable {C : Cx} {n : Nat} {Q : Exit → Env → Heap → Prop} {e : Env} {h : Heap} {d : Bool} {l os : List Oper} {o : Oper}
theorem midxu_quiet {T z E sz b ln cap : Nat} {x i : Operand} {c : UInt8} (ho : o.op = .indexAddr T x i) (hT : C.ty T = some ⟨sz, .slice E z⟩) (hx : evO e x = some (.os (some b) ln cap)) (hi : evO e i = some (.u8 c))
    (h1 : c.toNat < ln) : Quiet C.P o e h (.op (some b) (c.toNat * z)) := by
  apply Quiet.of_same
  intro a w hs
  have hops := hs.ops
  rw [ho] at hops
  have hti := C.ok _ _ hT
  simp only [TIok, Bool.and_eq_true] at hti
  have e1 := (hops x (by simp [Op.operands]) _ hx).os_inv.1
  have e2 := (hops i (by simp [Op.operands]) _ hi).u8_inv
  obtain ⟨hu, hz⟩ := und_slice hti.2
  have hs2 := Go.AI.run_sizeOf hz w
  have hrun : (Instr.indexAt T (.slice (some ⟨b, 0, none⟩) ln cap) (.int .u8 (c.toNat : Nat))).run C.P w = .ok (.pointer (some ⟨b, 0 + c.toNat * z, none⟩)) w := by
    simp [Instr.indexAt, asIntOf, underlying, hu, h1, hs2, addr_add]
  rw [Nat.zero_add] at hrun
  refine ⟨.pointer (some ⟨b, c.toNat * z, none⟩), ?_, .op (some b) _⟩
  simp only [execOp, ho, e1, e2]
  rw [Sem.run_bind, hrun]; rfl
theorem j_midxu {T z E sz b ln cap dd : Nat} {x i : Operand} {c : UInt8} (hw : wantE l e o = some true) (ho : o.op = .indexAddr T x i) (hT : C.ty T = some ⟨sz, .slice E z⟩) (hx : evO e x = some (.os (some b) ln cap))
    (hi : evO e i = some (.u8 c)) (hm : c.toNat < ln) (hd : o.dst = some dd) (hn : Nat.blt dd n = true)
    (hj : J d C n l os Q ((dd, .op (some b) (c.toNat * z)) :: e) h) : J d C n l (o :: os) Q e h :=
  j_quiet hw (fun _ => midxu_quiet ho hT hx hi hm) hd hn hj
end
end Go.Proofs.YtmcljepicadjfaaGreatDoor

/-
  Texts of passing systems: PassingText of both sides. No condition.
-/
namespace Go.Proofs.YtmcljepicadjfaaGreatDoor
open Go.AI Go.RowKit
set_option maxRecDepth 8000
set_option maxHeartbeats 3200000
def ruleT (r : PassRule) : List UInt8 := [112, 97, 115, 115, 32] ++ dcm r.cell ++ [32] ++ bagT r.out ++ [32, 47, 32] ++ bagT r.in_ ++ [10]
def frK (l : List Bool) : Nat → List UInt8
  | 0 => []
  | k + 1 => if l.getD k false = true then frK l k ++ [UInt8.ofNat (97 + k)] else frK l k
def frT (l : List Bool) : List UInt8 := if frK l l.length = [] then [45] else frK l l.length
def pasH (p : Passing) : List UInt8 := [112, 97, 115, 115, 105, 110, 103, 32] ++ dcm p.kinds ++ [10, 99, 101, 108, 108, 115, 32, 45]
def pasF (p : Passing) : List UInt8 := [10, 102, 114, 101, 101, 32] ++ frT p.free ++ [10]
def passT (p : Passing) : List UInt8 := pasH p ++ catK vT (p.parents.drop 1) (p.parents.drop 1).length ++ pasF p ++ catK ruleT p.rules p.rules.length
theorem frK_len (l : List Bool) : ∀ k, (frK l k).length ≤ k
  | 0 => Nat.le_refl _
  | k + 1 => by
    have := frK_len l k
    rw [frK]
    split
    · rw [List.length_append, List.length_singleton]; omega
    · omega
theorem frK_pos {l : List Bool} {k : Nat} (hk : k < l.length) (h : l[k] = true) : frK l (k + 1) = frK l k ++ [UInt8.ofNat (97 + k)] := by rw [frK, if_pos (by rw [getD_at hk]; exact h)]
theorem frK_neg {l : List Bool} {k : Nat} (hk : k < l.length) (h : l[k] = false) : frK l (k + 1) = frK l k := by rw [frK, if_neg (by rw [getD_at hk, h]; simp)]
theorem frT_len (l : List Bool) : (frT l).length ≤ l.length + 1 := by
  have := frK_len l l.length
  unfold frT
  split
  · simp
  · omega
theorem par_in {p : Passing} (hv : p.Ok) {k : Nat} (hk : k < (p.parents.drop 1).length) : 0 ≤ (p.parents.drop 1)[k] ∧ (p.parents.drop 1)[k] ≤ 3 := by
  have h4 := hv.1.2.1
  rw [List.length_drop] at hk
  rw [List.getElem_drop]
  have := hv.1.2.2.2.2.2 (1 + k) (by omega) (by omega)
  omega
theorem vT_len2 {v : Int} (h : 0 ≤ v ∧ v ≤ 3) : (vT v).length ≤ 21 := by
  unfold vT
  have := dcm_len (n := v) ⟨by omega, by omega⟩
  simp; omega
theorem pars_len {p : Passing} (hv : p.Ok) (k : Nat) : (catK vT (p.parents.drop 1) k).length ≤ 63 := by
  have h4 := hv.1.2.1
  have h1 := catK_len (g := vT) (M := 21) (l := p.parents.drop 1) (fun x hx => by
    obtain ⟨i, hi, rfl⟩ := List.getElem_of_mem hx
    exact vT_len2 (par_in hv hi)) k
  have : (p.parents.drop 1).length ≤ 3 := by rw [List.length_drop]; omega
  omega
theorem ruleT_len {p : Passing} (hv : p.Ok) {r : PassRule} (hr : r ∈ p.rules) : (ruleT r).length ≤ 400 := by
  have R := hv.2 r hr
  have h4 := hv.1.2.1
  have a1 := bagT_len (bag_in R.2.1.1)
  have a2 := bagT_len (bag_in R.2.2.1.1)
  have a3 := R.2.1.1.2.2
  have a4 := R.2.2.1.1.2.2
  have a5 := R.1
  have a6 := dcm_len (n := r.cell) ⟨by omega, by omega⟩
  unfold ruleT
  simp only [List.length_append, List.length_cons, List.length_nil]
  omega
theorem rules_len {p : Passing} (hv : p.Ok) (k : Nat) : (catK ruleT p.rules k).length ≤ 3200 := by
  have h1 := catK_len (g := ruleT) (M := 400) (l := p.rules) (fun r hr => ruleT_len hv hr) k
  have h2 := hv.1.2.2.2.2.1
  omega
theorem heads_len {p : Passing} (hv : p.Ok) : (pasH p).length ≤ 36 ∧ (pasF p).length ≤ 16 := by
  have h1 := hv.1.1
  have h2 := hv.1.2.2.2.1
  have a6 := dcm_len (n := p.kinds) ⟨by omega, by omega⟩
  have a7 := frT_len p.free
  unfold pasH pasF
  simp only [List.length_append, List.length_cons, List.length_nil]
  omega
theorem passT_len {p : Passing} (hv : p.Ok) : (passT p).length ≤ 4000 := by
  have h1 := heads_len hv
  have h2 := pars_len hv (p.parents.drop 1).length
  have h3 := rules_len hv p.rules.length
  unfold passT
  simp only [List.length_append]
  omega
theorem c_iPassingText (p : Passing) : GivesT Tryz.prog KT 9 [.agg (encPassing p)] (.str (txS p.Ok (passT p))) := by
  refine fn_of_runT tyOk ztOk mix Tryz.func9 rfl (by decide) Tryz.ntmps9 (fun w0 h hK => ?_)
  repeat' (first
      | (refine j_go ?_; first
        | refine j_op0 rfl rfl rfl rfl ?_ | (refine j_kCall rfl rfl rfl rfl ?_; first | refine jc (c_iValidPassing p) (LeL.refl _) rfl rfl ?_) | refine j_box rfl rfl rfl rfl rfl rfl ?_)
      | refine j_nil ?_
      | (refine r_go ?_; first | refine run_seq ?_ | refine run_region ?_ | (refine (run_ifn rfl (fun hb => ?_) (fun hb => ?_)) <;> first | (exfalso; omega) | skip) | refine run_ret ?_ | refine run_skip ?_)
      | refine seqQ_normal ?_ | refine seqQ_ret ?_)
  · exact end1 rfl (List.Sublist.refl _) (st (by rw [txs_f hb])) (.inl rfl)
  have hv := hb
  have h1 := hv.1.1
  have h4 := hv.1.2.1
  have hfl := hv.1.2.2.2.1
  have h8 := hv.1.2.2.2.2.1
  have dl := dcm_len (n := p.kinds) ⟨by omega, by omega⟩
  have hl := heads_len hv
  have dl1 : (p.parents.drop 1).length ≤ 3 := by rw [List.length_drop]; omega
  repeat' (first
      | (refine j_go ?_; first
        | refine j_op0 rfl rfl rfl rfl ?_ | (refine j_kBin rfl ?_; first | refine j_cat rfl rfl rfl rfl (by first | omega | (simp only [List.length_append, List.length_cons, List.length_nil]; omega)) rfl rfl ?_) | (refine j_kLen rfl ?_; first | refine j_len rfl rfl rfl rfl rfl rfl ?_) | (refine j_kCall rfl rfl rfl rfl ?_; first | refine jcT (by first | exact hK | exact List.mem_cons_of_mem _ hK | exact List.mem_cons_of_mem _ (List.mem_cons_of_mem _ hK) | simp [hK]) (c_decimal _ ⟨by omega, by omega⟩) (LeL.refl _) rfl rfl ?_) | (refine j_kSlice rfl ?_; first | refine j_tail 1 rfl rfl rfl rfl rfl (by omega) (fun _ => rfl) rfl rfl ?_))
      | refine j_nil ?_
      | (refine r_go ?_; first | refine run_seq ?_ | refine run_region ?_ | refine run_block ?_)
      | refine seqQ_normal ?_)
  refine run_loop (fun k : Nat => [(1, .ip (encPassing p)), (21, .sl ((p.parents.drop 1).map Go.AI.encI)), (22, .int (p.parents.drop 1).length), (3, .str (pasH p ++ catK vT (p.parents.drop 1) k)), (23, .int (k : Int))]) (fun _ => _) (fun k => k ≤ (p.parents.drop 1).length ∧ (True)) (fun k => (p.parents.drop 1).length - k) 0 ⟨rfl, rfl, rfl, (by first | rfl | exact si (by first | omega | (simp; done) | (simp [sumF]; done) | (simp; omega)) | exact raw_f (by simp) | exact raw_t (by simp) | exact sa (by first | (rw [catK_zero]; rfl) | (rw [catK_zero, List.append_nil]; rfl) | (rw [catK_zero, List.append_nil]) | (rw [joinK_zero, List.append_nil]; rfl) | (rw [joinK_zero, List.append_nil]) | (simp [catK]; done))), rfl, trivial⟩ rfl ⟨Nat.zero_le _, by first | (intros; omega) | (simp; done) | rfl | trivial | exact ⟨by simp [sumF], by intros; omega⟩ | exact ⟨by omega, by simp⟩⟩ (fun k ⟨kl, kp⟩ => ?_)
  have pl := pars_len hv k
  by_cases hk : k < (p.parents.drop 1).length
  · have es := catK_succ vT hk
    have hx := par_in hv hk
    have d1 := dcm_len (n := (p.parents.drop 1)[k]) ⟨by omega, by omega⟩
    repeat' (first
      | (refine j_go ?_; first
        | refine j_op0 rfl rfl rfl rfl ?_ | (refine j_kIdx rfl ?_; first | refine j_idx rfl rfl rfl rfl rfl (by omega) rfl rfl rfl ?_) | (refine j_kBin rfl ?_; first | refine j_in rfl rfl ⟨by omega, by omega⟩ rfl rfl ?_ | refine j_cat rfl rfl rfl rfl (by first | omega | (simp only [List.length_append, List.length_cons, List.length_nil]; omega)) rfl rfl ?_) | (refine j_kCall rfl rfl rfl rfl ?_; first | refine jcT (by first | exact hK | exact List.mem_cons_of_mem _ hK | exact List.mem_cons_of_mem _ (List.mem_cons_of_mem _ hK) | simp [hK]) (c_decimal _ ⟨by omega, by omega⟩) (LeL.refl _) rfl rfl ?_))
      | refine j_nil ?_
      | (refine r_go ?_; first | refine run_seq ?_ | refine run_region ?_ | (refine (run_if rfl (fun hb => ?_) (fun hb => ?_)) <;> first | (exfalso; omega) | skip) | refine run_block ?_ | refine run_skip ?_)
      | refine seqQ_normal ?_ | refine blockQ_normal ?_)
    exact loopQ_nextD (k + 1) ⟨by omega, trivial⟩ (by omega) (by first | exact List.Sublist.refl _ | exact sub1 | exact sub2 | exact sub3) ⟨rfl, rfl, rfl, (by first | rfl | (exact sa (by rw [es]; simp only [vT, List.append_assoc] <;> rfl)) | exact si (by omega)), nx _, trivial⟩
  have hke : k = (p.parents.drop 1).length := by omega
  subst hke
  repeat' (first
      | (refine j_go ?_; first
        | refine j_op0 rfl rfl rfl rfl ?_ | (refine j_kLen rfl ?_; first | refine j_len rfl rfl rfl rfl rfl rfl ?_) | (refine j_kBsl rfl ?_; first | refine j_bs0 rfl rfl rfl rfl rfl rfl ?_))
      | refine j_nil ?_
      | (refine r_go ?_; first | refine run_seq ?_ | refine run_region ?_ | (refine (run_if rfl (fun hb => ?_) (fun hb => ?_)) <;> first | (exfalso; omega) | skip) | refine run_block ?_ | refine run_exit ?_)
      | refine seqQ_normal ?_ | refine seqQ_exit ?_ | refine blockQ_eq ?_ | refine loopQ_exit ?_)
  refine run_view (view_none 5 0 rfl) ?_
  refine run_loop (fun x : Nat × Option Nat × Nat => [(1, .ip (encPassing p)), (3, .str (pasH p ++ catK vT (p.parents.drop 1) (p.parents.drop 1).length)), (35, .sl (p.free.map encB)), (36, .int p.free.length), (6, .os x.2.1 (frK p.free x.1).length x.2.2), (37, .int (x.1 : Int))]) (fun x => ⟨x.2.1, 5, x.2.2 * 1, ((frK p.free x.1).map encU).flatten⟩ :: h)
    (fun x => x.1 ≤ p.free.length) (fun x => p.free.length - x.1) (0, none, 0) ⟨rfl, rfl, rfl, rfl, rfl, rfl, trivial⟩ rfl (Nat.zero_le _) (fun ⟨j, ob, cp⟩ jl => ?_)
  dsimp only at jl ⊢
  have fl := frK_len p.free j
  by_cases hj : j < p.free.length
  · repeat' (first
      | (refine j_go ?_; first
        | refine j_op0 rfl rfl rfl rfl ?_ | (refine j_kIdx rfl ?_; first | refine j_idx rfl rfl rfl rfl rfl (by omega) rfl rfl rfl ?_) | (refine j_kBin rfl ?_; first | refine j_in rfl rfl ⟨by omega, by omega⟩ rfl rfl ?_) | (refine j_kBsl rfl ?_; first | refine j_bsl rfl rfl rfl rfl rfl rfl rfl rfl rfl rfl rfl ?_) | refine j_convB rfl rfl rfl rfl rfl (by omega) rfl rfl ?_)
      | refine j_nil ?_
      | (refine r_go ?_; first | refine run_seq ?_ | refine run_region ?_ | (refine (run_if rfl (fun hb => ?_) (fun hb => ?_)) <;> first | (exfalso; omega) | skip) | refine run_block ?_ | refine run_skip ?_ | refine run_cond rfl (fun hb => ?_) (fun hb => ?_))
      | refine seqQ_normal ?_ | refine blockQ_normal ?_)
    · have es := frK_pos hj (by assumption)
      refine j_append 0 (g := encU) [UInt8.ofNat (97 + (j : Int)).toNat] rfl rfl rfl rfl rfl rfl rfl rfl rfl rfl rfl rfl (fun _ => rfl) (fun _ _ => rfl) ⟨by simp only [List.length_cons, List.length_nil]; omega, by simp only [List.length_cons, List.length_nil]; omega⟩ rfl rfl (fun b' cap' => ?_)
      rw [show (97 + (j : Int)).toNat = 97 + j from by omega, ← es]
      repeat' (first
      | (refine j_go ?_; first
        | refine j_op0 rfl rfl rfl rfl ?_ | (refine j_kBin rfl ?_; first | refine j_in rfl rfl ⟨by omega, by omega⟩ rfl rfl ?_))
      | refine j_nil ?_
      | (refine r_go ?_; first | refine run_region ?_)
      | refine seqQ_normal ?_ | refine blockQ_normal ?_)
      exact loopQ_next (j + 1, b', cap') (by dsimp only; omega) (by dsimp only; omega) rfl ⟨rfl, rfl, rfl, rfl, rfl, nx _, trivial⟩
    · have es := frK_neg hj (by first | assumption | simp_all)
      exact loopQ_next (j + 1, ob, cp) (by dsimp only; omega) (by dsimp only; omega) (by dsimp only; rw [es]) ⟨rfl, rfl, rfl, rfl, by dsimp only; rw [es]; rfl, nx _, trivial⟩
  have hje : j = p.free.length := by omega
  subst hje
  have fl2 := frT_len p.free
  repeat' (first
      | (refine j_go ?_; first
        | refine j_op0 rfl rfl rfl rfl ?_ | (refine j_kLen rfl ?_; first | refine j_op rfl rfl rfl rfl ?_) | (refine j_kBsl rfl ?_; first | refine j_bsl rfl rfl rfl rfl rfl rfl rfl rfl rfl rfl rfl ?_))
      | refine j_nil ?_
      | (refine r_go ?_; first | refine run_seq ?_ | refine run_region ?_ | (refine (run_if rfl (fun hb => ?_) (fun hb => ?_)) <;> first | (exfalso; omega) | skip) | refine run_exit ?_ | refine run_skip ?_)
      | refine seqQ_normal ?_ | refine seqQ_exit ?_ | refine blockQ_eq ?_ | refine loopQ_exit ?_)
  case' neg.refine_2.refine_1 =>
    have h0 : frK p.free p.free.length = [] := List.eq_nil_of_length_eq_zero (by omega)
    refine j_append 0 (g := encU) [45] rfl rfl rfl rfl rfl rfl rfl rfl rfl rfl rfl rfl (fun _ => rfl) (fun _ _ => rfl) ⟨by simp only [List.length_cons, List.length_nil]; omega, by simp only [List.length_cons, List.length_nil]; omega⟩ rfl rfl (fun b' cap' => ?_)
    rw [show frK p.free p.free.length ++ [45] = frT p.free from by unfold frT; rw [if_pos h0, h0]; rfl]
    repeat' (first
      | (refine j_go ?_; first
        | refine j_op0 rfl rfl rfl rfl ?_)
      | refine j_nil ?_
      | (refine r_go ?_; first | refine run_seq ?_ | refine run_region ?_)
      | refine seqQ_normal ?_)
  case' neg.refine_2.refine_2 =>
    rw [show frK p.free p.free.length = frT p.free from by unfold frT; rw [if_neg (fun q => by rw [q] at hb; simp at hb)]]
  all_goals
    refine j_view (view_freeze (g := encU) (z := 1) (ys := frT p.free) 0 57 rfl rfl rfl (fun _ => rfl) rfl rfl) ?_
    repeat' (first
      | (refine j_go ?_; first
        | refine j_op0 rfl rfl rfl rfl ?_ | (refine j_kBin rfl ?_; first | refine j_cat rfl rfl rfl rfl (by first | omega | (simp only [List.length_append, List.length_cons, List.length_nil]; omega)) rfl rfl ?_) | (refine j_kLen rfl ?_; first | refine j_len rfl rfl rfl rfl rfl rfl ?_) | refine j_b2s rfl rfl rfl rfl rfl rfl rfl rfl ?_)
      | refine j_nil ?_
      | (refine r_go ?_; first | refine run_seq ?_ | refine run_region ?_ | refine run_block ?_)
      | refine seqQ_normal ?_)
    refine run_loop (fun r : Nat => [(63, .sl (p.rules.map encPassRule)), (64, .int p.rules.length), (3, .str (pasH p ++ catK vT (p.parents.drop 1) (p.parents.drop 1).length ++ pasF p ++ catK ruleT p.rules r)), (65, .int (r : Int))]) (fun _ => h) (fun r => r ≤ p.rules.length) (fun r => p.rules.length - r) 0 ⟨rfl, rfl, sa (by rw [catK_zero, List.append_nil]; rfl), rfl, trivial⟩ rfl (Nat.zero_le _) (fun r rle => ?_)
    have rl := rules_len hv r
    have pl := pars_len hv (p.parents.drop 1).length
    by_cases hr : r < p.rules.length
    · have es := catK_succ ruleT hr
      have hm := List.getElem_mem hr
      have R := hv.2 _ hm
      have rt := ruleT_len hv hm
      have a1 := bagT_len (bag_in R.2.1.1)
      have a2 := bagT_len (bag_in R.2.2.1.1)
      have a3 := R.2.1.1.2.2
      have a4 := R.2.2.1.1.2.2
      have a5 := R.1
      have a6 := dcm_len (n := p.rules[r].cell) ⟨by omega, by omega⟩
      repeat' (first
      | (refine j_go ?_; first
        | refine j_op0 rfl rfl rfl rfl ?_ | (refine j_kIdx rfl ?_; first | refine j_idx rfl rfl rfl rfl rfl (by omega) rfl rfl rfl ?_) | (refine j_kStore rfl ?_; first | refine j_storeN 0 rfl rfl rfl rfl rfl rfl rfl rfl rfl rfl rfl ?_) | refine j_alloc rfl rfl rfl rfl rfl (fun _ => ?_))
      | refine j_nil ?_
      | (refine r_go ?_; first | refine run_seq ?_ | refine run_region ?_ | (refine (run_if rfl (fun hb => ?_) (fun hb => ?_)) <;> first | (exfalso; omega) | skip) | refine run_block ?_ | refine run_skip ?_)
      | refine seqQ_normal ?_)
      refine run_view (view_freezeP 0 10 rfl rfl) ?_
      repeat' (first
      | (refine j_go ?_; first
        | refine j_op0 rfl rfl rfl rfl ?_ | (refine j_kBin rfl ?_; first | refine j_in rfl rfl ⟨by omega, by omega⟩ rfl rfl ?_ | refine j_cat rfl rfl rfl rfl (by first | omega | (simp only [List.length_append, List.length_cons, List.length_nil]; omega)) rfl rfl ?_) | (refine j_kCall rfl rfl rfl rfl ?_; first | refine jcT (by first | exact hK | exact List.mem_cons_of_mem _ hK | exact List.mem_cons_of_mem _ (List.mem_cons_of_mem _ hK) | simp [hK]) (c_decimal _ ⟨by omega, by omega⟩) (LeL.refl _) rfl rfl ?_ | refine jcT (by first | exact hK | exact List.mem_cons_of_mem _ hK | exact List.mem_cons_of_mem _ (List.mem_cons_of_mem _ hK) | simp [hK]) (c_bagText _ R.2.1.1) (LeL.refl _) rfl rfl ?_ | refine jcT (by first | exact hK | exact List.mem_cons_of_mem _ hK | exact List.mem_cons_of_mem _ (List.mem_cons_of_mem _ hK) | simp [hK]) (c_bagText _ R.2.2.1.1) (LeL.refl _) rfl rfl ?_))
      | refine j_nil ?_
      | (refine r_go ?_; first | refine run_region ?_ | refine run_regionD (by kernel_rfl) ?_)
      | refine seqQ_normal ?_ | refine blockQ_normal ?_)
      exact loopQ_next (r + 1) (by omega) (by omega) rfl ⟨rfl, rfl, sa (by rw [es]; unfold ruleT; simp only [List.append_assoc] <;> rfl), nx _, trivial⟩
    have hre : r = p.rules.length := by omega
    subst hre
    repeat' (first
      | (refine j_go ?_; first
        | refine j_op0 rfl rfl rfl rfl ?_)
      | refine j_nil ?_
      | (refine r_go ?_; first | refine run_seq ?_ | refine run_region ?_ | (refine (run_if rfl (fun hb => ?_) (fun hb => ?_)) <;> first | (exfalso; omega) | skip) | refine run_ret ?_ | refine run_exit ?_)
      | refine seqQ_normal ?_ | refine seqQ_exit ?_ | refine blockQ_eq ?_ | refine loopQ_exit ?_)
    exact end1 rfl (List.Sublist.refl _) (st (by rw [txs_t hv]; rfl)) (.inl rfl)
theorem vT_head {p : Passing} (hv : p.Ok) : ∃ l, p.parents = -1 :: l := by
  have h4 := hv.1.2.1
  have h0 := hv.1.2.2.1
  cases hp : p.parents with
  | nil => rw [hp] at h4; simp at h4
  | cons x l => rw [hp] at h0; simp at h0; exact ⟨l, by rw [h0]⟩
end Go.Proofs.YtmcljepicadjfaaGreatDoor
