/-
  The types of this seat's program, as the walk over plain data wants them. No condition.
-/
import Derived.Test.YtmcljepicadjfaaDoorZRun
import Derived.Test.YtmcljepicadjfaaDoorChecked
import Derived.Test.YtmcljepicadjfaaDoorZT
import Derived.Test.YtmcljepicadjfaaDoorZOP
namespace Go.Proofs.YtmcljepicadjfaaDoor
open Go.AI
def tyl : List (Nat × TI) := [(1, ⟨1, .scalar⟩),
  (2, ⟨1, .ik .i64⟩),
  (3, ⟨1, .ik .i64⟩),
  (4, ⟨1, .bool⟩),
  (5, ⟨1, .ik .u8⟩),
  (6, ⟨1, .ik .u8⟩),
  (7, ⟨4, .struct [(0, 1), (1, 1), (2, 1), (3, 1)]⟩),
  (8, ⟨4, .struct [(0, 1), (1, 1), (2, 1), (3, 1)]⟩),
  (9, ⟨1, .str⟩),
  (10, ⟨1, .str⟩),
  (11, ⟨1, .str⟩),
  (12, ⟨1, .ik .u64⟩),
  (13, ⟨2, .struct [(0, 1), (1, 1)]⟩),
  (14, ⟨2, .struct [(0, 1), (1, 1)]⟩),
  (15, ⟨1, .scalar⟩),
  (16, ⟨1, .scalar⟩),
  (17, ⟨1, .scalar⟩),
  (18, ⟨1, .struct [(0, 1)]⟩),
  (19, ⟨1, .struct [(0, 1)]⟩),
  (21, ⟨1, .ik .i32⟩),
  (22, ⟨1, .slice 36 1⟩),
  (23, ⟨2, .struct [(0, 1), (1, 1)]⟩),
  (24, ⟨2, .struct [(0, 1), (1, 1)]⟩),
  (26, ⟨1, .scalar⟩),
  (27, ⟨1, .scalar⟩),
  (28, ⟨1, .scalar⟩),
  (29, ⟨1, .scalar⟩),
  (30, ⟨1, .slice 9 1⟩),
  (32, ⟨1, .scalar⟩),
  (34, ⟨1, .scalar⟩),
  (35, ⟨1, .scalar⟩),
  (36, ⟨1, .slice 2 1⟩),
  (37, ⟨1, .scalar⟩),
  (38, ⟨1, .scalar⟩),
  (39, ⟨1, .scalar⟩),
  (40, ⟨1, .scalar⟩),
  (42, ⟨1, .scalar⟩),
  (44, ⟨1, .iface⟩),
  (46, ⟨1, .scalar⟩),
  (47, ⟨1, .scalar⟩),
  (48, ⟨1, .scalar⟩),
  (49, ⟨1, .scalar⟩),
  (50, ⟨1, .scalar⟩),
  (51, ⟨1, .scalar⟩),
  (52, ⟨1, .scalar⟩),
  (53, ⟨1, .scalar⟩),
  (54, ⟨1, .scalar⟩),
  (55, ⟨1, .scalar⟩),
  (56, ⟨1, .scalar⟩),
  (57, ⟨1, .scalar⟩),
  (58, ⟨1, .scalar⟩),
  (59, ⟨1, .scalar⟩),
  (60, ⟨1, .scalar⟩),
  (61, ⟨1, .slice 5 1⟩),
  (62, ⟨1, .scalar⟩),
  (63, ⟨1, .ik .i64⟩),
  (64, ⟨1, .ik .u64⟩),
  (66, ⟨1, .scalar⟩),
  (67, ⟨1, .ik .u64⟩),
  (68, ⟨1, .scalar⟩),
  (69, ⟨1, .scalar⟩),
  (70, ⟨1, .scalar⟩),
  (71, ⟨1, .scalar⟩),
  (72, ⟨1, .scalar⟩),
  (73, ⟨1, .scalar⟩),
  (74, ⟨1, .scalar⟩),
  (75, ⟨1, .scalar⟩),
  (76, ⟨3, .struct [(0, 1), (1, 1), (2, 1)]⟩),
  (77, ⟨3, .struct [(0, 1), (1, 1), (2, 1)]⟩),
  (78, ⟨1, .scalar⟩),
  (79, ⟨1, .scalar⟩),
  (80, ⟨1, .scalar⟩),
  (82, ⟨1, .scalar⟩),
  (83, ⟨1, .scalar⟩),
  (84, ⟨1, .scalar⟩),
  (85, ⟨1, .scalar⟩),
  (86, ⟨1, .struct [(0, 1)]⟩),
  (87, ⟨1, .struct [(0, 1)]⟩),
  (88, ⟨1, .scalar⟩),
  (89, ⟨24, .arr 24 5 1⟩),
  (90, ⟨1, .scalar⟩),
  (91, ⟨1, .scalar⟩),
  (93, ⟨1, .scalar⟩),
  (94, ⟨256, .arr 256 5 1⟩),
  (95, ⟨2, .struct [(0, 1), (1, 1)]⟩),
  (96, ⟨2, .struct [(0, 1), (1, 1)]⟩),
  (97, ⟨32, .arr 16 96 2⟩),
  (98, ⟨1, .ik .u32⟩),
  (100, ⟨1, .scalar⟩),
  (101, ⟨1, .scalar⟩),
  (102, ⟨20, .arr 20 64 1⟩),
  (103, ⟨65, .arr 65 5 1⟩),
  (104, ⟨1, .scalar⟩),
  (105, ⟨1, .scalar⟩),
  (106, ⟨1, .scalar⟩),
  (107, ⟨32, .arr 32 5 1⟩),
  (108, ⟨64, .arr 64 5 1⟩),
  (109, ⟨1, .scalar⟩),
  (110, ⟨4, .struct [(0, 1), (1, 1), (2, 1), (3, 1)]⟩),
  (111, ⟨4, .struct [(0, 1), (1, 1), (2, 1), (3, 1)]⟩),
  (112, ⟨0, .arr 0 16 1⟩),
  (115, ⟨1, .scalar⟩),
  (116, ⟨1, .ik .u8⟩),
  (117, ⟨1, .ik .u8⟩),
  (118, ⟨1, .scalar⟩),
  (119, ⟨1, .ik .i32⟩),
  (120, ⟨1, .ik .i32⟩),
  (121, ⟨11, .struct [(0, 1), (1, 1), (2, 1), (3, 1), (4, 1), (5, 1), (6, 1), (7, 1), (8, 1), (9, 1), (10, 1)]⟩),
  (122, ⟨11, .struct [(0, 1), (1, 1), (2, 1), (3, 1), (4, 1), (5, 1), (6, 1), (7, 1), (8, 1), (9, 1), (10, 1)]⟩),
  (123, ⟨1, .scalar⟩)]
def ty : Nat → Option TI := lkT tyl
theorem tyOk : TyOk Tryd.prog ty := tyOk_of_list tyl (by kernel_rfl)
def ztl : List (Nat × (List ZK × Nat)) := [(1, ([.fn], 8)),
  (2, ([.int], 8)),
  (3, ([.int], 8)),
  (4, ([.bool], 1)),
  (5, ([.byte], 1)),
  (6, ([.byte], 1)),
  (7, ([.int, .int, .bool, .byte], 24)),
  (8, ([.int, .int, .bool, .byte], 24)),
  (9, ([.str], 16)),
  (10, ([.str], 16)),
  (11, ([.str], 16)),
  (12, ([.u64], 8)),
  (13, ([.str, .u64], 24)),
  (14, ([.str, .u64], 24)),
  (15, ([.ptr], 8)),
  (16, ([.ptr], 8)),
  (17, ([.ptr], 8)),
  (18, ([.ptr], 8)),
  (19, ([.ptr], 8)),
  (22, ([.slice], 24)),
  (23, ([.int, .slice], 32)),
  (24, ([.int, .slice], 32)),
  (26, ([.fn], 8)),
  (27, ([.fn], 8)),
  (28, ([.fn], 8)),
  (29, ([.fn], 8)),
  (30, ([.slice], 24)),
  (32, ([.fn], 8)),
  (34, ([.fn], 8)),
  (35, ([.fn], 8)),
  (36, ([.slice], 24)),
  (37, ([.fn], 8)),
  (38, ([.fn], 8)),
  (39, ([.ptr], 8)),
  (40, ([.fn], 8)),
  (42, ([.fn], 8)),
  (46, ([.fn], 8)),
  (47, ([.fn], 8)),
  (48, ([.fn], 8)),
  (49, ([.fn], 8)),
  (50, ([.fn], 8)),
  (51, ([.fn], 8)),
  (52, ([.fn], 8)),
  (53, ([.fn], 8)),
  (54, ([.fn], 8)),
  (55, ([.fn], 8)),
  (56, ([.fn], 8)),
  (57, ([.fn], 8)),
  (58, ([.fn], 8)),
  (59, ([.fn], 8)),
  (60, ([.fn], 8)),
  (61, ([.slice], 24)),
  (62, ([.fn], 8)),
  (63, ([.int], 8)),
  (64, ([.u64], 8)),
  (66, ([.fn], 8)),
  (67, ([.u64], 8)),
  (68, ([.ptr], 8)),
  (69, ([.fn], 8)),
  (70, ([.fn], 8)),
  (71, ([.fn], 8)),
  (72, ([.fn], 8)),
  (73, ([.fn], 8)),
  (74, ([.fn], 8)),
  (75, ([.fn], 8)),
  (78, ([.fn], 8)),
  (79, ([.fn], 8)),
  (80, ([.fn], 8)),
  (82, ([.fn], 8)),
  (83, ([.fn], 8)),
  (84, ([.ptr], 8)),
  (85, ([.ptr], 8)),
  (86, ([.str], 16)),
  (87, ([.str], 16)),
  (88, ([.fn], 8)),
  (89, ([.byte, .byte, .byte, .byte, .byte, .byte, .byte, .byte, .byte, .byte, .byte, .byte, .byte, .byte, .byte, .byte, .byte, .byte, .byte, .byte, .byte, .byte, .byte, .byte], 24)),
  (90, ([.fn], 8)),
  (91, ([.fn], 8)),
  (93, ([.fn], 8)),
  (95, ([.byte, .byte], 2)),
  (96, ([.byte, .byte], 2)),
  (97, ([.byte, .byte, .byte, .byte, .byte, .byte, .byte, .byte, .byte, .byte, .byte, .byte, .byte, .byte, .byte, .byte, .byte, .byte, .byte, .byte, .byte, .byte, .byte, .byte, .byte, .byte, .byte, .byte, .byte, .byte, .byte, .byte], 32)),
  (100, ([.fn], 8)),
  (101, ([.fn], 8)),
  (102, ([.u64, .u64, .u64, .u64, .u64, .u64, .u64, .u64, .u64, .u64, .u64, .u64, .u64, .u64, .u64, .u64, .u64, .u64, .u64, .u64], 160)),
  (104, ([.fn], 8)),
  (105, ([.fn], 8)),
  (106, ([.fn], 8)),
  (107, ([.byte, .byte, .byte, .byte, .byte, .byte, .byte, .byte, .byte, .byte, .byte, .byte, .byte, .byte, .byte, .byte, .byte, .byte, .byte, .byte, .byte, .byte, .byte, .byte, .byte, .byte, .byte, .byte, .byte, .byte, .byte, .byte], 32)),
  (108, ([.byte, .byte, .byte, .byte, .byte, .byte, .byte, .byte, .byte, .byte, .byte, .byte, .byte, .byte, .byte, .byte, .byte, .byte, .byte, .byte, .byte, .byte, .byte, .byte, .byte, .byte, .byte, .byte, .byte, .byte, .byte, .byte, .byte, .byte, .byte, .byte, .byte, .byte, .byte, .byte, .byte, .byte, .byte, .byte, .byte, .byte, .byte, .byte, .byte, .byte, .byte, .byte, .byte, .byte, .byte, .byte, .byte, .byte, .byte, .byte, .byte, .byte, .byte, .byte], 64)),
  (109, ([.fn], 8)),
  (110, ([.ptr, .ptr, .ptr, .str], 40)),
  (111, ([.ptr, .ptr, .ptr, .str], 40)),
  (112, ([], 0)),
  (113, ([], 0)),
  (114, ([], 0)),
  (115, ([.fn], 8)),
  (116, ([.byte], 1)),
  (117, ([.byte], 1)),
  (118, ([.fn], 8)),
  (123, ([.fn], 8))]
def zt : Nat → Option (List ZK × Nat) := lkZ ztl
theorem ztOk : ZtOk Tryd.prog zt := ztOk_of_list ztl (by kernel_rfl)
theorem mix : Tryd.prog.follows .mixedOrders = true := by kernel_rfl
end Go.Proofs.YtmcljepicadjfaaDoor

/-
  The helpers of the laws over numbers, lists of numbers and lists of lists: sizes, copies, comparisons. No condition but that the sizes are at most 1048576.
-/
namespace Go.Proofs.YtmcljepicadjfaaDoor
open Go.AI
set_option maxRecDepth 8000
theorem c_eqInt64S (a b : List (Int)) : Gives Tryd.prog 34 [.sl (a.map Go.AI.encI), .sl (b.map Go.AI.encI)] (.raw (.bool (dec (a = b)))) := by
  refine fn_of_run tyOk ztOk mix Tryd.func34 rfl (by decide) Tryd.ntmps34 (fun w0 h => ?_)
  refine run_len (t := 0) rfl (fun hla => ?_)
  refine run_len (t := 1) rfl (fun hlb => ?_)
  rw [List.length_map] at hla hlb
  repeat' (first
      | (refine j_go ?_; first
        | refine j_op0 rfl rfl rfl rfl ?_ | (refine j_kLen rfl ?_; first | refine j_len rfl rfl rfl rfl rfl rfl ?_))
      | refine j_nil ?_
      | (refine r_go ?_; first | refine run_seq ?_ | refine run_region ?_ | (refine (run_ifn rfl (fun hb => ?_) (fun hb => ?_)) <;> first | (exfalso; omega) | skip) | refine run_block ?_ | refine run_ret ?_ | refine run_skip ?_)
      | refine seqQ_normal ?_ | refine seqQ_ret ?_)
  · exact end1 rfl (List.Sublist.refl _) (rb (dec_f (fun q => hb (by rw [q]))).symm) (.inl rfl)
  · have hn : a.length = b.length := by omega
    refine run_loop (fun k : Nat => [(0, .sl (a.map Go.AI.encI)), (1, .sl (b.map Go.AI.encI)), (5, .int (k : Int))]) (fun _ => h) (fun k => k ≤ a.length ∧ a.take k = b.take k) (fun k => a.length - k) 0 ⟨rfl, rfl, rfl, trivial⟩ rfl ⟨by omega, rfl⟩ ?_
    intro k ⟨g1, g2⟩
    repeat' (first
      | (refine j_go ?_; first
        | refine j_op0 rfl rfl rfl rfl ?_ | (refine j_kIdx rfl ?_; first | refine j_idx rfl rfl rfl rfl rfl (by omega) rfl rfl rfl ?_) | (refine j_kBin rfl ?_; first | refine j_in rfl rfl ⟨by omega, by omega⟩ rfl rfl ?_) | (refine j_kLen rfl ?_; first | refine j_len rfl rfl rfl rfl rfl rfl ?_))
      | refine j_nil ?_
      | (refine r_go ?_; first | refine run_seq ?_ | refine run_region ?_ | (refine (run_if rfl (fun hb => ?_) (fun hb => ?_)) <;> first | (exfalso; omega) | skip) | (refine (run_ifn rfl (fun hb => ?_) (fun hb => ?_)) <;> first | (exfalso; omega) | skip) | refine run_block ?_ | refine run_ret ?_ | refine run_exit ?_ | refine run_skip ?_ | refine run_regionD (by kernel_rfl) ?_)
      | refine seqQ_normal ?_ | refine seqQ_ret ?_ | refine seqQ_exit ?_ | refine blockQ_normal ?_ | refine blockQ_ret ?_ | refine blockQ_eq ?_ | refine loopQ_ret ?_ | refine loopQ_exit ?_)
    · exact end1 rfl (List.Sublist.refl _) (rb (dec_f (fun q => hb (by subst q; rfl))).symm) (.inl rfl)
    · exact loopQ_next (k + 1) ⟨by omega, take_eq_succ g2 (by omega) (by omega) hb⟩ (by omega) rfl ⟨rfl, rfl, nx _, trivial⟩
    · have hk : k = a.length := by omega
      subst hk
      exact end1 rfl (List.Sublist.refl _) (rb (dec_t (by rw [List.take_length, hn, List.take_length] at g2; exact g2)).symm) (.inl rfl)
theorem c_eqInt64SS (a b : List (List Int)) : Gives Tryd.prog 20 [.sl (a.map (encS Go.AI.encI)), .sl (b.map (encS Go.AI.encI))] (.raw (.bool (dec (a = b)))) := by
  refine fn_of_run tyOk ztOk mix Tryd.func20 rfl (by decide) Tryd.ntmps20 (fun w0 h => ?_)
  refine run_len (t := 0) rfl (fun hla => ?_)
  refine run_len (t := 1) rfl (fun hlb => ?_)
  rw [List.length_map] at hla hlb
  repeat' (first
      | (refine j_go ?_; first
        | refine j_op0 rfl rfl rfl rfl ?_ | (refine j_kLen rfl ?_; first | refine j_len rfl rfl rfl rfl rfl rfl ?_))
      | refine j_nil ?_
      | (refine r_go ?_; first | refine run_seq ?_ | refine run_region ?_ | (refine (run_ifn rfl (fun hb => ?_) (fun hb => ?_)) <;> first | (exfalso; omega) | skip) | refine run_block ?_ | refine run_ret ?_ | refine run_skip ?_)
      | refine seqQ_normal ?_ | refine seqQ_ret ?_)
  · exact end1 rfl (List.Sublist.refl _) (rb (dec_f (fun q => hb (by rw [q]))).symm) (.inl rfl)
  · have hn : a.length = b.length := by omega
    refine run_loop (fun k : Nat => [(0, .sl (a.map (encS Go.AI.encI))), (1, .sl (b.map (encS Go.AI.encI))), (5, .int (k : Int))]) (fun _ => h) (fun k => k ≤ a.length ∧ a.take k = b.take k) (fun k => a.length - k) 0 ⟨rfl, rfl, rfl, trivial⟩ rfl ⟨by omega, rfl⟩ ?_
    intro k ⟨g1, g2⟩
    repeat' (first
      | (refine j_go ?_; first
        | refine j_op0 rfl rfl rfl rfl ?_ | (refine j_kIdx rfl ?_; first | refine j_idx rfl rfl rfl rfl rfl (by omega) rfl rfl rfl ?_) | (refine j_kBin rfl ?_; first | refine j_in rfl rfl ⟨by omega, by omega⟩ rfl rfl ?_) | (refine j_kLen rfl ?_; first | refine j_len rfl rfl rfl rfl rfl rfl ?_) | (refine j_kCall rfl rfl rfl rfl ?_; first | refine jc (c_eqInt64S _ _) (LeL.refl _) rfl rfl ?_))
      | refine j_nil ?_
      | (refine r_go ?_; first | refine run_seq ?_ | refine run_region ?_ | (refine (run_if rfl (fun hb => ?_) (fun hb => ?_)) <;> first | (exfalso; omega) | skip) | (refine (run_ifn rfl (fun hb => ?_) (fun hb => ?_)) <;> first | (exfalso; omega) | skip) | refine run_block ?_ | refine run_ret ?_ | refine run_exit ?_ | refine run_skip ?_ | refine run_regionD (by kernel_rfl) ?_)
      | refine seqQ_normal ?_ | refine seqQ_ret ?_ | refine seqQ_exit ?_ | refine blockQ_normal ?_ | refine blockQ_ret ?_ | refine blockQ_eq ?_ | refine loopQ_ret ?_ | refine loopQ_exit ?_)
    · exact end1 rfl (List.Sublist.refl _) (rb (dec_f (fun q => hb (by subst q; rfl))).symm) (.inl rfl)
    · exact loopQ_next (k + 1) ⟨by omega, take_eq_succ g2 (by omega) (by omega) hb⟩ (by omega) rfl ⟨rfl, rfl, nx _, trivial⟩
    · have hk : k = a.length := by omega
      subst hk
      exact end1 rfl (List.Sublist.refl _) (rb (dec_t (by rw [List.take_length, hn, List.take_length] at g2; exact g2)).symm) (.inl rfl)
end Go.Proofs.YtmcljepicadjfaaDoor

/-
  Small functions of the reference and the program over numbers and lists of numbers: bounds, rising, membership, equality. No condition.
-/
namespace Go.Proofs.YtmcljepicadjfaaDoor
open Go.AI
set_option maxRecDepth 8000
set_option maxHeartbeats 1600000

theorem c_l00In (n low high : Int) : Gives Tryd.prog 24 [.int n, .int low, .int high] (.raw (.bool (dec (low ≤ n ∧ n ≤ high)))) := by
  refine fn_of_run tyOk ztOk mix Tryd.func24 rfl (by decide) Tryd.ntmps24 (fun w0 h => ?_)
  repeat' (first
      | (refine j_go ?_; first
        | refine j_op0 rfl rfl rfl rfl ?_ | refine j_off rfl rfl rfl ?_ | (refine j_kGuard rfl ?_; first | (refine (j_if rfl rfl rfl (fun hb => ?_) (fun hb => ?_)) <;> first | (exfalso; omega) | skip)))
      | refine j_nil ?_
      | (refine r_go ?_; first | refine run_seq ?_ | refine run_region ?_ | refine run_ret ?_)
      | refine seqQ_normal ?_)
  all_goals first | exact end1 rfl (by first | exact List.Sublist.refl _ | exact sub1 | exact sub2 | exact sub3) (rbT (by omega)) (.inl rfl) | exact end1 rfl (by first | exact List.Sublist.refl _ | exact sub1 | exact sub2 | exact sub3) (rbF (by omega)) (.inl rfl) | exact end1 rfl (List.Sublist.refl _) (rb (by simp [dec_eq]; omega)) (.inl rfl)

theorem c_inRange (n low high : Int) : Gives Tryd.prog 46 [.int n, .int low, .int high] (.raw (.bool (dec (low ≤ n ∧ n ≤ high)))) := by
  refine fn_of_run tyOk ztOk mix Tryd.func46 rfl (by decide) Tryd.ntmps46 (fun w0 h => ?_)
  repeat' (first
      | (refine j_go ?_; first
        | refine j_op0 rfl rfl rfl rfl ?_ | refine j_off rfl rfl rfl ?_ | (refine j_kGuard rfl ?_; first | (refine (j_if rfl rfl rfl (fun hb => ?_) (fun hb => ?_)) <;> first | (exfalso; omega) | skip)))
      | refine j_nil ?_
      | (refine r_go ?_; first | refine run_seq ?_ | refine run_region ?_ | refine run_ret ?_)
      | refine seqQ_normal ?_)
  all_goals first | exact end1 rfl (by first | exact List.Sublist.refl _ | exact sub1 | exact sub2 | exact sub3) (rbT (by omega)) (.inl rfl) | exact end1 rfl (by first | exact List.Sublist.refl _ | exact sub1 | exact sub2 | exact sub3) (rbF (by omega)) (.inl rfl) | exact end1 rfl (List.Sublist.refl _) (rb (by simp [dec_eq]; omega)) (.inl rfl)

/-- Numbers that rise, within bounds. -/
def Rises (lo hi : Int) (l : List Int) : Prop := ∀ i (h : i < l.length), (lo ≤ l[i] ∧ l[i] ≤ hi) ∧ (0 < i → l[i-1] < l[i])

theorem c_l00Rises (l : List Int) (lo hi : Int) : Gives Tryd.prog 25 [.sl (l.map Go.AI.encI), .int lo, .int hi] (.raw (.bool (dec (Rises lo hi l)))) := by
  refine fn_of_run tyOk ztOk mix Tryd.func25 rfl (by decide) Tryd.ntmps25 (fun w0 h => ?_)
  refine run_len (t := 0) rfl (fun hl => ?_)
  rw [List.length_map] at hl
  repeat' (first
      | (refine j_go ?_; first
        | refine j_op0 rfl rfl rfl rfl ?_)
      | refine j_nil ?_
      | (refine r_go ?_; first | refine run_seq ?_ | refine run_region ?_ | refine run_block ?_)
      | refine seqQ_normal ?_)
  refine run_loop (fun k : Nat => [(0, .sl (l.map Go.AI.encI)), (1, .int lo), (2, .int hi), (7, .int (k : Int))]) (fun _ => _) (fun k => k ≤ l.length ∧ (∀ i (h : i < l.length), i < k → (lo ≤ l[i] ∧ l[i] ≤ hi) ∧ (0 < i → l[i-1] < l[i]))) (fun k => l.length - k) 0 ⟨rfl, rfl, rfl, rfl, trivial⟩ rfl ⟨Nat.zero_le _, by first | (intros; omega) | (simp; done) | rfl | trivial | exact ⟨by simp [sumF], by intros; omega⟩ | exact ⟨by omega, by simp⟩⟩ (fun k ⟨kl, kp⟩ => ?_)
  have e : ((k : Int) - 1).toNat = k - 1 := by omega
  repeat' (first
      | (refine j_go ?_; first
        | refine j_op0 rfl rfl rfl rfl ?_ | refine j_off rfl rfl rfl ?_ | (refine j_kIdx rfl ?_; first | refine j_idx rfl rfl rfl rfl rfl (by omega) rfl rfl rfl ?_ | refine j_idxz rfl rfl rfl rfl rfl ⟨by omega, by omega⟩ rfl rfl rfl ?_) | (refine j_kBin rfl ?_; first | refine j_in rfl rfl ⟨by omega, by omega⟩ rfl rfl ?_) | (refine j_kLen rfl ?_; first | refine j_len rfl rfl rfl rfl rfl rfl ?_) | (refine j_kCall rfl rfl rfl rfl ?_; first | refine jc (c_l00In _ _ _) (LeL.refl _) rfl rfl ?_) | (refine j_kGuard rfl ?_; first | (refine (j_if rfl rfl rfl (fun hb => ?_) (fun hb => ?_)) <;> first | (exfalso; omega) | skip) | (refine (j_ifn rfl rfl rfl (fun hb => ?_) (fun hb => ?_)) <;> first | (exfalso; omega) | skip)))
      | refine j_nil ?_
      | (refine r_go ?_; first | refine run_seq ?_ | refine run_region ?_ | refine run_cond_t rfl ?_ | refine run_cond_f rfl ?_ | (refine (run_if rfl (fun hb => ?_) (fun hb => ?_)) <;> first | (exfalso; omega) | skip) | refine run_block ?_ | refine run_ret ?_ | refine run_exit ?_ | refine run_skip ?_ | refine run_regionD (by kernel_rfl) ?_)
      | refine seqQ_normal ?_ | refine seqQ_ret ?_ | refine seqQ_exit ?_ | refine blockQ_normal ?_ | refine blockQ_ret ?_ | refine blockQ_eq ?_ | refine loopQ_ret ?_ | refine loopQ_exit ?_)
  · exact end1 rfl (by first | exact List.Sublist.refl _ | exact sub1 | exact sub2 | exact sub3) (rbF (fun q => hb (q k (by omega)).1)) (.inl rfl)
  · simp only [e] at hb
    exact end1 rfl (by first | exact List.Sublist.refl _ | exact sub1 | exact sub2 | exact sub3) (rbF (fun q => by have := (q k (by omega)).2 (by omega); omega)) (.inl rfl)
  · simp only [e] at hb
    exact loopQ_nextD (k + 1) ⟨by omega, all_step kp (fun _ => ⟨by assumption, fun _ => by omega⟩)⟩ (by omega) (by first | exact List.Sublist.refl _ | exact sub1 | exact sub2 | exact sub3) ⟨rfl, rfl, rfl, nx _, trivial⟩
  · exact loopQ_nextD (k + 1) ⟨by omega, all_step kp (fun _ => ⟨by assumption, fun _ => by omega⟩)⟩ (by omega) (by first | exact List.Sublist.refl _ | exact sub1 | exact sub2 | exact sub3) ⟨rfl, rfl, rfl, nx _, trivial⟩
  · exact end1 rfl (by first | exact List.Sublist.refl _ | exact sub1 | exact sub2 | exact sub3) (rbT (fun i h => kp i h (by omega))) (.inl rfl)

theorem c_l00Has (l : List Int) (n : Int) : Gives Tryd.prog 26 [.sl (l.map Go.AI.encI), .int n] (.raw (.bool (dec (n ∈ l)))) := by
  refine fn_of_run tyOk ztOk mix Tryd.func26 rfl (by decide) Tryd.ntmps26 (fun w0 h => ?_)
  refine run_len (t := 0) rfl (fun hl => ?_)
  rw [List.length_map] at hl
  repeat' (first
      | (refine j_go ?_; first
        | refine j_op0 rfl rfl rfl rfl ?_)
      | refine j_nil ?_
      | (refine r_go ?_; first | refine run_seq ?_ | refine run_region ?_ | refine run_block ?_)
      | refine seqQ_normal ?_)
  refine run_loop (fun k : Nat => [(0, .sl (l.map Go.AI.encI)), (1, .int n), (5, .int (k : Int))]) (fun _ => _) (fun k => k ≤ l.length ∧ (∀ i (h : i < l.length), i < k → l[i] ≠ n)) (fun k => l.length - k) 0 ⟨rfl, rfl, rfl, trivial⟩ rfl ⟨Nat.zero_le _, by first | (intros; omega) | (simp; done) | rfl | trivial | exact ⟨by simp [sumF], by intros; omega⟩ | exact ⟨by omega, by simp⟩⟩ (fun k ⟨kl, kp⟩ => ?_)
  repeat' (first
      | (refine j_go ?_; first
        | refine j_op0 rfl rfl rfl rfl ?_ | (refine j_kIdx rfl ?_; first | refine j_idx rfl rfl rfl rfl rfl (by omega) rfl rfl rfl ?_) | (refine j_kBin rfl ?_; first | refine j_in rfl rfl ⟨by omega, by omega⟩ rfl rfl ?_) | (refine j_kLen rfl ?_; first | refine j_len rfl rfl rfl rfl rfl rfl ?_))
      | refine j_nil ?_
      | (refine r_go ?_; first | refine run_seq ?_ | refine run_region ?_ | (refine (run_if rfl (fun hb => ?_) (fun hb => ?_)) <;> first | (exfalso; omega) | skip) | refine run_block ?_ | refine run_ret ?_ | refine run_exit ?_ | refine run_skip ?_)
      | refine seqQ_normal ?_ | refine seqQ_ret ?_ | refine seqQ_exit ?_ | refine blockQ_normal ?_ | refine blockQ_ret ?_ | refine blockQ_eq ?_ | refine loopQ_ret ?_ | refine loopQ_exit ?_)
  · exact end1 rfl (by first | exact List.Sublist.refl _ | exact sub1 | exact sub2 | exact sub3) (rbT (hb ▸ List.getElem_mem _)) (.inl rfl)
  · exact loopQ_nextD (k + 1) ⟨by omega, all_step kp (fun _ => hb)⟩ (by omega) (by first | exact List.Sublist.refl _ | exact sub1 | exact sub2 | exact sub3) ⟨rfl, rfl, nx _, trivial⟩
  · exact end1 rfl (by first | exact List.Sublist.refl _ | exact sub1 | exact sub2 | exact sub3) (rbF (fun q => by obtain ⟨i, hi, e⟩ := List.getElem_of_mem q; exact kp i hi (by omega) e)) (.inl rfl)


end Go.Proofs.YtmcljepicadjfaaDoor

/-
  The data of the laws' theme 7, as structures, and the helpers of the laws over them: sizes, copies, comparisons. No condition but that the sizes are at most 1048576.
-/
namespace Go.Proofs.YtmcljepicadjfaaDoor
open Go.AI
set_option maxRecDepth 8000

structure Cnf where
  vars : Int
  clauses : List (List Int)
  deriving DecidableEq, Inhabited
def encCnf (x : Cnf) : List A := [.int x.vars, .sl (x.clauses.map (encS Go.AI.encI))]
/-- What its size tells of it. -/
structure OkCnf (x : Cnf) : Prop where
  clauses : x.clauses.length ≤ 1048576 ∧ ∀ r ∈ x.clauses, r.length ≤ 1048576
theorem c_eqCnf (x y : Cnf) : Gives Tryd.prog 6 [.agg (encCnf x), .agg (encCnf y)] (.raw (.bool (dec (x = y)))) := by
  refine fn_of_run tyOk ztOk mix Tryd.func6 rfl (by decide) Tryd.ntmps6 (fun w0 h => ?_)
  repeat' (first
      | (refine j_go ?_; first
        | refine j_op0 rfl rfl rfl rfl ?_ | (refine j_kCall rfl rfl rfl rfl ?_; first | refine jc (c_eqInt64SS _ _) (LeL.refl _) rfl rfl ?_) | refine j_box rfl rfl rfl rfl rfl rfl ?_)
      | refine j_nil ?_
      | (refine r_go ?_; first | refine run_seq ?_ | refine run_region ?_ | (refine (run_ifn rfl (fun hb => ?_) (fun hb => ?_)) <;> first | (exfalso; omega) | skip) | refine run_ret ?_ | refine run_skip ?_)
      | refine seqQ_normal ?_ | refine seqQ_ret ?_)
  all_goals first | exact end1 rfl (List.Sublist.refl _) (rb (dec_f (fun q => hb (by rw [q]))).symm) (.inl rfl) | exact end1 rfl (List.Sublist.refl _) (rb (dec_t (by cases x; cases y; simp_all)).symm) (.inl rfl)

structure Group where
  charge : Int
  contents : List Int
  count : Int
  deriving DecidableEq, Inhabited
/-- What its size tells of it. -/
structure OkGroup (x : Group) : Prop where
  contents : x.contents.length ≤ 1048576
structure Colony where
  skin : List Int
  groups : List Group
  deriving DecidableEq, Inhabited
/-- What its size tells of it. -/
structure OkColony (x : Colony) : Prop where
  skin : x.skin.length ≤ 1048576
  groups : x.groups.length ≤ 1048576 ∧ ∀ r ∈ x.groups, OkGroup r
structure DivRule where
  kind : Int
  charge : Int
  object : Int
  to : Int
  first : List Int
  toB : Int
  second : List Int
  deriving DecidableEq, Inhabited
/-- What its size tells of it. -/
structure OkDivRule (x : DivRule) : Prop where
  first : x.first.length ≤ 1048576
  second : x.second.length ≤ 1048576
structure Division where
  objects : Int
  rules : List DivRule
  deriving DecidableEq, Inhabited
/-- What its size tells of it. -/
structure OkDivision (x : Division) : Prop where
  rules : x.rules.length ≤ 1048576 ∧ ∀ r ∈ x.rules, OkDivRule r
end Go.Proofs.YtmcljepicadjfaaDoor

/-
  Formulas: what the reference's and the program's ValidCnf compute. No condition.
-/
namespace Go.Proofs.YtmcljepicadjfaaDoor
open Go.AI
set_option maxRecDepth 8000
set_option maxHeartbeats 1600000

def Cnf.Valid (f : Cnf) : Prop := (1 ≤ f.vars ∧ f.vars ≤ 4) ∧ f.clauses.length ≤ 6 ∧ ∀ c ∈ f.clauses, Rises (0 - f.vars) f.vars c ∧ 0 ∉ c

theorem c_l07Cnf (f : Cnf) : Gives Tryd.prog 13 [.ip (encCnf f)] (.raw (.bool (dec f.Valid))) := by
  refine fn_of_run tyOk ztOk mix Tryd.func13 rfl (by decide) Tryd.ntmps13 (fun w0 h => ?_)
  repeat' (first
      | (refine j_go ?_; first
        | refine j_op0 rfl rfl rfl rfl ?_ | refine j_off rfl rfl rfl ?_ | (refine j_kLen rfl ?_; first | refine j_len rfl rfl rfl rfl rfl rfl ?_) | (refine j_kCall rfl rfl rfl rfl ?_; first | refine jc (c_l00In _ _ _) (LeL.refl _) rfl rfl ?_) | (refine j_kGuard rfl ?_; first | (refine (j_ifn rfl rfl rfl (fun hb => ?_) (fun hb => ?_)) <;> first | (exfalso; omega) | skip)))
      | refine j_nil ?_
      | (refine r_go ?_; first | refine run_seq ?_ | refine run_region ?_ | refine run_cond_t rfl ?_ | (refine (run_if rfl (fun hb => ?_) (fun hb => ?_)) <;> first | (exfalso; omega) | skip) | refine run_block ?_ | refine run_ret ?_ | refine run_skip ?_)
      | refine seqQ_normal ?_ | refine seqQ_ret ?_)
  · exact end1 rfl (by first | exact List.Sublist.refl _ | exact sub1 | exact sub2 | exact sub3) (rbF (fun q => hb q.1)) (.inl rfl)
  · exact end1 rfl (by first | exact List.Sublist.refl _ | exact sub1 | exact sub2 | exact sub3) (rbF (fun q => by have := q.2.1; omega)) (.inl rfl)
  · refine run_loop (fun k : Nat => [(0, .ip (encCnf f)), (3, .int (k : Int))]) (fun _ => _) (fun k => k ≤ f.clauses.length ∧ (∀ i (h : i < f.clauses.length), i < k → Rises (0 - f.vars) f.vars f.clauses[i] ∧ 0 ∉ f.clauses[i])) (fun k => f.clauses.length - k) 0 ⟨rfl, rfl, trivial⟩ rfl ⟨Nat.zero_le _, by first | (intros; omega) | (simp; done) | rfl | trivial | exact ⟨by simp [sumF], by intros; omega⟩ | exact ⟨by omega, by simp⟩⟩ (fun k ⟨kl, kp⟩ => ?_)
    repeat' (first
      | (refine j_go ?_; first
        | refine j_op0 rfl rfl rfl rfl ?_ | refine j_off rfl rfl rfl ?_ | (refine j_kIdx rfl ?_; first | refine j_idx rfl rfl rfl rfl rfl (by omega) rfl rfl rfl ?_) | (refine j_kBin rfl ?_; first | refine j_in rfl rfl ⟨by omega, by omega⟩ rfl rfl ?_) | (refine j_kLen rfl ?_; first | refine j_len rfl rfl rfl rfl rfl rfl ?_) | (refine j_kCall rfl rfl rfl rfl ?_; first | refine jc (c_l00Rises _ _ _) (LeL.refl _) rfl rfl ?_ | refine jc (c_l00Has _ _) (LeL.refl _) rfl rfl ?_) | (refine j_kGuard rfl ?_; first | (refine (j_ifn rfl rfl rfl (fun hb => ?_) (fun hb => ?_)) <;> first | (exfalso; omega) | skip)) | refine j_in rfl rfl ⟨by omega, by omega⟩ rfl rfl ?_)
      | refine j_nil ?_
      | (refine r_go ?_; first | refine run_seq ?_ | refine run_region ?_ | refine run_cond_t rfl ?_ | (refine (run_if rfl (fun hb => ?_) (fun hb => ?_)) <;> first | (exfalso; omega) | skip) | refine run_block ?_ | refine run_ret ?_ | refine run_exit ?_ | refine run_skip ?_ | refine run_regionD (by kernel_rfl) ?_)
      | refine seqQ_normal ?_ | refine seqQ_ret ?_ | refine seqQ_exit ?_ | refine blockQ_normal ?_ | refine blockQ_ret ?_ | refine blockQ_eq ?_ | refine loopQ_ret ?_ | refine loopQ_exit ?_)
    · exact end1 rfl (by first | exact List.Sublist.refl _ | exact sub1 | exact sub2 | exact sub3) (rbF (fun q => hb (q.2.2 _ (List.getElem_mem _)).1)) (.inl rfl)
    · exact end1 rfl (by first | exact List.Sublist.refl _ | exact sub1 | exact sub2 | exact sub3) (rbF (fun q => (q.2.2 _ (List.getElem_mem _)).2 hb)) (.inl rfl)
    · exact loopQ_nextD (k + 1) ⟨by omega, all_step kp (fun _ => ⟨by assumption, hb⟩)⟩ (by omega) (by first | exact List.Sublist.refl _ | exact sub1 | exact sub2 | exact sub3) ⟨rfl, nx _, trivial⟩
    · exact end1 rfl (by first | exact List.Sublist.refl _ | exact sub1 | exact sub2 | exact sub3) (rbT (⟨by assumption, by omega, fun c hc => by obtain ⟨i, hi, rfl⟩ := List.getElem_of_mem hc; exact kp i hi (by omega)⟩)) (.inl rfl)


theorem c_iValidCnf (f : Cnf) : Gives Tryd.prog 32 [.agg (encCnf f)] (.raw (.bool (dec f.Valid))) := by
  refine fn_of_run tyOk ztOk mix Tryd.func32 rfl (by decide) Tryd.ntmps32 (fun w0 h => ?_)
  repeat' (first
      | (refine j_go ?_; first
        | refine j_op0 rfl rfl rfl rfl ?_ | refine j_off rfl rfl rfl ?_ | (refine j_kLen rfl ?_; first | refine j_len rfl rfl rfl rfl rfl rfl ?_) | (refine j_kCall rfl rfl rfl rfl ?_; first | refine jc (c_inRange _ _ _) (LeL.refl _) rfl rfl ?_) | (refine j_kGuard rfl ?_; first | (refine (j_ifn rfl rfl rfl (fun hb => ?_) (fun hb => ?_)) <;> first | (exfalso; omega) | skip)) | refine j_box rfl rfl rfl rfl rfl rfl ?_)
      | refine j_nil ?_
      | (refine r_go ?_; first | refine run_seq ?_ | refine run_region ?_ | refine run_cond_t rfl ?_ | (refine (run_if rfl (fun hb => ?_) (fun hb => ?_)) <;> first | (exfalso; omega) | skip) | refine run_block ?_ | refine run_ret ?_ | refine run_skip ?_)
      | refine seqQ_normal ?_ | refine seqQ_ret ?_)
  · exact end1 rfl (by first | exact List.Sublist.refl _ | exact sub1 | exact sub2 | exact sub3) (rbF (fun q => hb q.1)) (.inl rfl)
  · exact end1 rfl (by first | exact List.Sublist.refl _ | exact sub1 | exact sub2 | exact sub3) (rbF (fun q => by have := q.2.1; omega)) (.inl rfl)
  · refine run_loop (fun k : Nat => [(1, .ip (encCnf f)), (18, .sl (f.clauses.map (encS Go.AI.encI))), (19, .int f.clauses.length), (20, .int (k : Int))]) (fun _ => _) (fun k => k ≤ f.clauses.length ∧ (∀ i (h : i < f.clauses.length), i < k → Rises (0 - f.vars) f.vars f.clauses[i] ∧ 0 ∉ f.clauses[i])) (fun k => f.clauses.length - k) 0 ⟨rfl, rfl, rfl, rfl, trivial⟩ rfl ⟨Nat.zero_le _, by first | (intros; omega) | (simp; done) | rfl | trivial | exact ⟨by simp [sumF], by intros; omega⟩ | exact ⟨by omega, by simp⟩⟩ (fun k ⟨kl, kp⟩ => ?_)
    repeat' (first
      | (refine j_go ?_; first
        | refine j_op0 rfl rfl rfl rfl ?_ | (refine j_kIdx rfl ?_; first | refine j_idx rfl rfl rfl rfl rfl (by omega) rfl rfl rfl ?_) | (refine j_kLen rfl ?_; first | refine j_len rfl rfl rfl rfl rfl rfl ?_))
      | refine j_nil ?_
      | (refine r_go ?_; first | refine run_seq ?_ | refine run_region ?_ | (refine (run_if rfl (fun hb => ?_) (fun hb => ?_)) <;> first | (exfalso; omega) | skip) | refine run_block ?_ | refine run_ret ?_ | refine run_exit ?_ | refine run_skip ?_)
      | refine seqQ_normal ?_ | refine seqQ_exit ?_ | refine blockQ_eq ?_ | refine loopQ_exit ?_)
    · have hk : k < f.clauses.length := by omega
      refine run_len (t := 4) rfl (fun hl => ?_)
      rw [List.length_map] at hl
      refine run_loop (fun j : Nat => [(1, .ip (encCnf f)), (4, .sl (f.clauses[k].map Go.AI.encI)), (18, .sl (f.clauses.map (encS Go.AI.encI))), (19, .int f.clauses.length), (20, .int (k : Int)), (24, .sl (f.clauses[k].map Go.AI.encI)), (25, .int f.clauses[k].length), (26, .int (j : Int))]) (fun _ => _) (fun j => j ≤ f.clauses[k].length ∧ (∀ i (h : i < f.clauses[k].length), i < j → ((0 - f.vars ≤ f.clauses[k][i] ∧ f.clauses[k][i] ≤ f.vars) ∧ (0 < i → f.clauses[k][i-1] < f.clauses[k][i])) ∧ f.clauses[k][i] ≠ 0)) (fun j => f.clauses[k].length - j) 0 ⟨rfl, rfl, rfl, rfl, rfl, rfl, rfl, rfl, trivial⟩ rfl ⟨Nat.zero_le _, by first | (intros; omega) | (simp; done) | rfl | trivial | exact ⟨by simp [sumF], by intros; omega⟩ | exact ⟨by omega, by simp⟩⟩ (fun j ⟨jl, jp⟩ => ?_)
      have e : ((j : Int) - 1).toNat = j - 1 := by omega
      repeat' (first
      | (refine j_go ?_; first
        | refine j_op0 rfl rfl rfl rfl ?_ | refine j_off rfl rfl rfl ?_ | (refine j_kIdx rfl ?_; first | refine j_idx rfl rfl rfl rfl rfl (by omega) rfl rfl rfl ?_ | refine j_idxz rfl rfl rfl rfl rfl ⟨by omega, by omega⟩ rfl rfl rfl ?_) | (refine j_kBin rfl ?_; first | refine j_in rfl rfl ⟨by omega, by omega⟩ rfl rfl ?_) | (refine j_kCall rfl rfl rfl rfl ?_; first | refine jc (c_inRange _ _ _) (LeL.refl _) rfl rfl ?_) | (refine j_kGuard rfl ?_; first | (refine (j_if rfl rfl rfl (fun hb => ?_) (fun hb => ?_)) <;> first | (exfalso; omega) | skip) | (refine (j_ifn rfl rfl rfl (fun hb => ?_) (fun hb => ?_)) <;> first | (exfalso; omega) | skip)) | refine j_in rfl rfl ⟨by omega, by omega⟩ rfl rfl ?_)
      | refine j_nil ?_
      | (refine r_go ?_; first | refine run_seq ?_ | refine run_region ?_ | refine run_cond_t rfl ?_ | refine run_cond_f rfl ?_ | (refine (run_if rfl (fun hb => ?_) (fun hb => ?_)) <;> first | (exfalso; omega) | skip) | refine run_block ?_ | refine run_ret ?_ | refine run_exit ?_ | refine run_skip ?_)
      | refine seqQ_normal ?_ | refine seqQ_ret ?_ | refine seqQ_exit ?_ | refine blockQ_normal ?_ | refine blockQ_ret ?_ | refine blockQ_eq ?_ | refine loopQ_ret ?_ | refine loopQ_exit ?_)
      all_goals try simp only [e] at hb
      · exact end1 rfl (by first | exact List.Sublist.refl _ | exact sub1 | exact sub2 | exact sub3) (rbF (fun q => (q.2.2 _ (List.getElem_mem hk)).2 (hb ▸ List.getElem_mem _))) (.inl rfl)
      · exact end1 rfl (by first | exact List.Sublist.refl _ | exact sub1 | exact sub2 | exact sub3) (rbF (fun q => hb ((q.2.2 _ (List.getElem_mem hk)).1 j (by omega)).1)) (.inl rfl)
      · exact end1 rfl (by first | exact List.Sublist.refl _ | exact sub1 | exact sub2 | exact sub3) (rbF (fun q => by have := ((q.2.2 _ (List.getElem_mem hk)).1 j (by omega)).2 (by omega); omega)) (.inl rfl)
      · exact loopQ_nextD (j + 1) ⟨by omega, all_step jp (fun _ => ⟨⟨by assumption, fun _ => by omega⟩, by assumption⟩)⟩ (by omega) (by first | exact List.Sublist.refl _ | exact sub1 | exact sub2 | exact sub3) ⟨rfl, rfl, rfl, rfl, rfl, rfl, rfl, nx _, trivial⟩
      · exact loopQ_nextD (j + 1) ⟨by omega, all_step jp (fun _ => ⟨⟨by assumption, fun _ => by omega⟩, by assumption⟩)⟩ (by omega) (by first | exact List.Sublist.refl _ | exact sub1 | exact sub2 | exact sub3) ⟨rfl, rfl, rfl, rfl, rfl, rfl, rfl, nx _, trivial⟩
      · exact loopQ_nextD (k + 1) ⟨by omega, all_step kp (fun _ => ⟨fun i h => (jp i h (by omega)).1, fun q => by obtain ⟨i, hi, e⟩ := List.getElem_of_mem q; exact (jp i hi (by omega)).2 e⟩)⟩ (by omega) (by first | exact List.Sublist.refl _ | exact sub1 | exact sub2 | exact sub3) ⟨rfl, rfl, rfl, nx _, trivial⟩
    · exact end1 rfl (by first | exact List.Sublist.refl _ | exact sub1 | exact sub2 | exact sub3) (rbT (⟨by assumption, by omega, fun c hc => by obtain ⟨i, hi, rfl⟩ := List.getElem_of_mem hc; exact kp i hi (by omega)⟩)) (.inl rfl)

end Go.Proofs.YtmcljepicadjfaaDoor

/-
  Texts of formulas: plain facts. No condition.
-/
namespace Go.Proofs.YtmcljepicadjfaaDoor
open Go.AI Go.RowKit
set_option maxRecDepth 8000
set_option maxHeartbeats 1600000
open Classical in
/-- A text where a condition holds, else the empty one. -/
noncomputable def txP (p : Prop) (l : List UInt8) : List UInt8 := if p then l else []
theorem tx_t {p : Prop} (h : p) (l : List UInt8) : txP p l = l := by unfold txP; rw [if_pos h]
theorem tx_f {p : Prop} (h : ¬p) (l : List UInt8) : txP p l = [] := by unfold txP; rw [if_neg h]
def vT (v : Int) : List UInt8 := [32] ++ dcm v
def clT (c : List Int) : List UInt8 := [99, 108, 97, 117, 115, 101] ++ catK vT c c.length ++ (if c = [] then [32, 46] else []) ++ [10]
def cnfT (f : Cnf) : List UInt8 := [99, 110, 102, 32] ++ dcm f.vars ++ [10] ++ catK clT f.clauses f.clauses.length
theorem rises_ge {lo hi : Int} {c : List Int} (h : Rises lo hi c) : ∀ i (hi : i < c.length), lo + (i : Int) ≤ c[i]
  | 0, hi => by have := (h 0 hi).1; omega
  | i + 1, hi => by
    have h1 := rises_ge h i (by omega)
    have h2 := (h (i + 1) hi).2 (by omega)
    simp only [Nat.add_sub_cancel] at h2
    omega
theorem rises_len {lo hi : Int} {c : List Int} (h : Rises lo hi c) (h0 : lo ≤ hi) : (c.length : Int) ≤ hi - lo + 1 := by
  by_cases q : c.length = 0
  · omega
  · have h1 := rises_ge h (c.length - 1) (by omega)
    have h2 := (h (c.length - 1) (by omega)).1
    omega
theorem cnf_cl {f : Cnf} (hv : f.Valid) {k : Nat} (hk : k < f.clauses.length) : f.clauses[k].length ≤ 9 ∧ ∀ x ∈ f.clauses[k], -4 ≤ x ∧ x ≤ 4 := by
  have h1 := (hv.2.2 _ (List.getElem_mem hk)).1
  have h2 := rises_len h1 (by have := hv.1; omega)
  have h3 := hv.1
  refine ⟨by omega, fun x hx => ?_⟩
  obtain ⟨i, hi, rfl⟩ := List.getElem_of_mem hx
  have := (h1 i hi).1
  omega
theorem vT_len {v : Int} (h : -4 ≤ v ∧ v ≤ 4) : (vT v).length ≤ 21 := by
  unfold vT
  have := dcm_len (n := v) ⟨by omega, by omega⟩
  simp; omega
theorem clT_len {c : List Int} (h : c.length ≤ 9) (h2 : ∀ x ∈ c, -4 ≤ x ∧ x ≤ 4) : (clT c).length ≤ 200 := by
  have h3 := catK_len (g := vT) (M := 21) (l := c) (fun x hx => vT_len (h2 x hx)) c.length
  unfold clT
  split <;> simp only [List.length_append, List.length_cons, List.length_nil] <;> omega
theorem cls_len {f : Cnf} (hv : f.Valid) (k : Nat) : (catK clT f.clauses k).length ≤ 1200 := by
  have h1 := catK_len (g := clT) (M := 200) (l := f.clauses) (fun x hx => by
    obtain ⟨i, hi, rfl⟩ := List.getElem_of_mem hx
    have := cnf_cl hv hi
    exact clT_len this.1 this.2) k
  have := hv.2.1
  omega

end Go.Proofs.YtmcljepicadjfaaDoor
